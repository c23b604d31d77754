/-
  Parts: Rules for maps: looking up, and what is found there under a name of its own. Own work. Rules for maps: writing and deleting entries. Own work. Rules for maps: writing, deleting, filling a gap. Own work. Rules for maps: making one, its length, loops over one. Own work. Rules for maps: the rounds of a loop over one. Own work. Rules for maps: rounds of a loop, by what the entries are; maps of data. Own work. Maps of rows become maps of data; an entry of a map of data, beside the map. Own work. A walker over code: runs of operations and control, by computation over abstract states. Own work. From functions of fuel to functions without fuel. Own work. Arrays whose cells are rows of their own: changes of form. Own work. A row is taken out of a map for good: the entry is left, what it holds is said no more. Own work. Functions as trees: what they compute, and the walk through code that shows it. Own work. Functions as trees: the trees, what they compute, and the check against code. Own work. Functions as trees: the check of a tree against code. Own work. Functions as trees: what the check shows. Own work. Rows of ours: cut short, cleared from a place on. Own work.
-/
import Derived.Test.YtjefblkdnolgaaaGreatDoorMb
import Derived.Laws.Cover3
set_option maxHeartbeats 4000000
namespace Go.PL
open Go
variable {A R S α:Type} {c e e' et i j m o q s s' t:Nat} {kx x:Operand} {ops:List Oper} {ov:Option (Nat×Nat×PV)} {p:PV} {r:List MapEntry} {v:Value} {y:Mem}
def Xk(d:Nat):Option Iter->Bool
 | none=>true
 | some i=>match Nat.beq i.o d with | true=>false | false=>true
theorem Nq{d:Nat}{it:Option Iter}(h:Xk d it=true):∀ k,k∈itN it->k≠d:=by
 cases it with
 | none=>simp[itN]
 | some i=>
  simp only[Xk]at h;split at h
  ·cases h
  ·rename_i hk;intro k D;simp only[itN,cZ]at D;subst D;exact pB hk
section
variable {F:Nat->Prop} {g g':Nat->Value} {w:World} {b clock ob d:Nat} {es:Array MapEntry} {it:Option Iter}
theorem ItR.agree{it:Option Iter}(h:ItR g w b es clock it)(hg:∀ k,k∈itN it->g' k=g k):ItR g' w b es clock it:=by
 cases it with
 | none=>exact True.intro
 | some i=>obtain⟨r,D,G,M,J,e⟩:=h;exact⟨r,D,G,M,by rw[hg i.o (by simp[itN])]; exact J,e⟩
theorem MpR.uniq{m:List (T×Mem)}{ho:Option (T×Option PV)}{l:List MapEntry}(h:MpR F g w b es clock it m ho l r){x:T×Mem}(hx:x∈m){e e':MapEntry}(he:e∈es.toList)(G:e'∈es.toList)
  (hk:KeyR x.1 e.key)(D:KeyR x.1 e'.key):e=e':=by
 obtain⟨_,i,h1,h2⟩:=h.entry hx he hk;obtain⟨_,j,h3,h4⟩:=h.entry hx G D;have hn:=(zH.1 h.keys).1;have:i=j:=by
  have M:(m.map (·.1))[i]? = some x.1:=by simp[h1]
  have J:(m.map (·.1))[j]? = some x.1:=by simp[h3]
  exact(List.getElem?_inj (by grind) hn).1 (M.trans J.symm)
 simp_all
theorem bC.perm{m D:List (T×Mem)}{ho:Option (T×Option PV)}(hp:m.Perm D){x:Nat}(h:bC g w ob (.mp it m ho) x):bC g w ob (.mp it D ho) x:=by
 cases h with
 | self h=>exact .self h
 | iter h=>exact .iter h
 | mem h1 h2 h3 h4 h5 h6 h7=>exact .mem h1 h2 h3 (hp.mem_iff.1 h4) h5 h6 h7
theorem bC.cons{m:List (T×Mem)}{ho D:Option (T×Option PV)}{y:T×Mem}{x:Nat}(h:bC g w ob (.mp it m ho) x):bC g w ob (.mp it (y::m) D) x:=by
 cases h with
 | self h=>exact .self h
 | iter h=>exact .iter h
 | mem h1 h2 h3 h4 h5 h6 h7=>exact .mem h1 h2 h3 (cO _ h4) h5 h6 h7
theorem bC.agree{x:bA}(ho:g' ob=g ob)(hg:∀ k,k∈itN it->g' k=g k){m:List (T×Mem)}{hl:Option (T×Option PV)}(hx:x = .mp it m hl)(h:bC g' w ob x c):bC g w ob x c:=by
 subst hx;cases h with
 | self h=>exact .self (ho▸h)
 | iter h=>exact .iter (by rw[<-hg _ (by simp[itN])]; exact h)
 | mem h1 h2 h3 h4 h5 h6 h7=>exact .mem (by simp_all) h2 h3 h4 h5 h6 h7
theorem MpR.give{m:List (T×Mem)}{D:T}{l:List MapEntry}(h:MpR F g w b es clock it ((D,y)::m) none l r)(Q:g ob = .map (some b))(hb:w.heap[b]? = some (.map es clock))(hy:y.owned=true)
  (hdo:d≠ob)(hit:Xk d it=true){e:MapEntry}(he:e∈es.toList)(hk:KeyR D e.key){p:Option PV}(hp:∀ g',g' d=e.val->∀ q,p=some q->VR F g' w q e.val):
  It F w y e.val/\∀ g',(∀ k,k≠d->g' k=g k)->g' d=e.val->dA F g' w ob (.mp it m (some (D,p)))/\(∀ c,bC g' w ob (.mp it m (some (D,p))) c->bC g w ob (.mp it ((D,y)::m) none) c) /\
   (∀ Y c,bA.plain Y=true->bC g' w d Y c->bC g w ob (.mp it ((D,y)::m) none) c)/\∀ Y c,bA.plain Y=true->bC g' w ob (.mp it m (some (D,p))) c->bC g' w d Y c->False:=by
 have G:=h.entry (x:=(D,y)) (by simp) he hk;refine⟨G.1.2,fun g' hg hd=>?_⟩;have hno:=Nq hit;have Z:∀ k,k∈itN it->g' k=g k:=fun k hk=>hg k (hno k hk);have M:g' ob=g ob:=hg ob (fun e=>hdo e.symm);obtain⟨e1,l',hl,hk1,hm1,he1,hM⟩:=h.focus (g':=g') (p:=p) (fun q hq v hv ⟨e2,h1,h2,h3⟩=>by have:e2=e:=h.uniq (x:=(D,y)) (by simp) h1 he h3 hk;simp_all) (h.it.agree Z);have foot:∀ c,bC g' w ob (.mp it m (some (D,p))) c->bC g w ob (.mp it ((D,y)::m) none) c:=fun c hc=>(bC.agree M Z rfl hc).cons;refine⟨⟨b,es,clock,by simp_all,hb,l',[e1],hM⟩,foot,fun Y c hY hc=>?_,fun Y c hY hc hc'=>?_⟩
 ·have:=hc.toBlk hY;rw[hd]at this;exact .mem Q hb he (x:=(D,y)) (by simp) hk hy this
 ·have hv:=hc'.toBlk hY;rw[hd]at hv;obtain⟨vs,ty,hcell⟩:=G.1.2.block hy hv;cases bC.agree M Z rfl hc with
  | self h'=>rw[Q]at h'; simp[blk]at h'; simp_all
  | iter h'=>obtain⟨r',since,seen,c0,e3,e4,_⟩:=h.it;rw[e3]at h'; simp[blk]at h'; simp_all
  | @mem _ _ _ _ bm cl es' e2 x h1 h2 h3 h4 h5 h6 h7=>
   rw[Q]at h1; injection h1 with h1; injection h1 with h1; subst h1;rw[hb]at h2; injection h2 with h2; injection h2 with h2 h2'; subst h2;obtain⟨_,j,J,hj2⟩:=h.entry (x:=x) (cO _ h4) h3 h5;obtain⟨_,i,hi1,hi2⟩:=G;have hij:i≠j:=by intro e'; subst e';rw[hi1]at J;injection J with J;have hn:=(zH.1 h.keys).1;simp_all
   exact h.sep i j _ _ _ _ c hi1 J hi2 hj2 hij hy h6 hv h7
theorem Cw.ts{u:Value}{l:List T}(h:Cw F g w u (l.map .t))(g':Nat->Value):Cw F g' w u (l.map .t):=
 h.mono (fun b hb=>⟨hb,rfl⟩) (fun o ho=>by rw[We]at ho; simp at ho) (fun _ _=>rfl)
end
section
variable {P:Program} {E:Env} {I:Inf} {F:Nat->Prop} {g:Nat->Value} {st:St} {a:Act} {w:World} {K V:Type} [MKey K]
theorem VR.key{k:T}(h:VR F g w (.t k) v){kd:TypeDesc}(D:Ur k=some kd):KeyR k v:=by
 have h:=h.cells_t rfl;cases k with
 | int q n=>rw[h.inv_int]; exact .int ..
 | str s=>rw[h.inv_str]; exact .str ..
 | _=>cases D
theorem Lc{N:List Nat}{d:Nat}{x' y:bA}{st2:St}(h:nE N o d x' y st=some st2):d≠o:=by
 unfold nE at h;split at h
 ·rename_i h1 h2 h3; exact pB h2
 ·cases h
theorem MpR.found{b clock:Nat}{es:Array MapEntry}{it:Option Iter}{enc:V->Mem}{v:List (K×V)}{l:List MapEntry}(h:MpR F g w b es clock it (eM enc v) none l r)(k:K):
  (bG v k=none->∀ e,e∈es.toList->¬ KeyR (MKey.kT k) e.key)/\(∀ c,bG v k=some c->(eM enc v).Perm ((MKey.kT k,enc c)::eM enc (mdel v k))/\∃ e,e∈es.toList/\KeyR (MKey.kT k) e.key):=by
 have D:(aY v).Nodup:=aMU (enc:=enc) (zH.1 h.keys).1;have hr:=h.hole;simp only[rI]at hr;subst hr;refine⟨fun hn e he hk=>?_,fun c hc=>?_⟩
 ·have:=h.perm.mem_iff.2 he;rw[eQ]at this;obtain⟨j,y,hy,_,G⟩:=h.ent.memr this;have hy:=lL hy;simp only[eM,cU]at hy;obtain⟨p,hp,rfl⟩:=hy;have:p.1=k:=MKey.inj _ _ (G.1.inj hk);exact kG hn (this▸Jo hp)
 ·have hp:=aAS (enc:=enc) (Wa D hc);refine⟨hp,?_⟩;obtain⟨j,e,h1,h2,h3⟩:=h.ent.mem (hp.mem_iff.2 (cS ..));exact⟨e,h.perm.mem_iff.1 (Uk _ (lL h2)),h3.1⟩
theorem Nu(hG:gN P E I){l:List Oper}{o:Oper}{rest:List Oper}{Q:iK}{d ob:Nat}{it:Option Iter}{nn:V->Nat}{ff:V->Nat->List T}(v:List (K×V))(k:K)(dflt:V)
  (hl:l=o::rest)(hop:o.op = .lookup t x kx false)(hd:o.dst=some d)(hw:cC ops o st=some true)(hnt:Nat.blt d I.nt=true)(hx:ev st x=some (.map ob))(hk:ev st kx=some (.t (MKey.kT k)))
  (hob:look st.hp ob=some (.mp it (eM (fun c=>.row e s (nn c) (ff c)) v) none))(hm:pH I.ti t (MKey.kT k)=some et)(hz:Ii P et (.slice none 0 0))(hit:Xk d it=true)(hdf:nn dflt=0){st2:St}
  (hs:nE I.N ob d (.mp it (eM (fun c=>.row e s (nn c) (ff c)) (mdel v k)) (some (MKey.kT k,none))) (.arr e s (nn ((bG v k).getD dflt)) (ff ((bG v k).getD dflt))) st=some st2)
  (h1:fG P E ops Q rest (st2.put d (.own d))):fG P E ops Q l st:=by
 refine fN hl hw fun F g a w r=>?_;have hd':d<E.nt:=by rw[hG.nt]; simp_all
 obtain⟨kt,kd,hT⟩:=tE hG.ti hm;obtain⟨info,hi,hz⟩:=hz;obtain⟨b,es,clock,e1,e2,l1,r1,Z⟩:=r.w.hp.obj _ _ (aX hob);have hxv:=bT r hx;have hkv:=(bT r hk).key hT.d;obtain⟨u,hu⟩:∃ u,a.eval x=u:=⟨_,rfl⟩;obtain⟨kv,hkv'⟩:∃ u,a.eval kx=u:=⟨_,rfl⟩;rw[hu]at hxv; rw[hkv']at hkv;have hdo:=Lc hs;have hno:=Nq hit;cases hxv with
 | map hg=>
  rw[e1]at hg; injection hg with hg; injection hg with hg; subst hg;have hrun:=qX (P:=P) hT hkv e2 (Z.kinds (by simp) k) hi hz;have hf:=Z.found k;have hex:∀ v',(Instr.lookup t (.map (some b)) kv false).run P w = .ok v' w->(execOp a.eval o).run P w = .ok (.value v') w:=by intro v' hv';unfold execOp;simp_all
  cases hlk:bG v k with
  | none=>
   rw[hlk]at hs;simp only[Option.getD_none]at hs;rcases hrun with⟨h2,hnk⟩ | ⟨e,he,hke,_⟩
   ·have hmd:mdel v k=v:=rW (kG hlk);have hag:∀ G:Nat->Value,(∀ q,q≠d->G q=g q)->∀ q,q∈itN it->G q=g q:=fun G hg q hq=>hg q (hno q hq);have hfx:∀ (G:Nat->Value) M,(∀ q,q≠d->G q=g q)->bC G w ob (.mp it (eM (fun c=>.row e s (nn c) (ff c)) (mdel v k)) (some (MKey.kT k,none))) M->bC g w ob (.mp it (eM (fun c=>.row e s (nn c) (ff c)) v) none) M:=by
     intro G M hg hc;rw[hmd]at hc;cases bC.agree (hg ob (fun e=>hdo e.symm)) (hag G hg) rfl hc with
     | self h=>exact .self h
     | iter h=>exact .iter h
     | mem a1 a2 a3 a4 a5 a6 a7=>exact .mem a1 a2 a3 a4 a5 a6 a7
    have hobj:∀ G:Nat->Value,(∀ q,q≠d->G q=g q)->dA F G w ob (.mp it (eM (fun c=>.row e s (nn c) (ff c)) (mdel v k)) (some (MKey.kT k,none))):=by intro G hg;refine⟨b,es,clock,by grind,e2,l1,r1,?_⟩;rw[hmd];have hr1:=Z.hole;simp only[rI]at hr1;subst hr1;refine⟨Z.perm,Z.ent,.inl rfl,?_,Z.born,Z.old,Z.sep,Z.it.agree (hag G hg)⟩;have hkk:=Z.keys;simp only[hoK,eQ]at hkk ⊢;rw[zH];refine⟨hkk,by simp,fun q hq q' hq'=>?_⟩;simp only[cZ]at hq';subst hq';intro e';rw[Fb,e',Yp]at hq;exact kG hlk hq
    obtain⟨_,G,D,hga,r'⟩:=r.focus hG.N (.slice none 0 0) hob hs (fun G hg D=>hobj G hg)
     (fun G hg D=>by simp only[dA]; rw[D]; exact .inl ⟨rfl,hdf⟩)
     (fun G M hg D hc=>hfx G M hg hc)
     (fun G M hg D hc=>by have:=hc.toBlk rfl; rw[D]at this; simp[blk]at this)
     (fun G M hg D hc hc'=>by have:=hc'.toBlk rfl; rw[D]at this; simp[blk]at this)
    exact⟨_,_,w,_,hex _ h2,.inl rfl,by rw[hd]; exact⟨F,G,r'.put hd' (.own D)⟩,h1⟩
   simp_all
  | some c=>
   rw[hlk]at hs;simp only[sH]at hs;obtain⟨hp,e0,he0,hk0⟩:=hf.2 c hlk;rcases hrun with⟨_,h2⟩ | ⟨e',he,hke,h2⟩
   ·simp_all
   ·obtain⟨l2,hM2⟩:=Z.permM hp;have hmem:=(hM2.entry (x:=(MKey.kT k,Mem.row e s (nn c) (ff c))) (by simp) he hke).1.2;have hsl:∃ ad m M,e'.val = .slice ad m M:=by
     rcases hmem with⟨h1,_⟩ | ⟨bb,cap,cur,h1,_⟩
     all_goals simp_all
    have J:=hM2.give (d:=d) (ob:=ob) (p:=none) e1 e2 rfl hdo hit he hke (fun G hg' q hq=>by cases hq);obtain⟨_,G,D,hga,r'⟩:=r.focus hG.N e'.val hob hs (fun G hg D=>(J.2 G hg D).1)
     (fun G hg D=>by simp only[dA]; rw[D]; exact hmem)
     (fun G M hg D hc=>((J.2 G hg D).2.1 M hc).perm hp.symm)
     (fun G M hg D hc=>((J.2 G hg D).2.2.1 _ M rfl hc).perm hp.symm)
     (fun G M hg D hc hc'=>(J.2 G hg D).2.2.2 _ M rfl hc hc')
    obtain⟨ad,mm,cc,hsl⟩:=hsl;exact⟨_,_,w,_,hex _ h2,.inl rfl,by rw[hd]; exact⟨F,G,r'.put hd' (by rw[hsl]; exact .own (by rw[D,hsl]))⟩,h1⟩
end
theorem aLF{l:List α}{e e':α}(h:l[i]? = some e):l.Perm (e::l.eraseIdx i)/\(l.set i e').Perm (e'::l.eraseIdx i):=by
 induction l generalizing i with
 | nil=>simp at h
 | cons x l ih=>
  cases i with
  | zero=>simp_all
  | succ i=>obtain⟨h1,h2⟩:=ih (by simpa using h);exact⟨(h1.cons x).trans (.swap ..),by simpa using (h2.cons x).trans (.swap ..)⟩
section
variable {P:Program} {w:World}
theorem Nl{k:T}(h:KeyR k v)(n:Nat):Instr.sameBits (n+1) v v=true:=by
 cases h with
 | int q m=>simp[Instr.sameBits]
 | str s=>simp only[Instr.sameBits]; rw[MapKept.bytes_beq]
theorem Jh{t kt et:TypeId}{k:T}{kd:TypeDesc}(M:aMF P t k kt et kd){D:Value}(hk:KeyR k D){b clock:Nat}{es:Array MapEntry}(hb:w.heap[b]? = some (.map es clock))
  (h:∀ e,e∈es.toList->∃ k',KeyR k' e.key/\Il k k'=true)(old:∀ e,e∈es.toList->e.born<clock)(hn:(es.toList.map (·.born)).Nodup)(u:Value):
  ∃ es' clock' e',(Instr.mapUpdate t (.map (some b)) D u).run P w = .ok () { w with heap:=w.heap.setIfInBounds b (.map es' clock') }/\e'.key=D/\e'.val=u/\(es'.toList.map (·.born)).Nodup /\
   (∀ e,e∈es'.toList->e.born<clock')/\(((∀ e,e∈es.toList->¬ KeyR k e.key)/\es'.toList.Perm (e'::es.toList))\/∃ G q,G∈es.toList/\KeyR k G.key/\es.toList.Perm (G::q)/\es'.toList.Perm (e'::q)/\e'.born=G.born/\clock'=clock):=by
 have hf:=Cn (w:=w) M hk es.toList h;rcases hf with⟨h1,h2⟩ | ⟨j,G,h1,h2,h3⟩
 ·refine⟨es.push { key:=D,val:=u,born:=clock },clock+1,{ key:=D,val:=u,born:=clock },?_,rfl,rfl,?_,?_,.inl ⟨h2,?_⟩⟩
  ·unfold Instr.mapUpdate;simp only[Sem.run_bind,run_underlying M.und,Result.andThen_ok,Go.run_getObj_map w b es clock hb,qY M,h1,MapKept.run_setObj_map _ hb]
  ·grind
  ·grind
  simp_all
 ·have hj:j<es.size:=by grind
  have Z:es[j]? = some G:=by simp_all
  have Q:G.key=D:=h2.inj' hk;have hmod:(es.modify j fun e=>{ e with key:=D,val:=u }).toList=es.toList.set j { G with key:=D,val:=u }:=by refine List.ext_getElem? fun i=>?_;grind
  have hp:=aLF (e':={ G with key:=D,val:=u }) h1;refine⟨es.modify j fun e=>{ e with key:=D,val:=u },clock,{ G with key:=D,val:=u },?_,rfl,rfl,?_,?_,.inr ⟨G,_,lL h1,h2,hp.1,by simp_all,rfl,rfl⟩⟩
  ·have J:(Instr.keyThatStays ((es[j]?.map (·.key)).getD D) D).run P w = .ok D w:=by rw[Z,tM,sH,Q];unfold Instr.keyThatStays;rw[show (10000:Nat)=9999+1 from rfl,aA (Nl hk 9999)];simp
   unfold Instr.mapUpdate;simp only[Sem.run_bind,run_underlying M.und,Result.andThen_ok,Go.run_getObj_map w b es clock hb,qY M,h3,J,MapKept.run_setObj_map _ hb]
  all_goals grind
end
section
variable {F:Nat->Prop} {g:Nat->Value} {w:World} {b clock:Nat} {es es':Array MapEntry}
theorem MpR.rest{it:Option Iter}{m:List (T×Mem)}{k:T}{p:Option PV}{l:List MapEntry}(h:MpR F g w b es clock it m (some (k,p)) l r):
  ((∀ e,e∈es.toList->¬ KeyR k e.key)->r=[])/\(∀ D q,D∈es.toList->KeyR k D.key->es.toList.Perm (D::q)->r=[D]/\l.Perm q):=by
 have hk:=h.keys;rw[zH]at hk;have Z:∀ e,e∈l->¬ KeyR k e.key:=by intro e he J;obtain⟨j,y,hy,_,hR⟩:=h.ent.memr he;exact hk.2.2 _ (Jo (lL hy)) k (by simp[hoK]) (hR.1.inj J)
 have hr:r=[]\/∃ e,r=[e]/\KeyR k e.key:=by
  have Q:=h.hole;cases p with
  | none=>exact Q
  | some p=>obtain⟨e,h1,h2,_⟩:=Q; simp_all
 refine⟨fun hn=>?_,fun D q M hk0 hq=>?_⟩
 ·rcases hr with rfl | ⟨e,rfl,he⟩
  ·rfl
  ·exact absurd he (hn e (h.perm.mem_iff.1 (by simp)))
 ·have G:=h.perm.mem_iff.2 M;rcases hr with rfl | ⟨e,rfl,he⟩
  ·simp_all
  ·rcases dW.1 G with h1 | h1
   ·simp_all
   ·simp only[cZ]at h1;subst h1;refine⟨rfl,?_⟩;have h2:=h.perm.trans hq;have h3:(l++[D]).Perm (D::l):=Sy (l₁:=l) (l₂:=[D]);exact List.Perm.cons_inv (h3.symm.trans h2)
end
def aJR(it:Option Iter)(k:T):Prop:=∀ i,it=some i->i.cur=some k
def Jv(o q:Nat)(x':bA)(st:St):Option St:=
 match Nat.beq q o,st.erase q with
 | false,some st1=>some { fr:=st1.fr,hp:=(o,x')::del o st1.hp }
 | _,_=>none
section
variable {P:Program} {E:Env} {I:Inf} {F:Nat->Prop} {g:Nat->Value} {st st2:St} {a:Act} {w:World}
theorem cG.merge(r:cG E F g st a w){x x' y:bA}(hl:look st.hp o=some x)(hq:look st.hp q=some y)(hs:Jv o q x' st=some st2)
  (hx':dA F g w o x')(hf:∀ b,bC g w o x' b->bC g w o x b\/bC g w q y b):cG E F g st2 a w:=by
 unfold Jv at hs;split at hs
 ·rename_i st1 M he;cases hs;have M:=pB M;have Z:=aX hl;have Q:=aX hq;have old:∀ k z,(k,z)∈del o st1.hp->k≠o/\k≠q/\∃ D,(k,D)∈st.hp/\dA F g w k z/\∀ b,bC g w k z b->bC g w k D b:=by intro k z hz;obtain⟨h1,h2⟩:=bB.1 hz;obtain⟨D,h3,h4,h5,h6,h7⟩:=St.erase_hp he k z h1;exact⟨h2,h4,D,h3,h6 _ _ _ (r.w.hp.obj k D h3),h7 _ _⟩
  refine⟨r.nt,r.df,fun t z hz=>r.fr t z (St.erase_fr he t z hz).1,⟨⟨fun k z hz=>?_,fun k z b hz hb=>?_,fun k z k' D b hz G hne hb J=>?_⟩,r.w.f0,r.w.f1,r.w.ext,r.w.names,r.w.b0⟩⟩
  ·grind
  ·rcases bE.1 hz with e | hz
   ·cases e;rcases hf b hb with h | h
    ·exact r.w.hp.own _ _ b Z h
    ·exact r.w.hp.own _ _ b Q h
   ·obtain⟨_,_,D,h1,_,h3⟩:=old k z hz;exact r.w.hp.own k D b h1 (h3 b hb)
  ·have key:∀ k z,(k,z)∈del o st1.hp->bC g w k z b->bC g w o x' b->False:=by
    intro k z hz hb J;obtain⟨h1,h2,D,h3,_,h4⟩:=old k z hz;rcases hf b J with h | h
    ·exact r.w.hp.sep k D o x b h3 Z h1 (h4 b hb) h
    ·exact r.w.hp.sep k D q y b h3 Q h2 (h4 b hb) h
   rcases bE.1 hz with e | hz
   ·grind
   ·rcases bE.1 G with e' | G
    ·simp_all
    ·obtain⟨_,_,u,h1,_,h3⟩:=old k z hz;obtain⟨_,_,u',h1',_,h3'⟩:=old k' D G;exact r.w.hp.sep k u k' u' b h1 h1' hne (h3 b hb) (h3' b J)
 ·cases hs
end
section
variable {F:Nat->Prop} {g:Nat->Value} {w:World} {b clock ob:Nat} {es:Array MapEntry} {it:Option Iter} {K V:Type} [MKey K]
theorem MpR.fill{m:List (T×Mem)}{M:T}{l:List MapEntry}(h:MpR F g w b es clock it m (some (M,some p)) l r)(hb:w.heap[b]? = some (.map es clock))(hy:∀ e,e∈es.toList->VR F g w p e.val->It F w y e.val)
  (G:∀ e c,e∈es.toList->VR F g w p e.val->blk e.val=some c->¬ bC g w ob (.mp it m (some (M,some p))) c)(Q:g ob = .map (some b)):∃ l',MpR F g w b es clock it ((M,y)::m) none l' []:=by
 obtain⟨e,hr,hk,hv⟩:=h.hole;subst hr;have he:e∈es.toList:=h.perm.mem_iff.1 (by simp);refine⟨e::l,?_,.cons ⟨hk,hy e he hv⟩ h.ent,rfl,?_,h.born,h.old,?_,h.it⟩
 ·rw[eQ];exact(Sy (l₁:=[e]) (l₂:=l)).trans h.perm
 ·have:=h.keys;simp only[hoK,fY,eQ]at this ⊢;grind
 ·have hnew:∀ (j:Nat) x J c,m[j]? = some x->l[j]? = some J->x.2.owned=true->blk e.val=some c->blk J.val=some c->False:=by intro j x J c hx D ho h1 h2;have hR:=h.ent.get.2 j x J hx D;exact G e c he hv h1 (.mem Q hb (h.perm.mem_iff.1 (Uk _ (lL D))) (lL hx) hR.1 ho h2)
  intro i j x y' e1 e2 c hx hy' h1 h2 hne ho Z hc hc';cases i with
  | zero=>grind
  | succ i=>
   cases j with
   | zero=>grind
   | succ j=>exact h.sep i j x y' e1 e2 c (by simp_all) (by simp_all) (by simp_all) (by simp_all) (by omega) ho Z hc hc'
theorem MpR.fill_foot{m:List (T×Mem)}{G:T}{l:List MapEntry}(h:MpR F g w b es clock it m (some (G,some p)) l r)(M:g ob = .map (some b))(hb:w.heap[b]? = some (.map es clock)) 
  (hc:bC g w ob (.mp it ((G,y)::m) none) c):bC g w ob (.mp it m (some (G,some p))) c\/∃ e,e∈es.toList/\VR F g w p e.val/\blk e.val=some c:=by
 cases hc with
 | self h=>exact .inl (.self h)
 | iter h=>exact .inl (.iter h)
 | @mem _ _ _ _ bm cl es' e x h1 h2 h3 h4 h5 h6 h7=>
  rcases bE.1 h4 with rfl | h4
  ·right;rw[M]at h1; injection h1 with h1; injection h1 with h1; subst h1;rw[hb]at h2; injection h2 with h2; injection h2 with h2 h2'; subst h2;obtain⟨e1,hr,hk,hv⟩:=h.hole;have:=h.perm.mem_iff.2 h3;rcases dW.1 this with hl | hl
   ·exfalso;obtain⟨j,Z,J,_,Q⟩:=h.ent.memr hl;have D:=h.keys;rw[zH]at D;exact D.2.2 _ (Jo (lL J)) G (by simp[hoK]) (Q.1.inj h5)
   grind
  ·exact .inl (.mem h1 h2 h3 h4 h5 h6 h7)
end
section
variable {P:Program} {E:Env} {I:Inf} {F:Nat->Prop} {g:Nat->Value} {st st2:St} {a:Act} {w:World} {K V:Type} [MKey K]
theorem Wb{enc:V->Mem}(v:List (K×V))(k:K)(c:V):((MKey.kT k,enc c)::eM enc (mdel v k)).Perm (eM enc (mput v k c)):=(aAS (enc:=enc) (Am v k c)).symm
theorem Le.fillrow{it:Option Iter}{nn:V->Nat}{ff:V->Nat->List T}(v:List (K×V))(k:K)(c:V)
  (hl:look st.hp o=some (.mp it (eM (fun c=>.row e s (nn c) (ff c)) (mdel v k)) (some (MKey.kT k,some (.own q)))))(M:look st.hp q=some (.arr e s (nn c) (ff c)))
  (hs:Jv o q (.mp it (eM (fun c=>.row e s (nn c) (ff c)) (mput v k c)) none) st=some st2):Le E st st2:=by
 rintro a w ⟨F,g,r⟩;obtain⟨b,es,clock,Z,Q,l1,r1,hM⟩:=r.w.hp.obj _ _ (aX hl);have G:qL F w (g q) e s (nn c) (ff c):=r.w.hp.obj _ _ (aX M);have hqo:q≠o:=by grind
 have D:∀ e:MapEntry,VR F g w (.own q) e.val->e.val=g q:=by
  intro e hv;generalize e.val=u at hv;cases hv with
  | own h=>exact h.symm
 obtain⟨l',hM'⟩:=hM.fill (ob:=o) Q (y:=.row e s (nn c) (ff c)) (fun e he hv=>by rw[D e hv]; exact G) (fun e c' he hv hc hf=>by rw[D e hv]at hc;exact r.w.hp.sep q _ o _ c' (aX M) (aX hl) hqo (.self hc) hf) Z;have hp:=Wb (enc:=fun c=>Mem.row e s (nn c) (ff c)) v k c;obtain⟨l'',J⟩:=hM'.permM hp;exact⟨F,g,r.merge hl M hs ⟨b,es,clock,Z,Q,l'',[],J⟩ (fun c' hc=>by
  rcases hM.fill_foot Z Q (hc.perm hp.symm) with h | ⟨e,_,hv,hc⟩
  ·exact .inl h
  ·exact .inr (.self (by grind)))⟩
theorem Le.gap{it:Option Iter}{enc:V->Mem}(v:List (K×V))(k:K)(hl:look st.hp o=some (.mp it (eM enc v) none)):
  Le E st { st with hp:=(o,.mp it (eM enc (mdel v k)) (some (MKey.kT k,none)))::del o st.hp }:=by
 refine Le.objF _ hl (fun F g w h=>?_) (fun g w c h=>?_)
 ·obtain⟨b,es,clock,e1,e2,l1,r1,D⟩:=h;refine⟨b,es,clock,e1,e2,?_⟩;cases hlk:bG v k with
  | none=>rw[rW (kG hlk)];have G:=D.hole;simp only[rI]at G;subst G;refine⟨l1,[],D.perm,D.ent,.inl rfl,?_,D.born,D.old,D.sep,D.it⟩;have M:=D.keys;simp only[hoK,eQ]at M ⊢;rw[zH];refine⟨M,by simp,fun q Q q' J=>?_⟩;simp only[cZ]at J;subst J;intro e';rw[Fb,e',Yp]at Q;exact kG hlk Q
  | some c=>obtain⟨hp,_⟩:=(D.found k).2 c hlk;obtain⟨l2,Z⟩:=D.permM hp;obtain⟨e,l',_,_,_,_,h⟩:=Z.focus (g':=g) (p:=none) (fun q Q=>by cases Q) D.it;grind
 ·cases h with
  | self h=>exact .self h
  | iter h=>exact .iter h
  | mem h1 h2 h3 h4 h5 h6 h7=>refine .mem h1 h2 h3 ?_ h5 h6 h7;simp only[eM,mdel,cU,iQ]at h4 ⊢;grind
theorem aYD{w w':World}{F:Nat->Prop}{g:Nat->Value}{b clock D:Nat}{es es':Array MapEntry}{it:Option Iter}{m:List (T×Mem)}{k:T}{p:Option PV}{l r':List MapEntry}{e':MapEntry}{kv:Value}
  (hM:MpR F g w b es clock it m (some (k,p)) l r')(hset:w'.heap[b]? = some (.map es' D)/\∀ c,c≠b->w'.heap[c]? = w.heap[c]?)(Z:aJR it k)(hkv:KeyR k kv)(hk':e'.key=kv)
  (h7:((∀ e,e∈es.toList->¬ KeyR k e.key)/\es'.toList.Perm (e'::es.toList))\/∃ G q,G∈es.toList/\KeyR k G.key/\es.toList.Perm (G::q)/\es'.toList.Perm (e'::q)/\e'.born=G.born/\D=clock)
  (e2:w.heap[b]? = some (.map es clock)):ItR g w' b es' D it:=by
 cases it with
 | none=>exact True.intro
 | some i=>
  obtain⟨rr,J,Q,c0,i1,i2,i3,i4,i5,i6,i7,i8⟩:=hM.it;have hne:rr≠b:=by grind
  obtain⟨j1,⟨e,he,hke,q',hq'⟩,hnk⟩:=i8 _ (Z i rfl);rcases h7 with⟨a1,_⟩ | ⟨G,q,a1,a2,a3,a4,a5,a6⟩
  ·simp_all
  ·subst a6;have hk0:G.key=kv:=a2.inj' hkv;have hke0:∀ k2,KeyR k2 e'.key↔KeyR k2 G.key:=fun k2=>by rw[hk',hk0]
   have hmem:∀ x,x∈es'.toList->x=e'\/x∈es.toList:=fun x hx=>by grind
   have hmem':∀ x,x∈es.toList->x=G\/x∈es'.toList:=fun x hx=>by grind
   have hin:e'∈es'.toList:=a4.mem_iff.2 cS;have hee:e=G:=by
    rcases bE.1 (a3.mem_iff.1 he) with h | h
    ·exact h
    ·have hr1:=(hM.rest.2 G q a1 a2 a3).1;obtain⟨q2,M⟩:=List.append_of_mem he;obtain⟨s2,M⟩:=M;have hp2:es.toList.Perm (e::(q2++s2)):=by simp_all
     have hr2:=(hM.rest.2 e _ he hke hp2).1;simp_all
   subst hee;refine⟨rr,J,Q,c0,i1,by simp_all,fun x hx=>?_,i4,fun x hx=>?_,fun k2 hk2=>?_,i7,fun k2 hc2=>?_⟩
   all_goals grind
theorem aKG(hG:gN P E I){l:List Oper}{o:Oper}{rest:List Oper}{Q:iK}{ob:Nat}{vx:Operand}{it:Option Iter}{enc:V->Mem}(v:List (K×V))(k:K)(p:PV)
  (hl:l=o::rest)(hop:o.op = .mapUpdate t x kx vx\/o.op = .insert t x kx vx)(hd:o.dst=none)(hw:cC ops o st=some true)(hx:ev st x=some (.map ob))(hk:ev st kx=some (.t (MKey.kT k)))(hv:ev st vx=some p)
  (hob:look st.hp ob=some (.mp it (eM enc v) (some (MKey.kT k,none))))(hm:pH I.ti t (MKey.kT k)=some et)(hcur:aJR it (MKey.kT k))
  (h1:fG P E ops Q rest { st with hp:=(ob,.mp it (eM enc v) (some (MKey.kT k,some p)))::del ob st.hp }):fG P E ops Q l st:=by
 refine fN hl hw fun F g a w r=>?_;obtain⟨kt,kd,hT⟩:=tE hG.ti hm;obtain⟨b,es,clock,e1,e2,l1,r1,M⟩:=r.w.hp.obj _ _ (aX hob);have hxv:=bT r hx;have hkv:=(bT r hk).key hT.d;have hpv:=bT r hv;obtain⟨u,hu⟩:∃ u,a.eval x=u:=⟨_,rfl⟩;obtain⟨kv,hkv'⟩:∃ u,a.eval kx=u:=⟨_,rfl⟩;obtain⟨z,hz⟩:∃ u,a.eval vx=u:=⟨_,rfl⟩;rw[hu]at hxv; rw[hkv']at hkv; rw[hz]at hpv;cases hxv with
 | map hg=>
  rw[e1]at hg; injection hg with hg; injection hg with hg; subst hg;obtain⟨J,D,e',h2,h3,h4,h5,h6,h7⟩:=Jh (P:=P) (w:=w) hT hkv e2 (M.kinds (fun k' p' he=>by grind) k) M.old M.born z;have G:=Ae (o':=.map J D) e2;have hFb:¬ F b:=(r.w.hp.own _ _ b (aX hob) (.self (by rw[e1]; rfl))).1;have hF:∀ c,F c->F c/\({ w with heap:=w.heap.setIfInBounds b (.map J D) }:World).heap[c]? = w.heap[c]?:=fun c hc=>⟨hc,G.2 c (fun e=>hFb (e▸hc))⟩;have Z:(l1++[e']).Perm J.toList:=by
   have hc:(l1++[e']).Perm (e'::l1):=Sy (l₁:=l1) (l₂:=[e']);rcases h7 with⟨a1,a2⟩ | ⟨e0,q,a1,a2,a3,a4,a5,a6⟩
   ·have:=M.rest.1 a1;subst this;have hp1:=M.perm;rw[eQ]at hp1;exact hc.trans ((hp1.cons e').trans a2.symm)
   ·obtain⟨b1,b2⟩:=M.rest.2 e0 q a1 a2 a3;exact hc.trans ((b2.cons e').trans a4.symm)
  have hold:∀ e,e∈l1->e∈es.toList:=fun e he=>M.perm.mem_iff.1 (Uk _ he);have hexec:(execOp a.eval o).run P w = .ok .skip ({ w with heap:=w.heap.setIfInBounds b (.map J D) }):=by unfold execOp;rcases hop with hop | hop <;> simp[hop,hu,hkv',hz,h2]
  have hobj:dA F g ({ w with heap:=w.heap.setIfInBounds b (.map J D) }) ob (.mp it (eM enc v) (some (MKey.kT k,some p))):=by
   refine⟨b,J,D,e1,G.1,l1,[e'],Z,?_,⟨e',rfl,by simp_all,by rw[h4]; exact hpv.mono hF (fun _ _=>rfl)⟩,M.keys,h5,h6,M.sep,?_⟩
   rotate_left
   ·exact aYD M G hcur (r':=r1) hkv h3 h7 e2
   refine M.ent.mono fun y e hy he hR=>⟨hR.1,hR.2.mono hF fun c ho hc=>G.2 c (fun e'=>?_)⟩;subst e';obtain⟨vs,ty,hcell⟩:=hR.2.block ho hc;simp_all
  have hft:∀ c,bC g ({ w with heap:=w.heap.setIfInBounds b (.map J D) }) ob (.mp it (eM enc v) (some (MKey.kT k,some p))) c->bC g w ob (.mp it (eM enc v) (some (MKey.kT k,none))) c:=by
   intro c hc;cases hc with
   | self h=>exact .self h
   | iter h=>exact .iter h
   | @mem _ _ _ _ bm cl es2 e x h1 h2 h3' h4' h5' h6' h7'=>
    rw[e1]at h1; injection h1 with h1; injection h1 with h1; subst h1;rw[G.1]at h2; injection h2 with h2; injection h2 with h2 h2'; subst h2;rcases dW.1 (Z.mem_iff.2 h3') with hh | hh
    ·exact .mem e1 e2 (hold e hh) h4' h5' h6' h7'
    ·simp only[cZ]at hh;subst hh;exfalso;rw[h3]at h5';have hk':=M.keys;rw[zH]at hk';exact hk'.2.2 _ (Jo h4') (MKey.kT k) (by simp[hoK]) (h5'.inj hkv)
  exact⟨_,undef,{ w with heap:=w.heap.setIfInBounds b (.map J D) },_,hexec,.inr ⟨rfl,rfl⟩,by rw[hd]; exact⟨F,g,r.writeF (y:=.mp it (eM enc v) (some (MKey.kT k,some p))) (aX hob) (.self (by rw[e1]; rfl)) G.2 (by simp) rfl rfl rfl hobj hft⟩,h1⟩
end
section
variable {P:Program} {E:Env} {I:Inf} {F:Nat->Prop} {g:Nat->Value} {st st2:St} {a:Act} {w:World} {K V:Type} [MKey K]
theorem cG.same{w':World}(r:cG E F g st a w)(G:w'.heap=w.heap)(ho:w'.os=w.os)(Q:w'.tape=w.tape)(M:w'.output=w.output):cG E F g st a w':=by
 have hb:∀ b:Nat,w'.heap[b]? = w.heap[b]?:=fun b=>by rw[G]
 have hf:∀ {o x b},bC g w' o x b->bC g w o x b:=fun h=>h.mono rfl (fun _ _=>rfl) (fun c _=>hb c);refine⟨r.nt,r.df,fun t x hx=>(r.fr t x hx).mono (fun b h=>⟨h,hb b⟩) (fun _ _=>rfl),⟨⟨fun o x hx=>?_,fun o x b hx h=>r.w.hp.own o x b hx (hf h),fun o x J y b hx hy D h Z=>r.w.hp.sep o x J y b hx hy D (hf h) (hf Z)⟩,r.w.f0,fun b h=>?_,?_,r.w.names,r.w.b0⟩⟩
 ·exact(r.w.hp.obj o x hx).mono (fun b h=>⟨h,hb b⟩) rfl (fun _ _=>rfl) (fun b _=>hb b)
 ·rw[G]; exact r.w.f1 b h
 ·exact r.w.ext.trans ho Q M (by simp_all) (fun b _ _=>hb b)
theorem Xf(hG:gN P E I){l:List Oper}{o:Oper}{rest:List Oper}{Q:iK}{d:Nat}(enc:V->Mem)(hl:l=o::rest)(J:o.op = .makeMap t none)(hd:o.dst=some d)(hw:cC ops o st=some true)
  (hnt:Nat.blt d I.nt=true)(hn:qG d I.N=true){st1:St}(he:st.erase d=some st1)(h1:fG P E ops Q rest ({ st1 with hp:=(d,.mp none (eM enc ([]:List (K×V))) none)::st1.hp }.put d (.map d))):fG P E ops Q l st:=by
 refine fN hl hw fun F g a w r=>?_;have Z:d<E.nt:=by rw[hG.nt]; simp_all
 have D:(w.alloc (.map #[] 0)).heap[w.heap.size]? = some (.map #[] 0):=heap_alloc_new w _;obtain⟨G,M⟩:=r.allocF (x:=.mp none (eM enc ([]:List (K×V))) none) (v:=.map (some w.heap.size)) (w':=w.alloc (.map #[] 0)) (ob:=.map #[] 0) Z (by rw[hG.N]; exact eX hn) he rfl rfl rfl rfl rfl
  (fun G b hg hb=>by
   cases hb with
   | self h=>simp_all
   | mem _ _ _ h4=>simp_all)
  (fun G _ hg=>⟨w.heap.size,#[],0,hg,D,[],[],by simp,by simp only[eM,Ce]; exact .nil,rfl,by simp[eM,hoK],by simp,by simp,by simp,True.intro⟩)
  (.map d) (fun G hg=>.map hg)
 exact⟨_,.map (some w.heap.size),w.alloc (.map #[] 0),_,by unfold execOp; simp[J,Instr.makeMap],.inl rfl,by rw[hd]; exact⟨F,G,M⟩,h1⟩
end
section
variable {P:Program} {E:Env} {I:Inf} {F:Nat->Prop} {g:Nat->Value} {st st2:St} {a:Act} {w:World} {K V:Type} [MKey K]
end
section
variable {P:Program} {E:Env} {I:Inf} {F:Nat->Prop} {g:Nat->Value} {st st2:St} {a:Act} {w:World} {K V:Type} [MKey K]
theorem MpR.hasKey{b clock:Nat}{es:Array MapEntry}{it:Option Iter}{enc:V->Mem}{v:List (K×V)}{l:List MapEntry}(h:MpR F g w b es clock it (eM enc v) none l r){k:K}{e:MapEntry}(he:e∈es.toList)(hk:KeyR (MKey.kT k) e.key):
  ∃ c,bG v k=some c/\It F w (enc c) e.val:=by
 have hf:=h.found k;cases hl:bG v k with
 | none=>simp_all
 | some c=>obtain⟨hp,_⟩:=hf.2 c hl;obtain⟨D,h2⟩:=h.permM hp;exact⟨c,rfl,(h2.entry (x:=(MKey.kT k,enc c)) (by simp) he hk).1.2⟩
theorem Wd(hG:gN P E I){l:List Oper}{o:Oper}{rest:List Oper}{Q:iK}{d ob:Nat}{it:Option Iter}{eD:V->T}{zv:Value}{zp:PV}(v:List (K×V))(k:K)
  (hl:l=o::rest)(hop:o.op = .lookup t x kx false)(hd:o.dst=some d)(hw:cC ops o st=some true)(hnt:Nat.blt d I.nt=true)(hx:ev st x=some (.map ob))(hk:ev st kx=some (.t (MKey.kT k)))
  (hob:look st.hp ob=some (.mp it (eM (fun c=>.d (eD c)) v) none))(hm:pH I.ti t (MKey.kT k)=some et)(hz:Ii P et zv)(hzp:rB zv=some zp)
  (h0:bG v k=none->fG P E ops Q rest (st.put d zp))(h1:∀ c,bG v k=some c->fG P E ops Q rest (st.put d (.t (eD c)))):fG P E ops Q l st:=by
 refine fN hl hw fun F g a w r=>?_;have Z:d<E.nt:=by rw[hG.nt]; simp_all
 obtain⟨kt,kd,hT⟩:=tE hG.ti hm;obtain⟨info,hi,hz⟩:=hz;obtain⟨b,es,clock,e1,e2,l1,r1,hM⟩:=r.w.hp.obj _ _ (aX hob);have G:=bT r hx;have J:=(bT r hk).key hT.d;obtain⟨u,hu⟩:∃ u,a.eval x=u:=⟨_,rfl⟩;obtain⟨kv,hkv'⟩:∃ u,a.eval kx=u:=⟨_,rfl⟩;rw[hu]at G; rw[hkv']at J;cases G with
 | map hg=>
  rw[e1]at hg; injection hg with hg; injection hg with hg; subst hg;have hrun:=qX (P:=P) hT J e2 (hM.kinds (by simp) k) hi hz;have hf:=hM.found k;have M:∀ v',(Instr.lookup t (.map (some b)) kv false).run P w = .ok v' w->(execOp a.eval o).run P w = .ok (.value v') w:=by intro v' hv';unfold execOp;simp_all
  rcases hrun with⟨h2,hnk⟩ | ⟨e,he,hke,h2⟩
  ·cases D:bG v k with
   | none=>exact⟨_,_,w,_,M _ h2,.inl rfl,by rw[hd]; exact⟨F,g,r.put Z (qC hzp F g w)⟩,h0 D⟩
   | some c=>grind
  ·obtain⟨c,D,hmem⟩:=hM.hasKey he hke;exact⟨_,_,w,_,M _ h2,.inl rfl,by rw[hd]; exact⟨F,g,r.put Z (.t hmem)⟩,h1 c D⟩
theorem bFH{F:Nat->Prop}{g:Nat->Value}{w:World}(h:Rd F w (.fv c) v):VR F g w (.fn (.func c) 0 []) v:=by
 cases h with
 | fv=>exact .fn rfl rfl (by simp)
 | nil h=>simp[T.view]at h
 | sl a cap size vs h=>simp[T.view]at h
theorem aIR(hI:mP P I.ti){ob:Nat}(v:List (K×Nat))(k:K)(hm:pH I.ti t (MKey.kT k)=some et)(Q:Ii P et .nilFunc)(hc:bG v k=some c):
  Va P t [.map ob,.t (MKey.kT k)] (.fn (.func c) 0 []) [(ob,.mp none (eM (fun c=>.d (.fv c)) v) none)]:=by
 intro F g w u kv x y hxy hxv M hH;cases hxy;obtain⟨kt,kd,hT⟩:=tE hI hm;obtain⟨info,hi,Q⟩:=Q;obtain⟨b,es,clock,e1,e2,l1,r1,Z⟩:=hH _ (cZ.2 rfl);have hkv:=M.key hT.d;cases hxv with
 | map hg=>
  rw[e1]at hg; injection hg with hg; injection hg with hg; subst hg;have G:=qX (P:=P) hT hkv e2 (Z.kinds (by simp) k) hi Q;have hf:=Z.found k;rcases G with⟨h2,hnk⟩ | ⟨e,he,hke,h2⟩
  ·grind
  ·obtain⟨c',D,J⟩:=Z.hasKey he hke;rw[hc]at D;cases D;exact⟨_,h2,bFH J⟩
theorem Le.filld{it:Option Iter}{eD:V->T}(v:List (K×V))(k:K)(c:V)(hp:∀ F g w v,VR F g w p v->VR F g w (.t (eD c)) v)(hl:look st.hp o=some (.mp it (eM (fun c=>.d (eD c)) (mdel v k)) (some (MKey.kT k,some p)))):
  Le E st { st with hp:=(o,.mp it (eM (fun c=>.d (eD c)) (mput v k c)) none)::del o st.hp }:=by
 refine Le.objF _ hl (fun F g w h=>?_) (fun g w x h=>?_)
 ·obtain⟨b,es,clock,Z,Q,M,r1,D⟩:=h;obtain⟨e,hr,hk,hv⟩:=D.hole;have hv:=hp _ _ _ _ hv;subst hr;have J:MpR F g w b es clock it ((MKey.kT k,Mem.d (eD c))::eM (fun c=>.d (eD c)) (mdel v k)) none (e::M) []:=by
   refine⟨?_,.cons ⟨hk,hv.cells_t rfl⟩ D.ent,rfl,?_,D.born,D.old,?_,D.it⟩
   ·rw[eQ];exact(Sy (l₁:=[e]) (l₂:=M)).trans D.perm
   ·have:=D.keys;simp only[hoK,fY,eQ]at this ⊢;grind
   ·intro i j x y Z Q c' hx hy h1 h2 hne ho;have:x.2.owned=false:=by
     cases i with
     | zero=>simp at hx; subst hx; rfl
     | succ i=>have:=lL (show (eM (fun c=>Mem.d (eD c)) (mdel v k))[i]? = some x by simp_all);simp only[eM,cU]at this;obtain⟨p,_,rfl⟩:=this;rfl
    simp_all
  obtain⟨l2,G⟩:=J.permM (Wb (enc:=fun c=>Mem.d (eD c)) v k c);exact⟨b,es,clock,Z,Q,l2,[],G⟩
 ·cases h with
  | self h=>exact .self h
  | iter h=>exact .iter h
  | mem h1 h2 h3 h4 h5 h6 h7=>simp only[eM,cU]at h4;obtain⟨p,_,rfl⟩:=h4;cases h6
end
section
variable {P:Program} {E:Env} {I:Inf} {st:St} {a:Act} {w:World} {K V:Type} [MKey K]
theorem mV.remap{α β γ:Type}{R:β->γ->Prop}{R':β->γ->Prop}{f f':α->β}:∀ {v:List α} {l:List γ},mV R (v.map f) l->(∀ p e,p∈v->e∈l->R (f p) e->R' (f' p) e)->mV R' (v.map f') l
 | [],_,h,_=>by cases h; exact .nil
 | p::v,_,h,hr=>by
  cases h with
  | cons h t=>exact .cons (hr p _ (by simp) (by simp) h) (mV.remap t fun q e hq he=>hr q e (cO _ hq) (cO _ he))
theorem cG.fzmap{F:Nat->Prop}{g:Nat->Value}(r:cG E F g st a w){it:Option Iter}{e:TypeId}{nn:V->Nat}{ff:V->Nat->List T}{eD:V->T}(v:List (K×V))(hv:∀ c,(eD c).view=some (nn c,ff c))
  (hl:look st.hp o=some (.mp it (eM (fun c=>.row e s (nn c) (ff c)) v) none)):Rel E { st with hp:=(o,.mp it (eM (fun c=>.d (eD c)) v) none)::del o st.hp } a w:=by
 have J:=aX hl;obtain⟨b0,es,clock,e1,e2,l1,r1,hM⟩:=r.w.hp.obj _ _ J;let M:Nat->Prop:=fun b=>∃ en x,en∈es.toList/\x∈eM (fun c=>.row e s (nn c) (ff c)) v/\KeyR x.1 en.key/\blk en.val=some b;have Z:∀ b,M b->bC g w o (.mp it (eM (fun c=>.row e s (nn c) (ff c)) v) none) b:=by rintro b ⟨en,x,h1,h2,h3,h4⟩;refine .mem e1 e2 h1 h2 h3 ?_ h4;simp only[eM,cU]at h2;obtain⟨p,_,rfl⟩:=h2;rfl
 have D:∀ b,M b->∃ vs ty,w.heap[b]? = some (.cells vs ty (0,0)):=by
  rintro b ⟨en,x,h1,h2,h3,h4⟩;obtain⟨⟨_,hR⟩,_⟩:=hM.entry h2 h1 h3;simp only[eM,cU]at h2;obtain⟨p,_,rfl⟩:=h2;rcases hR with⟨h5,_⟩ | ⟨b',cap,cur,h5,h6,_⟩
  ·rw[h5]at h4; simp[blk]at h4
  ·rw[h5]at h4; simp[blk]at h4; simp_all
 have Q:∀ b,bC g w o (.mp it (eM (fun c=>.d (eD c)) v) none) b->bC g w o (.mp it (eM (fun c=>.row e s (nn c) (ff c)) v) none) b/\¬ M b:=by
  intro b h;cases h with
  | self h=>refine⟨.self h,fun hm=>?_⟩;obtain⟨vs,ty,hc⟩:=D b hm;rw[e1]at h; simp[blk]at h; simp_all
  | @iter i _ _ _ h=>refine⟨.iter h,fun hm=>?_⟩;obtain⟨vs,ty,hc⟩:=D b hm;obtain⟨rr,since,seen,c0,g1,g2,_⟩:=hM.it;rw[g1]at h; simp[blk]at h; simp_all
  | mem h1 h2 h3 h4 h5 h6 h7=>simp only[eM,cU]at h4;obtain⟨p,_,rfl⟩:=h4;cases h6
 refine⟨fun b=>F b\/M b,g,r.nt,r.df,fun t x hx=>(r.fr t x hx).mono (fun b hb=>⟨.inl hb,rfl⟩) (fun _ _=>rfl),⟨⟨fun k y hy=>?_,fun k y b hy hb=>?_,fun k y k' y' b hy G hne hb hb'=>?_⟩,fun b hb=>.inl (r.w.f0 b hb),fun b hb=>?_,r.w.ext,r.w.names,r.w.b0⟩⟩
 ·rcases bE.1 hy with he | hy
  ·cases he;have hr1:=hM.hole;refine⟨b0,es,clock,e1,e2,l1,r1,hM.perm,?_,hr1,?_,hM.born,hM.old,fun i j x y' e1 e2 c hx hy h1 h2 hne ho=>?_,hM.it⟩
   ·refine mV.remap hM.ent fun p en hp hen hR=>⟨hR.1,?_⟩;refine Fl (g:=fun _=>en.val) (o:=0) (F:=F) (e:=e) (s:=s) hR.2 (fun b hb=>.inl hb) (fun b hb=>.inr ⟨en,_,hM.perm.mem_iff.1 (Uk _ hen),Jo hp,hR.1,hb⟩) (hv p.2)
   ·have:=hM.keys;rw[Fb]at this ⊢;omega
   ·have:=lL hx;simp only[eM,cU]at this;obtain⟨p,_,rfl⟩:=this;cases ho
  ·exact(r.w.hp.obj k y (bB.1 hy).1).mono (fun b hb=>⟨.inl hb,rfl⟩) rfl (fun _ _=>rfl) (fun _ _=>rfl)
 ·rcases bE.1 hy with he | hy
  ·cases he;obtain⟨h1,h2⟩:=Q b hb;obtain⟨h3,h4⟩:=r.w.hp.own _ _ b J h1;simp_all
  ·obtain⟨hy1,hy2⟩:=bB.1 hy;obtain⟨h3,h4⟩:=r.w.hp.own _ _ b hy1 hb;exact⟨fun h=>h.elim h3 fun hm=>r.w.hp.sep k y o _ b hy1 J hy2 hb (Z b hm),h4⟩
 ·rcases bE.1 hy with he | hy
  ·rcases bE.1 G with he' | G
   ·simp_all
   ·cases he;obtain⟨h1,h2⟩:=bB.1 G;exact r.w.hp.sep _ _ k' y' b J h1 hne (Q b hb).1 hb'
  ·obtain⟨h1,h2⟩:=bB.1 hy;rcases bE.1 G with he' | G
   ·cases he';exact r.w.hp.sep k y _ _ b h1 J hne hb (Q b hb').1
   ·exact r.w.hp.sep k y k' y' b h1 (bB.1 G).1 hne hb hb'
 ·rcases hb with hb | hb
  ·exact r.w.f1 b hb
  ·obtain⟨vs,ty,hc⟩:=D b hb;have:=(r.w.hp.own _ _ b J (Z b hb)).2;grind
theorem Le.fzmap{o:Nat}{it:Option Iter}{e:TypeId}{s:Nat}{nn:V->Nat}{ff:V->Nat->List T}{eD:V->T}(v:List (K×V))(hv:∀ c,(eD c).view=some (nn c,ff c))
  (hl:look st.hp o=some (.mp it (eM (fun c=>.row e s (nn c) (ff c)) v) none)):Le E st { st with hp:=(o,.mp it (eM (fun c=>.d (eD c)) v) none)::del o st.hp }:=fun _ _ r=>by
 obtain⟨F,g,r⟩:=r;exact r.fzmap v hv hl
end
inductive Kf where
 | s (y:Code)
 | b (id:Nat)
inductive Cfg where
 | c (x:Code) (ks:List Kf)
 | o (all l:List Oper) (ks:List Kf)
 | x (e:Exit) (ks:List Kf)
def kQ(P:Program)(E:Env):List Kf->iK->iK
 | [],Q=>Q
 | .s y::ks,Q=>Hd P E y (kQ P E ks Q)
 | .b id::ks,Q=>nC id (kQ P E ks Q)
def cwp(P:Program)(E:Env)(g:Cfg)(Q:iK)(st:St):Prop:=
 match g with
 | .c x ks=>pwp P E x (kQ P E ks Q) st
 | .o all l ks=>fG P E all (kQ P E ks Q) l st
 | .x e ks=>∃ t,Le E st t/\kQ P E ks Q e t
def aWH:Cfg->Option Cfg
 | .c (.seq a b) ks=>some (.c a (.s b::ks))
 | .c (.block id a) ks=>some (.c a (.b id::ks))
 | .c (.region _ ops false) ks=>some (.o ops.toList ops.toList ks)
 | .c .skip ks=>some (.x .normal ks)
 | .c .ret ks=>some (.x .ret ks)
 | .c (.exit id) ks=>some (.x (.exit id) ks)
 | .o _ [] ks=>some (.x .normal ks)
 | .x .normal (.s y::ks)=>some (.c y ks)
 | .x .normal (.b _::ks)=>some (.x .normal ks)
 | .x .ret (_::ks)=>some (.x .ret ks)
 | .x (.exit i) (.s _::ks)=>some (.x (.exit i) ks)
 | .x (.exit i) (.b j::ks)=>match Nat.beq i j with | true=>some (.x .normal ks) | false=>some (.x (.exit i) ks)
 | _=>none
def nrm:Nat->Cfg->Cfg
 | 0,g=>g
 | n+1,g=>match aWH g with | some g'=>nrm n g' | none=>g
def aVQ:Op->Bool
 | .call { callee:=.builtin .append,.. }=>true
 | _=>false
def apA(st:St)(j:dO)(p:PV)(o2:Nat):Option (Prop×(Nat->Bool)):=
 match p with
 | .nil=>match look st.hp o2 with
  | some (.arm _ _ m f none)=>some ((0+m)*j.bytes<=140737488355328,fun i=>aGT j.size (f i))
  | _=>none
 | .own o1=>match look st.hp o1,st.erase o1 with
  | some (.arm _ _ n _ none),some st0=>match look st0.hp o2 with
   | some (.arm _ _ m f none)=>some ((n+m)*j.bytes<=140737488355328,fun i=>aGT j.size (f i))
   | _=>none
  | _,_=>none
 | _=>none
theorem aXX{I:Inf}{st st':St}{d o2:Nat}{j:dO}{Q q:Prop}{f:Nat->Bool}(h:Gg I st d e j p o2=some (st',Q))(hx:apA st j p o2=some (q,f))(M:q)(hf:∀ i,f i=true):Q:=by
 unfold Gg at h;unfold apA at hx;split at h
 ·cases p with
  | nil=>
   simp only at h hx;split at h
   ·rename_i e' Z m f' st1 hl he;rw[hl]at hx;cases hx;split at h
    ·cases h; exact⟨M,fun i _=>hf i⟩
    ·cases h
   ·cases h
  | own o1=>
   simp only at h hx;split at h
   ·rename_i e1 s1 n f1 st0 G J;rw[G,J]at hx;simp only at hx;split at h
    ·rename_i e' Z m f' st1 D he2 hne;rw[D]at hx;cases hx;split at h
     ·cases h; exact⟨M,fun i _=>hf i⟩
     ·cases h
    ·cases h
   ·cases h
  | _=>simp at h
 ·cases h
def apX(I:Inf)(st:St)(o:Oper):Option (Prop×(Nat->Bool)):=
 match o.op with
 | .call c=>match c.args.toList,c.argTypes.toList with
  | [s,x],[t,_]=>match I.ti t,ev st s,ev st x with
   | some i,some p,some q=>match i.und,wQ st q with
    | .sl e,some (m,f2,_)=>match I.ti e with
     | some j=>match p with
      | .nil=>some ((0+m)*j.bytes<=140737488355328,fun i=>lF j.size (f2 i))
      | .own o=>match look st.hp o with
       | some (.arr _ _ n _)=>some ((n+m)*j.bytes<=140737488355328,fun i=>lF j.size (f2 i))
       | _=>none
      | _=>none
     | _=>none
    | .sl e,none=>match I.ti e,q with
     | some j,.own o2=>apA st j p o2
     | _,_=>none
    | _,_=>none
   | _,_,_=>none
  | _,_=>none
 | _=>none
def aKN(I:Inf)(all:List Oper)(o:Oper)(st:St):Option (St×List Prop×List (Nat->Bool)):=
 match Lk I all o st with
 | none=>none
 | some (st',C)=>match aVQ o.op,cC all o st with
  | true,some true=>match apX I st o with | some (p,f)=>some (st',[p],[f]) | none=>none
  | _,_=>some (st',C,[])
def run(I:Inf):Nat->Cfg->St->Option (Cfg×St×List Prop×List (Nat->Bool))
 | 0,g,st=>some (nrm 300 g,st,[],[])
 | n+1,g,st=>match nrm 300 g with
  | .o all (op::l) ks=>match aKN I all op st with
   | some (st',C,f)=>match run I n (.o all l ks) st' with
    | some (g',st'',C',f')=>some (g',st'',C++C',f++f')
    | none=>none
   | none=>none
  | .c (.cond c x y) ks=>match ev st c with
   | some (.t (.bool true))=>run I n (.c x ks) st
   | some (.t (.bool false))=>run I n (.c y ks) st
   | _=>none
  | _=>none
section
variable {P:Program} {E:Env} {I:Inf} {Q:iK} {st st':St}
theorem sG{g:Cfg}(h:Le E st st')(hk:cwp P E g Q st'):cwp P E g Q st:=by
 cases g with
 | c x ks=>exact xP h hk
 | o all l ks=>exact gH h hk
 | x e ks=>obtain⟨t,h1,h2⟩:=hk; exact⟨t,h.trans h1,h2⟩
theorem aQU{g g':Cfg}(h:aWH g=some g')(hk:cwp P E g' Q st):cwp P E g Q st:=by
 unfold aWH at h;split at h
 ·cases h; exact aVE hk
 ·cases h; exact aDL hk
 ·rename_i id D ks;cases h;have:D=D.toList.toArray:=by simp
  show pwp P E (.region id D false) _ _;rw[this];exact Un hk
 ·cases h; obtain⟨t,h1,h2⟩:=hk; exact xP h1 (aHC h2)
 ·cases h; obtain⟨t,h1,h2⟩:=hk; exact xP h1 (aSN h2)
 ·cases h; obtain⟨t,h1,h2⟩:=hk; exact xP h1 (aGI h2)
 ·cases h; obtain⟨t,h1,h2⟩:=hk; exact gH h1 (aLK h2)
 ·cases h; exact⟨st,Le.refl,bCO hk⟩
 ·cases h; obtain⟨t,h1,h2⟩:=hk; exact⟨t,h1,bEP h2⟩
 ·rename_i k ks;cases h; obtain⟨t,h1,h2⟩:=hk;cases k with
  | s y=>exact⟨t,h1,aLZ h2⟩
  | b id=>exact⟨t,h1,aTW h2⟩
 ·cases h; obtain⟨t,h1,h2⟩:=hk; exact⟨t,h1,aEE h2⟩
 ·rename_i i j ks;split at h
  ·rename_i G;cases h; obtain⟨t,h1,h2⟩:=hk;have:=bS G;subst this;exact⟨t,h1,aRQ h2⟩
  ·rename_i G;cases h; obtain⟨t,h1,h2⟩:=hk;exact⟨t,h1,aII (pB G) h2⟩
 ·cases h
theorem Hl:∀ {n:Nat} {g:Cfg},cwp P E (nrm n g) Q st->cwp P E g Q st
 | 0,_,h=>h
 | n+1,g,h=>by
  simp only[nrm]at h;split at h
  ·rename_i g' hg; exact aQU hg (Hl h)
  ·exact h
theorem bDI{all:List Oper}{o:Oper}{C:List Prop}{p:Prop}{f:Nat->Bool}(ha:aVQ o.op=true)(h:Lk I all o st=some (st',C))(hw:cC all o st=some true)(hx:apX I st o=some (p,f))(hp:p)(hf:∀ i,f i=true):All C:=by
 obtain⟨dst,op,ty,pos,Q,gd⟩:=o;cases op with
 | call c=>
  obtain⟨callee,args,argTypes⟩:=c;cases callee with
  | builtin b=>
   cases b with
   | append=>
    unfold Lk at h;simp only[hw]at h;have hs:∃ D,jY I st { dst:=dst,op:=.call { callee:=.builtin .append,args:=args,argTypes:=argTypes },type:=ty,pos:=pos,after:=Q,guard:=gd }=some (st',D)/\C=[D]:=by
     split at h
     ·rename_i st1 D hs;cases h;exact⟨D,hs,rfl⟩
     ·cases h
    obtain⟨D,hs,rfl⟩:=hs;show D;unfold jY at hs;unfold apX at hx;cases dst with
    | none=>simp at hs
    | some d=>
     simp only at hs hx;split at hs
     case h_2=>cases hs
     rename_i s x t t' h1 h2;rw[h1,h2]at hx;simp only at hx;split at hs
     case h_2=>cases hs
     rename_i i Z q0 _ h3 h4 h5;rw[h3,h4,h5]at hx;simp only at hx;split at hs
     case h_3=>cases hs
     case h_2=>
      rename_i e M J;rw[M,J]at hx;simp only at hx;split at hs
      ·rename_i j o2 G;rw[G]at hx;simp only at hx;exact aXX hs hx hp hf
      ·cases hs
     rename_i e m f2 s2 M J;rw[M,J]at hx;simp only at hx;split at hs
     case h_2=>cases hs
     rename_i j G;rw[G]at hx;simp only at hx;split at hs
     case h_2=>cases hs
     cases Z with
     | nil=>
      simp only at hs hx;cases hx;split at hs
      ·cases hs; exact⟨hp,fun i _=>hf i⟩
      ·cases hs
     | own oo=>
      simp only at hs hx;split at hs
      case h_2=>cases hs
      rename_i e' s' n f1 st1 h9 h10;rw[h9]at hx;simp only at hx;cases hx;split at hs
      ·cases hs; exact⟨hp,fun i _=>hf i⟩
      ·cases hs
     | _=>simp at hs
   | _=>cases ha
  | _=>cases ha
 | _=>cases ha
theorem aLJ(J:gN P E I){all l:List Oper}{o:Oper}{C:List Prop}{fs:List (Nat->Bool)}(h:aKN I all o st=some (st',C,fs))(M:All C)(hf:∀ f,f∈fs->∀ i,f i=true)
  (hk:fG P E all Q l st'):fG P E all Q (o::l) st:=by
 unfold aKN at h;split at h
 ·cases h
 ·rename_i st1 Z hs;have:st1=st'/\All Z:=by
   split at h
   ·rename_i G;rename_i ha;split at h
    ·rename_i p f hx;cases h;exact⟨rfl,bDI ha hs G hx M (hf f (by simp))⟩
    ·cases h
   simp_all
  obtain⟨rfl,D⟩:=this;intro a w r;exact aIA J (ops:=all.toArray) (by omega) D r hk
theorem dS(hG:gN P E I):∀ {n:Nat} {g g':Cfg} {st st':St} {C:List Prop} {fs:List (Nat->Bool)},run I n g st=some (g',st',C,fs)->All C->(∀ f,f∈fs->∀ i,f i=true)->cwp P E g' Q st'->cwp P E g Q st
 | 0,g,g',st,st',C,fs,h,_,_,hk=>by simp only[run,gJ,gE]at h;obtain⟨rfl,rfl,_⟩:=h;exact Hl hk
 | n+1,g,g',st,st',C,fs,h,hC,hf,hk=>by
  simp only[run]at h;split at h
  ·rename_i all op l ks hg;split at h
   ·rename_i st1 C1 f1 hs;split at h
    ·rename_i g2 st2 C2 f2 hr;cases h;rw[All.append]at hC;refine Hl (n:=300) ?_;rw[hg];exact aLJ hG hs hC.1 (fun f hm=>hf f (Uk _ hm)) (dS hG hr hC.2 (fun f hm=>hf f (sT _ hm)) hk)
    ·cases h
   ·cases h
  ·rename_i c x y ks hg;refine Hl (n:=300) ?_;rw[hg];split at h
   ·rename_i hc;exact Gx (b:=true) hc (fun _=>dS hG h hC hf hk) (fun e=>by cases e)
   ·rename_i hc;exact Gx (b:=false) hc (fun e=>by cases e) (fun _=>dS hG h hC hf hk)
   ·cases h
  ·cases h
end
structure Conv {α:Type}(f:Nat->Option α)(g:Option α):Prop where
 mono:∀ n y,f n=some y->f (n+1)=some y
 lim:∀ y,g=some y↔∃ n,f n=some y
theorem Conv.of_run{f:Nat->Option α}{g:Option α}(h:Conv f g)(n:Nat){y:α}(hy:f n=some y):g=some y:=(h.lim y).2 ⟨n,hy⟩
theorem Conv.run{f:Nat->Option α}{g:Option α}(h:Conv f g){y:α}(hy:g=some y):∃ n,f n=some y:=(h.lim y).1 hy
open Classical in
noncomputable def Lim {α:Type}(f:Nat->Option α):Option α:=if h:∃ y n,f n=some y then some h.choose else none
theorem Lim.conv{f:Nat->Option α}(hm:∀ n y,f n=some y->f (n+1)=some y):Conv f (Lim f):=by
 have D:∀ {n m:Nat},n<=m->∀ {y:α},f n=some y->f m=some y:=by
  intro n m h
  induction h with
  | refl=>simp_all
  | step _ ih=>simp_all
 refine⟨hm,fun y=>?_⟩;unfold Lim;split
 all_goals grind
theorem Wl{b:S->Option (S⊕R)}{n:Nat}{s:S}{r:R}(h:nA b n s=some r):nA b (n+1) s=some r:=by
 induction n generalizing s with
 | zero=>simp[nA]at h
 | succ n ih=>rw[nA]at h ⊢;grind
noncomputable def bW (b:S->Option (S⊕R))(s:S):Option R:=Lim fun n=>nA b n s
theorem nR(b:S->Option (S⊕R))(s:S):Conv (fun n=>nA b n s) (bW b s):=Lim.conv fun _ _ h=>Wl h
theorem pK(b:S->Option (S⊕R))(s:S):bW b s=match b s with | none=>none | some (.inl s')=>bW b s' | some (.inr r)=>some r:=by
 have hc:=nR b s;cases hb:b s with
 | none=>
  simp only;cases hw:bW b s with
  | none=>rfl
  | some y=>obtain⟨n,hn⟩:=hc.run hw; cases n <;> simp[nA,hb]at hn
 | some x=>
  cases x with
  | inr r=>exact hc.of_run 1 (by simp[nA,hb])
  | inl s'=>
   simp only;have D:=nR b s';cases hw:bW b s' with
   | some y=>obtain⟨n,hn⟩:=D.run hw; exact hc.of_run (n+1) (by simp[nA,hb,hn])
   | none=>
    cases hv:bW b s with
    | none=>rfl
    | some y=>
     obtain⟨n,hn⟩:=hc.run hv;cases n with
     | zero=>simp[nA]at hn
     | succ n=>simp only[nA,hb]at hn; rw[D.of_run n hn]at hw; cases hw
theorem lJ{b:S->Option (S⊕R)}{s s':S}(h:b s=some (.inl s')):bW b s=bW b s':=by rw[pK,h]
theorem fQ{b:S->Option (S⊕R)}{s:S}{r:R}(h:b s=some (.inr r)):bW b s=some r:=by rw[pK,h]
theorem Pm{b:S->Option (S⊕R)}{n:Nat}{s:S}{r:R}(h:nA b n s=some r):bW b s=some r:=(nR b s).of_run n h
def eJ{α:Type}[Inhabited α](c:α->List Cel)(xs:List α):Nat->List Cel:=fun i=>c (xs.getD i default)
def Vf(f:Nat->List Cel)(i:Nat):List (Nat×Cel)->Nat->List Cel
 | []=>f
 | p::l=>Vf (oT f i p.1 p.2) i l
def aIV(c:List Cel):List (Nat×Cel)->List Cel
 | []=>c
 | p::l=>aIV (c.set p.1 p.2) l
theorem aBW(i:Nat):∀ (l:List (Nat×Cel)) (f:Nat->List Cel),Vf f i l i=aIV (f i) l
 | [],_=>rfl
 | p::l,f=>by rw[Vf,aBW i l];rw[uK,aA rfl];rfl
theorem Gj{i k:Nat}(h:k≠i):∀ (l:List (Nat×Cel)) (f:Nat->List Cel),Vf f i l k=f k
 | [],_=>rfl
 | p::l,f=>by rw[Vf,Gj h l];rw[uK,aF h]
theorem aSH[Inhabited α]{c:α->List Cel}{xs:List α}{x:α}{l:List (Nat×Cel)}(h:aIV (c (xs.getD i default)) l=c x):∀ k,k<xs.length->Vf (eJ c xs) i l k=eJ c (xs.set i x) k:=by
 intro k hk;by_cases D:k=i
 ·subst D;rw[aBW];show aIV (c (xs.getD k default)) l=c ((xs.set k x).getD k default);simp_all
 ·rw[Gj D];show c (xs.getD k default)=c ((xs.set i x).getD k default);rw[dV,dV,List.getElem?_set_ne (fun h=>D h.symm)]
theorem aSW[Inhabited α](c:α->List Cel)(xs ys:List α):∀ i,i<xs.length+ys.length->uZ xs.length (eJ c xs) (eJ c ys) i=eJ c (xs++ys) i:=by intro i hi;unfold uZ eJ;grind
section
variable {P:Program} {E:Env} {I:Inf} {F:Nat->Prop} {g:Nat->Value} {st st2:St} {a:Act} {w:World}
theorem cG.chg(r:cG E F g st a w){x y:bA}(hl:look st.hp o=some x)(hy:dA F g w o y)(hft:∀ c,bC g w o y c->bC g w o x c):cG E F g { st with hp:=(o,y)::del o st.hp } a w:=by
 have hlm:=aX hl;have old:∀ k z c,(k,z)∈(o,y)::del o st.hp->bC g w k z c->∃ D,(k,D)∈st.hp/\bC g w k D c:=by
  intro k z c hz hc;rcases bE.1 hz with e | hz
  ·grind
  ·exact⟨z,(bB.1 hz).1,hc⟩
 refine⟨r.nt,r.df,r.fr,⟨⟨fun k z hz=>?_,fun k z c hz hc=>?_,fun k z k' D c hz G J hc M=>?_⟩,r.w.f0,r.w.f1,r.w.ext,r.w.names,r.w.b0⟩⟩
 ·rcases bE.1 hz with e | hz
  ·simp_all
  ·exact r.w.hp.obj k z (bB.1 hz).1
 ·obtain⟨D,h1,h2⟩:=old k z c hz hc;exact r.w.hp.own k D c h1 h2
 ·obtain⟨u,h1,h2⟩:=old k z c hz hc;obtain⟨u',Z,Q⟩:=old k' D c G M;exact r.w.hp.sep k u k' u' c h1 Z J h2 Q
theorem aGB.congr{u:Value}{n:Nat}{f f':Nat->List Cel}(h:aGB F g w u e s n f ov)(hn:n=m)(hf:∀ i,i<n->f i=f' i):aGB F g w u e s m f' ov:=by
 subst hn;rcases h with h | ⟨b,cap,cur,h1,h2,h3,h4,h5,D⟩
 ·exact .inl h
 ·refine .inr ⟨b,cap,cur,h1,h2,h3,h4,h5,fun i hi=>by rw[<-hf i hi]; exact D.len i hi,fun i j x hi hx=>by rw[<-hf i hi]at hx; exact D.cell i j x hi hx,fun i j M j' x Q v Z c hi J hx G=>by rw[<-hf i hi]at hx; rw[<-hf M J]at G;exact D.sep i j M j' x Q v Z c hi J hx G,fun i j x v hi hx=>by rw[<-hf i hi]at hx; exact D.own i j x v hi hx,fun i j p ho=>?_⟩;obtain⟨q1,q2,q3⟩:=D.ov i j p ho;simp_all
theorem Le.armN{n:Nat}{f f':Nat->List Cel}(hl:look st.hp o=some (.arm e s n f ov))(hn:n=m)(hf:∀ i,i<n->f i=f' i):Le E st { st with hp:=(o,.arm e s m f' ov)::del o st.hp }:=by
 refine Le.objF _ hl (fun F g w h=>aGB.congr h hn hf) (fun g w c h=>?_);subst hn;cases h with
 | self h=>exact .self h
 | arm h1 h2 h3 h4 h5 h6 h7=>exact .arm h1 h2 h3 (by simp_all) h5 h6 h7
theorem Le.armNil{n:Nat}{f:Nat->List Cel}(gg:Nat->List T)(hl:look st.hp o=some (.arm e s n f ov))(hx:(f i)[j]? = some .nl):
  Le E st { st with hp:=(o,.arm e s n (oT f i j (.row e' s' 0 gg)) ov)::del o st.hp }:=by
 have D:∀ {F:Nat->Prop} {g:Nat->Value} {w:World} {b:Nat} {cur:Array Value},Al F g w b s n f ov cur->i<n->cur[i*s+j]? = some (.slice none 0 0):=fun J hi=>by obtain⟨v,hv,hR⟩:=J.cell i j _ hi hx;rw[hv,show v = .slice none 0 0 from hR]
 rintro a w ⟨F,g,r⟩;have h:=r.w.hp.obj _ _ (aX hl);refine⟨F,g,r.chg hl ?_ fun c hc=>?_⟩
 ·rcases h with h | ⟨b,cap,cur,h1,h2,h3,h4,h5,J⟩
  ·exact .inl h
  ·refine .inr ⟨b,cap,cur,h1,h2,h3,h4,h5,fun k hk=>by rw[zS]; exact J.len k hk,fun k q x hk G=>?_,fun k q k' q' x x' v v' c hk hk' Q M ho ho' hv Z hc hc'=>?_,fun k q x v hk G ho hv=>?_,fun k q p ho=>?_⟩
   ·rcases eG G with⟨rfl,rfl,rfl⟩ | ⟨_,G⟩
    ·exact⟨_,D J hk,.inl ⟨rfl,rfl⟩⟩
    ·exact J.cell k q x hk G
   ·rcases eG Q with⟨rfl,rfl,rfl⟩ | ⟨_,Q⟩
    ·rw[D J hk]at hv; cases hv; simp[blk]at hc
    ·rcases eG M with⟨rfl,rfl,rfl⟩ | ⟨_,M⟩
     ·rw[D J hk']at Z; cases Z; simp[blk]at hc'
     ·exact J.sep k q k' q' x x' v v' c hk hk' Q M ho ho' hv Z hc hc'
   ·rcases eG G with⟨rfl,rfl,rfl⟩ | ⟨_,G⟩
    ·rw[D J hk]at hv; cases hv; simp[blk]
    ·exact J.own k q x v hk G ho hv
   ·obtain⟨q1,q2,q3⟩:=J.ov k q p ho;refine⟨q1,?_,q3⟩;rw[Fu]
    all_goals grind
 ·cases hc with
  | self h=>exact .self h
  | @arm _ _ _ _ _ _ bm cap k q cur x v h1 h2 h3 h4 h5 h6 h7=>
   rcases eG h4 with⟨rfl,rfl,rfl⟩ | ⟨_,h4⟩
   ·rcases h with⟨h,_⟩ | ⟨b,cap',cur',q1,q2,_,_,_,J⟩
    ·omega
    ·rw[q1]at h1; injection h1 with h1; injection h1 with h1; injection h1 with h1;subst h1;rw[q2]at h2; injection h2 with h2; injection h2 with h2;subst h2;rw[D J h3]at h6; cases h6; simp[blk]at h7
   ·exact .arm h1 h2 h3 h4 h5 h6 h7
theorem Rel.armFocus(hN:E.N=I.N){n:Nat}{f:Nat->List Cel}{f':Nat->List T}(hl:look st.hp o=some (.arm e s n f none))(hi:i<n)(hx:(f i)[j]? = some (.row e' s' m f'))
  (hs:nE I.N o q (.arm e s n (oT f i j .any) (some (i,j,.own q))) (.arr e' s' m f') st=some st2)(r:Rel E st a w):Rel E st2 a w:=by
 obtain⟨F,g,r⟩:=r;have J:q≠o:=by
  unfold nE at hs;split at hs
  ·rename_i h1 h2 h3; exact pB h2
  ·cases hs
 rcases r.w.hp.obj _ _ (aX hl) with⟨_,h2,_⟩ | ⟨b,cap,cur,h1,h2,h3,h4,h5,M⟩
 ·omega
 obtain⟨v,hv,hR⟩:=M.cell i j _ hi hx;have hR:qL F w v e' s' m f':=hR;have hj:j<(f i).length:=(Ir.1 hx).1;have old:∀ (k l:Nat) x,(oT f i j .any k)[l]? = some x->x.owned=true->¬ (k=i/\l=j)/\(f k)[l]? = some x:=fun k l x G ho=>by
  rcases eG G with⟨_,_,rfl⟩ | h
  ·cases ho
  ·exact h
 refine(r.focus hN v hl hs (fun Q hg D=>?_) (fun Q hg D=>?_) (fun Q b' hg D hf=>?_) (fun Q b' hg D hf=>?_) (fun Q b' hg D hf hf'=>?_)).2.elim fun Q h=>⟨F,Q,h.2.2⟩
 ·refine .inr ⟨b,cap,cur,by grind,h2,h3,h4,h5,fun k hk=>by rw[zS]; exact M.len k hk,fun k l x hk G=>?_,fun k l k' l' x x' u u' c hk hk' hx1 hx2 ho ho'=>?_,fun k l x u hk G ho=>?_,fun k l p e0=>?_⟩
  ·rcases eG G with⟨rfl,rfl,rfl⟩ | ⟨_,G⟩
   ·exact⟨v,hv,True.intro⟩
   ·exact M.cell k l x hk G
  ·exact M.sep k l k' l' x x' u u' c hk hk' (old k l x hx1 ho).2 (old k' l' x' hx2 ho').2 ho ho'
  ·exact M.own k l x u hk (old k l x G ho).2 ho
  ·cases e0;refine⟨hi,Lf hj,fun u hu=>?_⟩;rw[hv]at hu; cases hu;rcases hR with⟨e1,_⟩ | ⟨b2,cap2,_,e1,_⟩
   ·rw[e1]at D ⊢; exact .own D
   ·rw[e1]at D ⊢; exact .own D
 ·show qL F w (Q q) e' s' m f';simp_all
 ·cases hf with
  | self h=>rw[hg o (fun h=>J h.symm)]at h; exact .self h
  | arm q1 q2 q3 q4 q5 q6 q7=>rw[hg o (fun h=>J h.symm)]at q1; exact .arm q1 q2 q3 (old _ _ _ q4 q5).2 q5 q6 q7
 ·have:=hf.toBlk rfl;rw[D]at this;exact .arm h1 h2 hi hx rfl hv this
 ·have Z:=hf'.toBlk rfl;rw[D]at Z;cases hf with
  | self h=>rw[hg o (fun h=>J h.symm),h1]at h;simp[blk]at h; subst h;exact M.own i j _ v hi hx rfl hv Z
  | arm q1 q2 q3 q4 q5 q6 q7=>rw[hg o (fun h=>J h.symm),h1]at q1;injection q1 with q1; injection q1 with q1; injection q1 with q1;subst q1;rw[h2]at q2; injection q2 with q2; injection q2 with q2;subst q2;obtain⟨p1,p2⟩:=old _ _ _ q4 q5;exact p1 (M.sep _ _ i j _ _ _ v b' q3 hi p2 hx q5 rfl q6 hv q7 Z)
theorem Le.armMerge{n:Nat}{f:Nat->List Cel}{f':Nat->List T}(hl:look st.hp o=some (.arm e s n f (some (i,j,.own q))))(hq:look st.hp q=some (.arr e' s' m f'))
  (hs:Jv o q (.arm e s n (oT f i j (.row e' s' m f')) none) st=some st2):Le E st st2:=by
 rintro a w ⟨F,g,r⟩;have hqo:q≠o:=by grind
 have Z:=aX hl;have Q:=aX hq;have harr:qL F w (g q) e' s' m f':=r.w.hp.obj _ _ Q;rcases r.w.hp.obj _ _ Z with⟨_,_,h⟩ | ⟨b,cap,cur,h1,h2,h3,h4,h5,hC⟩
 ·cases h
 obtain⟨hi,hx,hov⟩:=hC.ov _ _ _ rfl;obtain⟨v,hv,_⟩:=hC.cell i j _ hi hx;have hvq:v=g q:=by have:=hov v hv;cases this with | own h=>exact h.symm
 have G:∀ c,blk v=some c->bC g w q (.arr e' s' m f') c:=fun c hc=>.self (by simp_all);have selfo:bC g w o (.arm e s n f (some (i,j,.own q))) b:=.self (by rw[h1]; rfl);refine⟨F,g,r.merge hl hq hs ?_ fun b' hf=>?_⟩
 ·refine .inr ⟨b,cap,cur,h1,h2,h3,h4,h5,fun k hk=>by rw[zS]; exact hC.len k hk,fun k l x hk D=>?_,fun k l k' l' x x' u u' c hk hk' hx1 J ho ho' hu M hc hc'=>?_,fun k l x u hk D ho hu hc=>?_,fun k l p e0=>by cases e0⟩
  ·rcases eG D with⟨rfl,rfl,rfl⟩ | ⟨_,D⟩
   ·exact⟨v,hv,by rw[hvq]; exact harr⟩
   ·exact hC.cell k l x hk D
  ·rcases eG hx1 with⟨rfl,rfl,rfl⟩ | ⟨_,_⟩
   ·rw[hv]at hu; cases hu;rcases eG J with⟨rfl,rfl,rfl⟩ | ⟨_,J⟩
    ·omega
    ·exact(r.w.hp.sep o _ q _ c Z Q (fun h=>hqo h.symm) (.arm h1 h2 hk' J ho' M hc') (G c hc)).elim
   ·rename_i hx3;rcases eG J with⟨rfl,rfl,rfl⟩ | ⟨_,J⟩
    ·rw[hv]at M; cases M;exact(r.w.hp.sep o _ q _ c Z Q (fun h=>hqo h.symm) (.arm h1 h2 hk hx3 ho hu hc) (G c hc')).elim
    ·exact hC.sep k l k' l' x x' u u' c hk hk' hx3 J ho ho' hu M hc hc'
  ·rcases eG D with⟨rfl,rfl,rfl⟩ | ⟨_,D⟩
   ·rw[hv]at hu; cases hu;exact r.w.hp.sep o _ q _ b Z Q (fun h=>hqo h.symm) selfo (G b hc)
   ·exact hC.own k l x u hk D ho hu hc
 ·cases hf with
  | self h=>exact .inl (.self h)
  | arm q1 q2 q3 q4 q5 q6 q7=>
   rcases eG q4 with⟨rfl,rfl,rfl⟩ | ⟨_,q4⟩
   ·simp_all
   ·exact .inl (.arm q1 q2 q3 q4 q5 q6 q7)
def aJF:Cel->Option T
 | .d x=>some x
 | .row _ _ n f=>some (.sl n f)
 | .nl=>some (.sl 0 fun _=>[])
 | .any=>none
theorem aOV{F':Nat->Prop}{x:Cel}{y:T}(h:Fz F w x v)(hx:aJF x=some y)(hF:∀ b,F b->F' b)(hb:∀ b,x.owned=true->blk v=some b->F' b):Rd F' w y v:=by
 cases x with
 | d z=>cases hx; exact Rd.mono (fun b hb=>⟨hF b hb,rfl⟩) h
 | row e s n f=>cases hx; exact Fl (g:=fun _=>v) (o:=0) (show dA F (fun _=>v) w 0 (.arr e s n f) from h) hF (fun b D=>hb b rfl D) rfl
 | nl=>cases hx; rw[show v = .slice none 0 0 from h]; exact .nil rfl
 | any=>cases hx
theorem aWU{n:Nat}{f:Nat->List Cel}{gf:Nat->List T}(h:dA F g w o (.arm e s n f none))(hc:∀ i,i<n->(f i).map aJF=(gf i).map some){x:T}(hx:x.view=some (n,gf)):
  Rd (fun b=>F b\/bC g w o (.arm e s n f none) b) w x (g o):=by
 rcases h with⟨h1,h2,_⟩ | ⟨b,cap,cur,h1,h2,h3,h4,h5,M⟩
 ·rw[h1]; subst h2; exact .nil hx
 ·have J:∀ i,i<n->(gf i).length=s:=fun i hi=>by have:=congrArg List.length (hc i hi);rw[dH,dH]at this;rw[<-this]; exact M.len i hi
  have D:∀ (i j:Nat) y,i<n->(gf i)[j]? = some y->∃ c,(f i)[j]? = some c/\aJF c=some y:=fun i j y hi hy=>by have:=congrArg (·[j]?) (hc i hi);grind
  have self:bC g w o (.arm e s n f none) b:=.self (by rw[h1]; rfl);have h1':=h1;rw[h1];refine .sl ⟨b,0,none⟩ cap s (fun i j=>(cur[i*s+j]?).getD undef) hx h3 (fun _=>.inr self) J (fun i j hi hj=>?_) (fun i j y hi hy=>?_)
  ·have Q:j<(f i).length:=by rw[M.len i hi]; exact hj
   obtain⟨v,hv,_⟩:=M.cell i j _ hi (iE Q);rw[Addr.add_none];simp[World.cell?,h2,hv]
  ·obtain⟨c,G,Z⟩:=D i j y hi hy;obtain⟨v,hv,hR⟩:=M.cell i j c hi G;simp only[hv,sH];exact aOV hR Z (fun b hb=>.inl hb) fun b' ho hb'=>.inr (.arm h1' h2 hi G ho hv hb')
theorem Rel.armFreeze{n:Nat}{f:Nat->List Cel}{gf:Nat->List T}{x:T}{st':St}(hl:look st.hp o=some (.arm e s n f none))(hx:x.view=some (n,gf))(hc:∀ i,i<n->(f i).map aJF=(gf i).map some)
  (h:qN o x st=some st')(r:Rel E st a w):Rel E st' a w:=by
 obtain⟨F,g,r⟩:=r;unfold qN at h;have M:=aX hl;have Z:=r.w.hp.obj _ _ M;have hq:VR (fun b=>F b\/bC g w o (.arm e s n f none) b) g w (.t x) (g o):=.t (aWU Z hc hx);have hF:∀ b,F b->(F b\/bC g w o (.arm e s n f none) b):=fun b hb=>.inl hb;have hfr:=St.erase_fr h;have D:=St.erase_hp h;refine⟨fun b=>F b\/bC g w o (.arm e s n f none) b,g,r.nt,r.df,fun t x' hx'=>?_,⟨⟨fun k y hy=>?_,fun k y b hy hb=>?_,fun k y G y' b hy hy' hne hb hb'=>?_⟩,fun b hb=>.inl (r.w.f0 b hb),fun b hb=>?_,r.w.ext,r.w.names,r.w.b0⟩⟩
 ·obtain⟨h1,_⟩:=hfr t x' hx';simp only[cU,gE]at h1;obtain⟨⟨t',y⟩,hy,rfl,rfl⟩:=h1;exact PV.fz_ok hF hq (r.fr t' y hy)
 ·obtain⟨x,h1,_,_,h4,_⟩:=D k y hy;simp only[cU,gE]at h1;obtain⟨⟨G,z⟩,Q,rfl,rfl⟩:=h1;exact h4 _ _ _ (Tm hF hq (r.w.hp.obj G z (bB.1 Q).1))
 ·obtain⟨x,h1,h2,_,_,h5⟩:=D k y hy;simp only[cU,gE]at h1;obtain⟨⟨G,z⟩,Q,rfl,rfl⟩:=h1;obtain⟨J,hz2⟩:=bB.1 Q;have hb:=kV (h5 _ _ _ hb);refine⟨?_,(r.w.hp.own G z b J hb).2⟩;rintro (h | h)
  ·exact(r.w.hp.own G z b J hb).1 h
  ·exact r.w.hp.sep G z o _ b J M hz2 hb h
 ·obtain⟨x,h1,_,_,_,h5⟩:=D k y hy;obtain⟨x',h1',_,_,_,h5'⟩:=D G y' hy';simp only[cU,gE]at h1 h1';obtain⟨⟨k2,z⟩,Q,rfl,rfl⟩:=h1;obtain⟨⟨k2',z'⟩,hz',rfl,rfl⟩:=h1';exact r.w.hp.sep k2 z k2' z' b (bB.1 Q).1 (bB.1 hz').1 hne (kV (h5 _ _ _ hb)) (kV (h5' _ _ _ hb'))
 ·rcases hb with hb | hb
  ·exact r.w.f1 b hb
  ·have:=(r.w.hp.own o _ b M hb).2;exact⟨hb.block Z,this.elim (fun h=>.inr (.inl h)) (fun h=>.inr (.inr h))⟩
def Wm(N:List Nat)(t o e s:Nat)(f:Nat->List Cel)(st:St):Option St:=
 match look st.fr t,qG o N,st.erase o with
 | some .nil,true,some st1=>some { fr:=(t,.own o)::del t st1.fr,hp:=(o,.arm e s 0 f none)::st1.hp }
 | _,_,_=>none
theorem Rel.thawA(M:gN P E I){f:Nat->List Cel}{st':St}(h:Wm I.N t o e s f st=some st')(r:Rel E st a w):Rel E st' a w:=by
 obtain⟨F,g,r⟩:=r;unfold Wm at h;split at h
 ·rename_i st1 hl hn he;cases h;have G:a.tmps.getD t undef = .slice none 0 0:=by have:=r.fr _ _ (aX hl);generalize a.tmps.getD t undef=u at this;cases this; rfl
  have D:∀ b,bC (upd g o (.slice none 0 0)) w o (.arm e s 0 f none) b->False:=fun b hb=>by
   cases hb with
   | self h=>rw[bJ]at h; simp[blk]at h
   | arm h1=>omega
  refine⟨F,upd g o (.slice none 0 0),r.nt,r.df,fun J x hx=>?_,⟨HpR.change r.w.hp he (fun k hk=>bP g _ hk) (fun b hb=>⟨hb,rfl⟩) (fun _ h=>h) (fun _ _ _ _ _ _=>rfl) (.inl ⟨bJ ..,rfl,rfl⟩)
   (fun b hb=>(D b hb).elim) (fun k y b _ _ _ hb=>D b hb),r.w.f0,r.w.f1,r.w.ext,fun k hk=>?_,r.w.b0⟩⟩
  ·rcases bE.1 hx with e | hx
   ·cases e; rw[G]; exact .own (bJ ..)
   ·obtain⟨h1,h2⟩:=St.erase_fr he J x (bB.1 hx).1;exact(r.fr J x h1).mono (fun b hb=>⟨hb,rfl⟩) (fun k hk=>bP g _ (h2 k hk))
  ·rw[bP g _ (fun e:k=o=>eX hn (M.N▸e▸hk))];exact r.w.names k hk
 ·cases h
end
section
variable {F:Nat->Prop} {g g':Nat->Value} {w:World} {b clock ob:Nat} {es:Array MapEntry} {it:Option Iter}
theorem MpR.anyHead{m:List (T×Mem)}{Z:T}{l:List MapEntry}(h:MpR F g w b es clock it ((Z,y)::m) none l r)(hit:ItR g' w b es clock it):
  MpR F g' w b es clock it ((Z,.any)::m) none l r where
 perm:=h.perm
 ent:=by
  have:=h.ent;cases this with
  | cons h1 h2=>exact .cons ⟨h1.1,trivial⟩ h2
 hole:=h.hole
 keys:=h.keys
 born:=h.born
 old:=h.old
 sep:=by
  intro i j x z e e' c hx hz he M J G D hb Q;cases i with
  | zero=>simp only[List.getElem?_cons_zero,gJ]at hx;subst hx; cases G
  | succ i=>
   cases j with
   | zero=>simp only[List.getElem?_cons_zero,gJ]at hz;subst hz; cases D
   | succ j=>exact h.sep (i+1) (j+1) x z e e' c (by simp_all) (by simp_all) he M J G D hb Q
 it:=hit
theorem bC.any{m:List (T×Mem)}{D:T}{hl:T×Option PV}(h:bC g w ob (.mp it ((D,.any)::m) none) c):bC g w ob (.mp it m (some hl)) c:=by
 cases h with
 | self h=>exact .self h
 | iter h=>exact .iter h
 | mem h1 h2 h3 h4 h5 h6 h7=>
  rcases bE.1 h4 with rfl | h4
  ·cases h6
  ·exact .mem h1 h2 h3 h4 h5 h6 h7
end
def Gt{B:Type}(e s:Nat)(nn:B->Nat)(ff:B->Nat->List T):Option B->Mem
 | none=>.any
 | some c=>.row e s (nn c) (ff c)
theorem aOQ{K B:Type}[MKey K]{nn:B->Nat}{ff:B->Nat->List T}(v:List (K×B)):
  eM (Gt e s nn ff) (v.map fun p=>(p.1,some p.2))=eM (fun c=>Mem.row e s (nn c) (ff c)) v:=by
 simp only[eM,yU];rfl
section
variable {P:Program} {E:Env} {I:Inf} {st:St} {K V:Type} [MKey K] {k:K}
theorem aEL(hG:gN P E I){l:List Oper}{o:Oper}{rest:List Oper}{Q:iK}{d ob:Nat}{it:Option Iter}{n:Nat}{f:Nat->List T}{enc:V->Mem}(v:List (K×V))(c cA:V)
  (hl:l=o::rest)(hop:o.op = .lookup t x kx false)(hd:o.dst=some d)(hw:cC ops o st=some true)(hnt:Nat.blt d I.nt=true)(hx:ev st x=some (.map ob))(hk:ev st kx=some (.t (MKey.kT k)))
  (hob:look st.hp ob=some (.mp it (eM enc v) none))(hm:pH I.ti t (MKey.kT k)=some et)(hz:Ii P et (.slice none 0 0))(hit:Xk d it=true)
  (hlk:bG v k=some c)(hrow:enc c = .row e s n f)(hany:enc cA = .any){st2:St}
  (hs:nE I.N ob d (.mp it (eM enc (mput v k cA)) none) (.arr e s n f) st=some st2)
  (h1:fG P E ops Q rest (st2.put d (.own d))):fG P E ops Q l st:=by
 refine fN hl hw fun F g a w r=>?_;have hd':d<E.nt:=by rw[hG.nt]; simp_all
 obtain⟨kt,kd,hT⟩:=tE hG.ti hm;obtain⟨info,hi,hz⟩:=hz;obtain⟨b,es,clock,e1,e2,l1,r1,hM⟩:=r.w.hp.obj _ _ (aX hob);have hxv:=bT r hx;have hkv:=(bT r hk).key hT.d;obtain⟨u,hu⟩:∃ u,a.eval x=u:=⟨_,rfl⟩;obtain⟨kv,hkv'⟩:∃ u,a.eval kx=u:=⟨_,rfl⟩;rw[hu]at hxv; rw[hkv']at hkv;have hdo:=Lc hs;have hno:=Nq hit;cases hxv with
 | map hg=>
  rw[e1]at hg; injection hg with hg; injection hg with hg; subst hg;have hrun:=qX (P:=P) hT hkv e2 (hM.kinds (by simp) k) hi hz;have hf:=hM.found k;have hex:∀ v',(Instr.lookup t (.map (some b)) kv false).run P w = .ok v' w->(execOp a.eval o).run P w = .ok (.value v') w:=by intro v' hv';unfold execOp;simp_all
  obtain⟨hp,e0,he0,hk0⟩:=hf.2 c hlk;rcases hrun with⟨_,h2⟩ | ⟨e',he,hke,h2⟩
  ·simp_all
  ·obtain⟨l2,hM2⟩:=hM.permM hp;have M:=(hM2.entry (x:=(MKey.kT k,enc c)) (by simp) he hke).1.2;simp only[hrow]at M;have Z:∃ ad m c',e'.val = .slice ad m c':=by
    rcases M with⟨h1,_⟩ | ⟨bb,cap,cur,h1,_⟩
    all_goals simp_all
   have J:=hM2.give (d:=d) (ob:=ob) (p:=none) e1 e2 (by rw[hrow]; rfl) hdo hit he hke (fun G hg' q hq=>by cases hq);have hp2:=Wb (enc:=enc) v k cA;rw[hany]at hp2;have hag:∀ G:Nat->Value,(∀ q,q≠d->G q=g q)->∀ q,q∈itN it->G q=g q:=fun G hg q hq=>hg q (hno q hq);obtain⟨_,G,D,hga,r'⟩:=r.focus hG.N e'.val hob hs
    (fun G hg D=>by obtain⟨l3,hM3⟩:=(hM2.anyHead (hM.it.agree (hag G hg))).permM hp2;exact⟨b,es,clock,by grind,e2,l3,_,hM3⟩)
    (fun G hg D=>by simp only[dA]; rw[D]; exact M)
    (fun G c' hg D hc=>((J.2 G hg D).2.1 c' (hc.perm hp2.symm).any).perm hp.symm)
    (fun G c' hg D hc=>((J.2 G hg D).2.2.1 _ c' rfl hc).perm hp.symm)
    (fun G c' hg D hc hc'=>(J.2 G hg D).2.2.2 _ c' rfl (hc.perm hp2.symm).any hc')
   obtain⟨ad,mm,cc,Z⟩:=Z;exact⟨_,_,w,_,hex _ h2,.inl rfl,by rw[hd]; exact⟨F,G,r'.put hd' (by rw[Z]; exact .own (by rw[D,Z]))⟩,h1⟩
end
inductive VT:Type 1 where
 | ok
 | eq {A:Type} (x:A)
 | and (x y:VT)
 | all {A:Type} (f:A->VT)
def pk(b:Bool)(x y:A):A:=match b with | true=>x | false=>y
def vt(b:Bool)(x y:A):VT:=.eq (pk b x y)
def bad(b:Bool):VT:=.eq b
theorem bH{x y:A}(h:vt true x y=vt false x y):x=y:=by injection h
theorem aN(h:bad true=bad false):False:=by injection h with _ h; cases h
theorem aQ{a b c d:VT}(h:VT.and a b=VT.and c d):a=c/\b=d:=by simp_all
theorem oS{f g:A->VT}(h:VT.all f=VT.all g)(s:A):f s=g s:=by simp_all
class Cur (S:Type) where
 all:(S->VT)->VT
 ok:∀ f g,all f=all g->∀ s,f s=g s
instance (S:Type):Cur S:=⟨fun f=>.all f,fun _ _ h=>oS h⟩
instance (A B:Type)[Cur B]:Cur (A×B):=⟨fun f=>.all fun a=>Cur.all fun b=>f (a,b),fun _ _ h s=>Cur.ok _ _ (oS h s.1) s.2⟩
instance (A B:Type)[Cur A][Cur B]:Cur (A⊕B):=⟨fun f=>.and (Cur.all fun a=>f (.inl a)) (Cur.all fun b=>f (.inr b)),fun _ _ h s=>by
 obtain⟨h1,h2⟩:=aQ h;cases s with
 | inl a=>exact Cur.ok _ _ h1 a
 | inr b=>exact Cur.ok _ _ h2 b⟩
instance:Cur Unit:=⟨fun f=>f (),fun _ _ h _=>h⟩
def part[Inhabited α](xs:List α)(lo n:Nat):List α:=(List.range n).map fun j=>xs.getD (lo+j) default
inductive Sg (α:Type) where
 | al (xs:List α)
 | pt (xs:List α) (lo n:Nat)
def Sg.n{α:Type}:Sg α->Nat | .al xs=>xs.length | .pt _ _ n=>n
def Sg.f[Inhabited α](c:α->List T):Sg α->Nat->List T | .al xs=>eF c xs | .pt xs lo _=>fun k=>eF c xs (lo+k)
def Sg.l[Inhabited α]:Sg α->List α | .al xs=>xs | .pt xs lo n=>part xs lo n
def aFT{α:Type}[Inhabited α](c:α->List T):Nat×(Nat->List T)->List (Sg α)->Nat×(Nat->List T)
 | p,[]=>p
 | p,a::l=>aFT c (p.1+a.n,pJ p.1 p.2 (a.f c)) l
def sgL{α:Type}[Inhabited α]:List α->List (Sg α)->List α
 | p,[]=>p
 | p,a::l=>sgL (p++a.l) l
theorem Sg.ok[Inhabited α](c:α->List T)(a:Sg α):a.n=a.l.length/\∀ i,i<a.n->a.f c i=eF c a.l i:=by
 cases a with
 | al xs=>exact⟨rfl,fun _ _=>rfl⟩
 | pt xs lo n=>refine⟨by simp[Sg.n,Sg.l,part],fun i hi=>?_⟩;simp only[Sg.n]at hi;simp[Sg.f,Sg.l,part,eF,hi]
theorem aBQ{α:Type}[Inhabited α](c:α->List T):∀ (l:List (Sg α)) {p:Nat×(Nat->List T)} {q:List α},p.1=q.length->(∀ i,i<p.1->p.2 i=eF c q i) ->
  (aFT c p l).1=(sgL q l).length/\∀ i,i<(aFT c p l).1->(aFT c p l).2 i=eF c (sgL q l) i
 | [],_,_,h1,h2=>⟨h1,h2⟩
 | a::l,p,q,h1,h2=>by
  refine aBQ c l ?_ fun i hi=>?_
  ·simp only[dR,h1,(Sg.ok c a).1]
  ·simp only[pJ];simp only at hi;rw[<-Ou c q a.l i (by rw[<-h1,<-(Sg.ok c a).1]; exact hi)];unfold pJ;rw[<-h1];split
   ·simp_all
   ·rename_i h; exact(Sg.ok c a).2 _ (by omega)
inductive Cv:Type 1 where
 | fr (o:Nat) (x:T)
 | rn (o o':Nat)
 | th (t o e s:Nat) (f:Nat->List T)
 | sl (t:Nat) (x:T)
 | ap {α:Type} [Inhabited α] (o:Nat) (c:α->List T) (xs ys:List α)
 | apl {α:Type} [Inhabited α] (o:Nat) (c:α->List T) (xs ys:List α)
 | sg {α:Type} [Inhabited α] (o:Nat) (c:α->List T) (a:Sg α) (l:List (Sg α))
 | fz {K V:Type} [MKey K] (o e s:Nat) (nn:V->Nat) (ff:V->Nat->List T) (eD:V->T) (v:List (K×V))
 | gp {K V:Type} [MKey K] (o:Nat) (enc:V->Mem) (v:List (K×V)) (k:K)
 | fw {K V:Type} [MKey K] (o q e s:Nat) (nn:V->Nat) (ff:V->Nat->List T) (v:List (K×V)) (k:K) (c:V)
 | fd {K V:Type} [MKey K] (o:Nat) (eD:V->T) (v:List (K×V)) (k:K) (c:V)
 | mg (o q:Nat)
 | nr (o i j e s:Nat) (g:Nat->List T)
 | la {α:Type} [Inhabited α] (o:Nat) (c:α->List Cel) (xs:List α)
 | apr {α:Type} [Inhabited α] (o:Nat) (c:α->List Cel) (xs ys:List α)
 | upr {α:Type} [Inhabited α] (o:Nat) (c:α->List Cel) (xs:List α) (i:Nat) (x:α) (l:List (Nat×Cel))
 | fza {α:Type} [Inhabited α] (o:Nat) (c:α->List Cel) (cW:α->List T) (xs:List α)
 | tha (t o e s:Nat) (f:Nat->List Cel)
 | om {K B:Type} [MKey K] (o e s:Nat) (nn:B->Nat) (ff:B->Nat->List T) (v:List (K×B))
def Wr(x:T):Option Nat:=match x.view with | some (n,_)=>some n | none=>none
def slE(b:Bool)(n:Nat)(f:Nat->List T)(m:Nat)(g:Nat->List T):VT:=.and (vt b m n) (vt b ((List.range n).map f) ((List.range n).map g))
def gG(b:Bool):List PV->List T->VT
 | [],[]=>.ok
 | .nil::l,x::r=>.and (vt b (Wr x) (some 0)) (gG b l r)
 | .t (.sl n f)::l,.sl m g::r=>.and (slE b n f m g) (gG b l r)
 | .t (.sl n f)::l,.lz x::r=>.and (slE b n f x.len x.cells) (gG b l r)
 | p::l,x::r=>.and (vt b p (.t x)) (gG b l r)
 | _,_=>bad b
def slV(b:Bool)(p:PV)(x:T):VT:=
 match p,x with
 | .nil,x=>vt b (Wr x) (some 0)
 | .agg l,.agg r=>gG b l r
 | .t (.sl n f),.sl m g=>slE b n f m g
 | .t (.sl n f),.lz x=>slE b n f x.len x.cells
 | .fn (.func k) 0 [],.fv f=>vt b k f
 | p,x=>vt b p (.t x)
def cvS(I:Inf)(c:Cv)(st:St):Option St:=
 match c with
 | .fr o x=>qN o x st
 | .rn o o'=>grn I.N o o' st
 | .th t o e s f=>Zw I.N t o e s f st
 | .sl t x=>some { st with fr:=(t,.t x)::del t st.fr }
 | @Cv.ap _ _ o c xs ys=>match look st.hp o with | some (.arr e s _ _)=>some { st with hp:=(o,.arr e s (xs++ys).length (eF c (xs++ys)))::del o st.hp } | _=>none
 | @Cv.apl _ _ o c xs ys=>match look st.hp o with | some (.arr e s _ _)=>some { st with hp:=(o,.arr e s (xs++ys).length (eF c (xs++ys)))::del o st.hp } | _=>none
 | @Cv.sg _ _ o c a l=>match look st.hp o with | some (.arr e s _ _)=>some { st with hp:=(o,.arr e s (sgL a.l l).length (eF c (sgL a.l l)))::del o st.hp } | _=>none
 | @Cv.fz _ _ _ o _ _ _ _ eD v=>match look st.hp o with | some (.mp it _ _)=>some { st with hp:=(o,.mp it (eM (fun c=>.d (eD c)) v) none)::del o st.hp } | _=>none
 | @Cv.gp _ _ _ o enc v k=>match look st.hp o with | some (.mp it _ _)=>some { st with hp:=(o,.mp it (eM enc (mdel v k)) (some (MKey.kT k,none)))::del o st.hp } | _=>none
 | @Cv.fw _ _ _ o q e s nn ff v k c=>match look st.hp o with | some (.mp it _ _)=>Jv o q (.mp it (eM (fun c=>.row e s (nn c) (ff c)) (mput v k c)) none) st | _=>none
 | @Cv.fd _ _ _ o eD v k c=>match look st.hp o with | some (.mp it _ _)=>some { st with hp:=(o,.mp it (eM (fun c=>.d (eD c)) (mput v k c)) none)::del o st.hp } | _=>none
 | .mg o q=>match look st.hp o,look st.hp q with
  | some (.arm e s n f (some (i,j,.own q'))),some (.arr e' s' m f')=>match Nat.beq q' q with | true=>Jv o q (.arm e s n (oT f i j (.row e' s' m f')) none) st | false=>none
  | _,_=>none
 | .nr o i j e' s' g=>match look st.hp o with
  | some (.arm e s n f ov)=>match (f i)[j]? with | some .nl=>some { st with hp:=(o,.arm e s n (oT f i j (.row e' s' 0 g)) ov)::del o st.hp } | _=>none
  | _=>none
 | @Cv.la _ _ o c xs=>match look st.hp o with | some (.arm e s _ _ ov)=>some { st with hp:=(o,.arm e s xs.length (eJ c xs) ov)::del o st.hp } | _=>none
 | @Cv.apr _ _ o c xs ys=>match look st.hp o with | some (.arm e s _ _ ov)=>some { st with hp:=(o,.arm e s (xs++ys).length (eJ c (xs++ys)) ov)::del o st.hp } | _=>none
 | @Cv.upr _ _ o c xs i x _=>match look st.hp o with | some (.arm e s _ _ ov)=>some { st with hp:=(o,.arm e s (xs.set i x).length (eJ c (xs.set i x)) ov)::del o st.hp } | _=>none
 | @Cv.fza _ _ o _ cW xs=>qN o (eL cW xs) st
 | .tha t o e s f=>Wm I.N t o e s f st
 | @Cv.om _ _ _ o e s nn ff v=>match look st.hp o with | some (.mp it _ _)=>some { st with hp:=(o,.mp it (eM (Gt e s nn ff) (v.map fun p=>(p.1,some p.2))) none)::del o st.hp } | _=>none
def cvV(b:Bool)(c:Cv)(st:St):VT:=
 match c with
 | @Cv.om _ _ _ o e s nn ff v=>match look st.hp o with | some (.mp _ m h)=>vt b (m,h) (eM (fun c=>.row e s (nn c) (ff c)) v,none) | _=>bad b
 | @Cv.la _ _ o c xs=>match look st.hp o with | some (.arm _ _ n f _)=>.and (vt b n xs.length) (vt b ((List.range n).map f) ((List.range n).map (eJ c xs))) | _=>bad b
 | @Cv.apr _ _ o c xs ys=>match look st.hp o with | some (.arm _ _ n f _)=>vt b (n,f) (xs.length+ys.length,uZ xs.length (eJ c xs) (eJ c ys)) | _=>bad b
 | @Cv.upr _ _ o c xs i x l=>match look st.hp o with | some (.arm _ _ n f _)=>.and (vt b (n,f) (xs.length,Vf (eJ c xs) i l)) (vt b (aIV (c (xs.getD i default)) l) (c x)) | _=>bad b
 | @Cv.fza _ _ o c cW xs=>match look st.hp o with | some (.arm _ _ n f none)=>.and (vt b (n,f) (xs.length,eJ c xs)) (.all fun y=>vt b ((c y).map aJF) ((cW y).map some)) | _=>bad b
 | .fr o x=>match look st.hp o with | some (.arr _ _ n f)=>vt b (some (n,f)) x.view | _=>bad b
 | .sl t x=>match look st.fr t with | some p=>slV b p x | none=>bad b
 | @Cv.ap _ _ o c xs ys=>match look st.hp o with | some (.arr _ _ n f)=>vt b (n,f) (xs.length+ys.length,pJ xs.length (eF c xs) (eF c ys)) | _=>bad b
 | @Cv.apl _ _ o c xs ys=>match look st.hp o with
  | some (.arr _ s n f)=>.and (vt b (n,f) (xs.length+ys.length,pJ xs.length (eF c xs) (jM (ys.flatMap c) s))) (vt b ((List.range ys.length).map (jM (ys.flatMap c) s)) ((List.range ys.length).map (eF c ys)))
  | _=>bad b
 | @Cv.sg _ _ o c a l=>match look st.hp o with | some (.arr _ _ n f)=>vt b (n,f) (aFT c (a.n,a.f c) l) | _=>bad b
 | @Cv.gp _ _ _ o enc v _=>match look st.hp o with | some (.mp _ m h)=>vt b (m,h) (eM enc v,none) | _=>bad b
 | @Cv.fz _ _ _ o e s nn ff eD v=>match look st.hp o with | some (.mp _ m h)=>.and (vt b (m,h) (eM (fun c=>.row e s (nn c) (ff c)) v,none)) (.all fun c=>vt b (eD c).view (some (nn c,ff c))) | _=>bad b
 | @Cv.fw _ _ _ o q e s nn ff v k c=>match look st.hp o,look st.hp q with
  | some (.mp _ m h),some y=>.and (vt b (m,h) (eM (fun c=>.row e s (nn c) (ff c)) (mdel v k),some (MKey.kT k,some (.own q)))) (vt b y (.arr e s (nn c) (ff c)))
  | _,_=>bad b
 | @Cv.fd _ _ _ o eD v k c=>match look st.hp o with | some (.mp _ m (some (kk,some p)))=>.and (vt b (m,kk) (eM (fun c=>.d (eD c)) (mdel v k),MKey.kT k)) (slV b p (eD c)) | _=>bad b
 | _=>.ok
def cvL(I:Inf):List Cv->St->Option St
 | [],st=>some st
 | c::l,st=>match cvS I c st with | some st'=>cvL I l st' | none=>none
def aMA(I:Inf)(b:Bool):List Cv->St->VT
 | [],_=>.ok
 | c::l,st=>.and (cvV b c st) (match cvS I c st with | some st'=>aMA I b l st' | none=>bad b)
section
variable {P:Program} {E:Env} {I:Inf} {st st':St}
theorem Rd.nz{F:Nat->Prop}{w:World}{t t':T}{f f':Nat->List T}(h:Rd F w t v)(h1:t.view=some (0,f))(h2:t'.view=some (0,f')):Rd F w t' v:=by
 cases h with
 | nil _=>exact .nil h2
 | sl a cap size vs hv hc hF hs hvv hr=>rw[h1]at hv;cases hv;exact .sl a cap size vs h2 hc hF (fun i hi=>absurd hi (by omega)) (fun i j hi=>absurd hi (by omega)) (fun i j x hi=>absurd hi (by omega))
 | _=>simp[T.view]at h1
theorem dA.nz{F:Nat->Prop}{g:Nat->Value}{w:World}{o:Nat}{e:TypeId}{s n k:Nat}{f m:Nat->List T}{x:T}(hx:x.view=some (0,m))
  (h:dA F g w o (.arr e s n (vE f k [.sl 0 fun _=>[]]))):dA F g w o (.arr e s n (vE f k [x])):=by
 rcases h with h | ⟨b,cap,cur,h1,h2,h3,h4,Q,M,G⟩
 ·exact .inl h
 ·refine .inr ⟨b,cap,cur,h1,h2,h3,h4,Q,fun i hi=>?_,fun i j y hi hy=>?_⟩
  ·have:=M i hi;unfold vE at this ⊢;split <;> simp_all
  ·by_cases D:i=k
   ·subst D;unfold vE at hy;rw[aA rfl]at hy;have J:j=0:=by grind
    subst J;simp only[List.getElem?_cons_zero,gJ]at hy;subst hy;obtain⟨v,hv,hr⟩:=G i 0 (.sl 0 fun _=>[]) hi (by unfold vE; simp_all);exact⟨v,hv,hr.nz rfl hx⟩
   ·exact G i j y hi (by unfold vE at hy ⊢; simp_all)
theorem iN{f g:Nat->α}{n:Nat}(h:(List.range n).map f=(List.range n).map g):∀ i,i<n->f i=g i:=by simp_all
theorem aHK{n:Nat}{f g:Nat->List T}(h:slE true n f m g=slE false n f m g):∀ F q w v,VR F q w (.t (.sl n f)) v->VR F q w (.t (.sl m g)) v:=by unfold slE at h;obtain⟨h1,h2⟩:=aQ h;exact Bw rfl (bH h1) (iN (bH h2))
theorem gD:∀ {l:List PV} {r:List T},gG true l r=gG false l r->nI l r
 | [],[],_=>.nil
 | [],_::_,h=>by simp only[gG]at h; exact(aN h).elim
 | p::l,[],h=>by cases p <;> (simp only[gG]at h; exact(aN h).elim)
 | p::l,x::r,h=>by
  cases p with
  | nil=>
   simp only[gG]at h;obtain⟨h1,h2⟩:=aQ h;have h1:=bH h1;unfold Wr at h1;split at h1
   ·rename_i n f hv;cases h1;exact .empty hv (gD h2)
   ·cases h1
  | t y=>
   cases y with
   | sl n f=>
    cases x with
    | sl m g=>simp only[gG]at h;obtain⟨h1,h2⟩:=aQ h;exact .imp (aHK h1) (gD h2)
    | lz z=>simp only[gG]at h;obtain⟨h1,h2⟩:=aQ h;obtain⟨h3,h4⟩:=aQ h1;exact .imp (Bw (x:=.lz z) rfl (bH h3) (iN (bH h4))) (gD h2)
    | _=>simp only[gG]at h;obtain⟨h1,h2⟩:=aQ h;have h1:=bH h1;cases h1
   | _=>simp only[gG]at h;obtain⟨h1,h2⟩:=aQ h;have h1:=bH h1;cases h1;exact .same (gD h2)
  | _=>simp only[gG]at h;obtain⟨h1,h2⟩:=aQ h;have h1:=bH h1;simp_all
theorem bES{F:Nat->Prop}{g:Nat->Value}{w:World}{k:Nat}(h:VR F g w (.fn (.func k) 0 []) v):VR F g w (.t (.fv k)) v:=by
 cases h with
 | @fn _ _ _ us vs hn hs _=>have h1:us=#[]:=Cp hn;have h2:vs=#[]:=Cp (by simp_all);subst h1 h2;exact .t (.fv k)
theorem aIN{x:T}(h:slV true p x=slV false p x):∀ F g w v,VR F g w p v->VR F g w (.t x) v:=by
 unfold slV at h;split at h
 ·have h:=bH h;unfold Wr at h;split at h
  ·rename_i n f hv;cases h;exact aKF hv
  ·cases h
 ·exact Xw (gD h)
 ·exact aHK h
 ·rename_i z;obtain⟨h3,h4⟩:=aQ h;exact Bw (x:=.lz z) rfl (bH h3) (iN (bH h4))
 ·have h:=bH h;subst h;exact fun _ _ _ _ hv=>bES hv
 ·have h:=bH h;simp_all
theorem bEC(J:gN P E I){c:Cv}(h:cvV true c st=cvV false c st)(hs:cvS I c st=some st'):Le E st st':=by
 cases c with
 | fr o x=>
  simp only[cvV]at h;split at h
  ·rename_i e s n f hl;exact Le.freeze x hl (bH h).symm hs
  ·exact(aN h).elim
 | rn o o'=>exact Le.rn J hs
 | th t o e s f=>exact Le.thaw J hs
 | sl t x=>
  simp only[cvV]at h;split at h
  ·rename_i p hp;cases hs;exact Le.slot (.t x) hp (aIN h)
  ·exact(aN h).elim
 | ap o c xs ys=>
  simp only[cvV]at h;split at h
  ·rename_i e s n f hp;simp only[cvS,hp]at hs;cases hs;have h1:=bH h;cases h1;exact Le.obj _ hp (fun _ _ _=>dA.row (by simp) (Ou c xs ys)) rfl
  ·exact(aN h).elim
 | apl o c xs ys=>
  simp only[cvV]at h;split at h
  ·rename_i e s n f hp;simp only[cvS,hp]at hs;cases hs;obtain⟨h1,h2⟩:=aQ h;have h1:=bH h1;have h2:=iN (bH h2);cases h1;refine Le.obj _ hp (fun _ _ _=>dA.row (by simp) fun i hi=>?_) rfl;rw[<-Ou c xs ys i hi];unfold pJ;grind
  ·exact(aN h).elim
 | sg o c a l=>
  simp only[cvV]at h;split at h
  ·rename_i e s n f hp;simp only[cvS,hp]at hs;cases hs;have h1:=bH h;have h2:=aBQ c l (p:=(a.n,a.f c)) (q:=a.l) (Sg.ok c a).1 (Sg.ok c a).2;rw[<-h1]at h2;exact Le.obj _ hp (fun _ _ _=>dA.row h2.1 h2.2) rfl
  ·exact(aN h).elim
 | fz o e s nn ff eD v=>
  simp only[cvV]at h;split at h
  ·rename_i it m ho hl;simp only[cvS,hl]at hs;cases hs;obtain⟨h1,h2⟩:=aQ h;have h1:=bH h1;cases h1;exact Le.fzmap v (fun c=>bH (oS h2 c)) hl
  ·exact(aN h).elim
 | gp o enc v k=>
  simp only[cvV]at h;split at h
  ·rename_i it m ho hp;simp only[cvS,hp]at hs;cases hs;have h1:=bH h;cases h1;exact Le.gap v k hp
  ·exact(aN h).elim
 | fw o q e s nn ff v k c=>
  simp only[cvV]at h;split at h
  ·rename_i it m ho l hp G;simp only[cvS,hp]at hs;obtain⟨h1,h2⟩:=aQ h;have h1:=bH h1;have h2:=bH h2;cases h1;subst h2;exact Le.fillrow v k c hp G hs
  ·exact(aN h).elim
 | fd o eD v k c=>
  simp only[cvV]at h;split at h
  ·rename_i it m kk p hp;simp only[cvS,hp]at hs;cases hs;obtain⟨h1,h2⟩:=aQ h;have h1:=bH h1;cases h1;exact Le.filld v k c (aIN h2) hp
  ·exact(aN h).elim
 | mg o q=>
  simp only[cvS]at hs;split at hs
  ·rename_i e s n f i j Z Q M m f' hl G;split at hs
   ·rename_i D;have D:=bS D;subst D;exact Le.armMerge hl G hs
   ·cases hs
  ·cases hs
 | nr o i j Q M g=>
  simp only[cvS]at hs;split at hs
  ·rename_i e s n f ov hl;split at hs
   ·rename_i hx;cases hs;exact Le.armNil g hl hx
   ·cases hs
  ·cases hs
 | la o c xs=>
  simp only[cvV]at h;split at h
  ·rename_i e s n f ov hl;simp only[cvS,hl]at hs;cases hs;obtain⟨h1,h2⟩:=aQ h;exact Le.armN hl (bH h1) (iN (bH h2))
  ·exact(aN h).elim
 | apr o c xs ys=>
  simp only[cvV]at h;split at h
  ·rename_i e s n f ov hl;simp only[cvS,hl]at hs;cases hs;have h1:=bH h;cases h1;exact Le.armN hl (by simp) (aSW c xs ys)
  ·exact(aN h).elim
 | upr o c xs i x l=>
  simp only[cvV]at h;split at h
  ·rename_i e s n f ov hl;simp only[cvS,hl]at hs;cases hs;obtain⟨h1,h2⟩:=aQ h;have h1:=bH h1;cases h1;exact Le.armN hl (by simp) (aSH (bH h2))
  ·exact(aN h).elim
 | fza o c cW xs=>
  simp only[cvV]at h;split at h
  ·rename_i e s n f hl;obtain⟨h1,h2⟩:=aQ h;have h1:=bH h1;cases h1;exact fun _ _ r=>Rel.armFreeze (gf:=eF cW xs) hl rfl (fun i _=>bH (oS h2 (xs.getD i default))) hs r
  ·exact(aN h).elim
 | tha t o e s f=>exact fun _ _ r=>Rel.thawA J hs r
 | om o e s nn ff v=>
  simp only[cvV]at h;split at h
  ·rename_i it m ho hp;simp only[cvS,hp]at hs;cases hs;have h1:=bH h;cases h1;rw[aOQ];exact Le.objF _ hp (fun _ _ _ h=>h) (fun _ _ _ h=>h)
  ·exact(aN h).elim
theorem aLW(hG:gN P E I):∀ {l:List Cv} {st st':St},aMA I true l st=aMA I false l st->cvL I l st=some st'->Le E st st'
 | [],st,st',_,hs=>by cases hs; exact .refl
 | c::l,st,st',h,hs=>by
  simp only[aMA]at h;simp only[cvL]at hs;obtain⟨h1,h2⟩:=aQ h;split at hs
  ·rename_i st1 h3;rw[h3]at h2;exact(bEC hG h1 h3).trans (aLW hG h2 hs)
  ·cases hs
end
structure Con (P:Program)(k:Nat)(args:List PV){R:Type}(x:Option R)(ret:R->PV):Prop where
 c:iC P k
 h:∀ y,x=some y->gX P k args [] [] (Ret (ret y))
structure eT (P:Program)(k:Nat)(args:List PV)(Hs:Hp)(N:List Nat){R:Type}(x:Option R)(ret:R->PV)(Ht:R->Hp):Prop where
 c:iC P k
 h:∀ y,x=some y->gX P k args Hs N (vF (ret y) (Ht y))
inductive Tr (P:Program):Type->Type 1 where
 | ret {Y:Type} (n:Nat) (y:Y):Tr P Y
 | ite {Y:Type} (n:Nat) (c:Bool) (t e:Tr P Y):Tr P Y
 | grd {Y:Type} (n:Nat) (p:Prop) [Decidable p] (t:Tr P Y):Tr P Y
 | gd {Y:Type} (n:Nat) (p:Prop) (h:p) (t:Tr P Y):Tr P Y
 | cv {Y:Type} (n:Nat) (l:List Cv) (t:Tr P Y):Tr P Y
 | no {Y:Type}:Tr P Y
 | ca {Y R:Type} (n:Nat) {k:Nat} {bps:List PV} {x:Option R} {ret:R->PV} (h:Con P k bps x ret) (B:R->Tr P Y):Tr P Y
 | ch {Y R:Type} [Cur R] (n:Nat) {k:Nat} {bps:List PV} {Hs:Hp} {N:List Nat} {x:Option R} {ret:R->PV} {Ht:R->Hp} (nw:List Nat) (h:eT P k bps Hs N x ret Ht) (B:R->Tr P Y):Tr P Y
 | jn {Y S:Type} [Cur S] (n m:Nat) (tm:S->St) (A:Tr P S) (B:S->Tr P Y):Tr P Y
 | pc {Y S:Type} [Cur S] (n m:Nat) (tm:S->St) (A:Tr P (S⊕Y)) (B:S->Tr P Y):Tr P Y
 | lp {Y S R:Type} [Cur S] [Cur R] (n:Nat) (tm:S->St) (bt:R->St) (ex:Nat) (s0:S) (L:S->Tr P (S⊕(R⊕Y))) (B:R->Tr P Y):Tr P Y
 | slc {Y α:Type} [Inhabited α] (n:Nat) (t:Nat) (c:α->List T) (xs:List α) (lo hi:Int) (k:Tr P Y):Tr P Y
 | sto {Y α:Type} [Inhabited α] (n:Nat) (o:Nat) (c:α->List T) (xs:List α) (l:List (Nat×α)) (k:Tr P Y):Tr P Y
 | cut {Y α:Type} [Inhabited α] (n:Nat) (c:α->List T) (xs:List α) (hi:Int) (k:Tr P Y):Tr P Y
 | clr {Y α:Type} [Inhabited α] (n:Nat) (c:α->List T) (xs:List α) (lo:Int) (k:Tr P Y):Tr P Y
 | apz {Y α:Type} [Inhabited α] (n:Nat) (c:α->List T) (byt:Nat) (m:Int) (k:Tr P Y):Tr P Y
 | mks {Y α:Type} [Inhabited α] (n:Nat) (c:α->List T) (byt:Nat) (l m:Int) (k:Tr P Y):Tr P Y
 | abl {Y:Type} (n:Nat) (e:Nat) (k:Tr P Y):Tr P Y
 | bs {Y α:Type} [Inhabited α] (n:Nat) (own:Bool) (c:α->List T) (xs:List α) (t:Tr P Y):Tr P Y
 | ndb {Y:Type} (n m:Nat) (a e:Tr P Y):Tr P Y
 | dc {Y R:Type} (j:Nat) (as:List PV) {k:Nat} {bps:List PV} {x:Option R} {ret:R->PV} (h:Con P k bps x ret) (B:R->Tr P Y):Tr P Y
 | dch {Y R:Type} (j:Nat) (as:List PV) {k:Nat} {bps:List PV} {Hs:Hp} {N:List Nat} {x:Option R} {ret:R->PV} {Ht:R->Hp} (h:eT P k bps Hs N x ret Ht) (ch:R->Option (Nat×bA)) (B:R->Tr P Y):Tr P Y
 | dl {Y:Type} (j:Nat) (c:Bool) (t e:Tr P Y):Tr P Y
 | dg {Y:Type} (j:Nat) (p:Prop) [Decidable p] (t:Tr P Y):Tr P Y
 | dr {Y:Type} (n e:Nat) (ol:OL) (ts:List Nat) (t:Tr P Y):Tr P Y
 | mk {Y K V:Type} [MKey K] (n:Nat) (enc:V->Mem) (t:Tr P Y):Tr P Y
 | lkr {Y K V:Type} [MKey K] (n e s:Nat) (nn:V->Nat) (ff:V->Nat->List T) (dflt:V) (v:List (K×V)) (k:K) (t:Tr P Y):Tr P Y
 | lkd {Y K V:Type} [MKey K] (n:Nat) (zv:Value) (eD:V->T) (v:List (K×V)) (k:K) (t0:Tr P Y) (t1:V->Tr P Y):Tr P Y
 | lkt {Y B K:Type} [MKey K] (n e s:Nat) (nn:B->Nat) (ff:B->Nat->List T) (v:List (K×Option B)) (k:K) (t:B->Tr P Y):Tr P Y
 | foc {Y α:Type} [Inhabited α] (n o q i j:Nat) (c:α->List Cel) (xs:List α) (t:Tr P Y):Tr P Y
 | dcn {Y R:Type} (j d:Nat) (as:List PV) {k:Nat} {bps:List PV} {Hs:Hp} {N:List Nat} {x:Option R} {ret:R->PV} {Ht:R->Hp} (h:eT P k bps Hs N x ret Ht) (B:R->Tr P Y):Tr P Y
 | dap {Y:Type} (j:Nat) {n:Nat} {f:Nat->List T} {x:T} (h:∀ F g w v,VR F g w (.t (.sl n f)) v->VR F g w (.t x) v) (t:Tr P Y):Tr P Y
 | dlk {Y K:Type} [MKey K] (j ty ob:Nat) (v:List (K×Nat)) (k:K) (t1:Nat->Tr P Y):Tr P Y
 | upd {Y K V:Type} [MKey K] (n:Nat) (enc:V->Mem) (v:List (K×V)) (k:K) (t:Tr P Y):Tr P Y
def sel{S Y β:Type _}(f:S->β)(g:Y->β):S⊕Y->β
 | .inl v=>f v
 | .inr y=>g y
namespace Tr
variable {P:Program}
variable {R S Y:Type}
noncomputable def den:{Y:Type}->Tr P Y->Option Y
 | _,.ret _ y=>some y
 | _,.ite _ c t e=>if c=true then t.den else e.den
 | _,@grd _ _ _ p _ t=>if p then t.den else none
 | _,.gd _ _ _ t=>t.den
 | _,.cv _ _ t=>t.den
 | _,.no=>none
 | _,@ca _ _ _ _ _ _ x _ _ B=>x.bind fun r=>(B r).den
 | _,@ch _ _ _ _ _ _ _ _ _ x _ _ _ _ B=>x.bind fun r=>(B r).den
 | _,@jn _ _ _ _ _ _ _ A B=>A.den.bind fun v=>(B v).den
 | _,@pc _ _ _ _ _ _ _ A B=>A.den.bind (sel (fun v=>(B v).den) some)
 | _,@lp _ _ _ _ _ _ _ _ _ _ s0 L B=>(bW (fun s=>(L s).den) s0).bind (sel (fun r=>(B r).den) some)
 | _,@slc _ _ _ _ _ _ _ xs lo hi k=>if 0<=lo/\lo<=hi/\hi<=(xs.length:Int) then k.den else none
 | _,@sto _ _ _ _ _ _ _ xs l k=>if (l.all fun p=>decide (p.1<xs.length))=true then k.den else none
 | _,@cut _ _ _ _ _ _ xs hi k=>if 0<=hi/\hi<=(xs.length:Int) then k.den else none
 | _,@clr _ _ _ _ _ _ xs lo k=>if 0<=lo/\lo<=(xs.length:Int) then k.den else none
 | _,@apz _ _ _ _ _ _ byt m k=>if 0<=m/\m.toNat*byt<=140737488355328 then k.den else none
 | _,@mks _ _ _ _ _ _ byt l m k=>if (0<=l/\l<=m)/\m.toNat*byt<=140737488355328 then k.den else none
 | _,.abl _ _ k=>k.den
 | _,@bs _ _ _ _ _ _ _ _ t=>t.den
 | _,.ndb _ _ _ _=>none
 | _,@dc _ _ _ _ _ _ _ x _ _ B=>x.bind fun r=>(B r).den
 | _,@dch _ _ _ _ _ _ _ _ _ x _ _ _ _ B=>x.bind fun r=>(B r).den
 | _,.dl _ c t e=>if c=true then t.den else e.den
 | _,@dg _ _ _ p _ t=>if p then t.den else none
 | _,.dr _ _ _ _ t=>t.den
 | _,@mk _ _ _ _ _ _ _ t=>t.den
 | _,@lkr _ _ _ _ _ _ _ _ _ _ _ _ _ t=>t.den
 | _,@lkd _ _ _ _ _ _ _ _ v k t0 t1=>match bG v k with | none=>t0.den | some c=>(t1 c).den
 | _,@lkt _ _ _ _ _ _ _ _ _ _ v k t=>match bG v k with | some (some c)=>(t c).den | _=>none
 | _,@foc _ _ _ _ _ _ _ i _ _ xs t=>if i<xs.length then t.den else none
 | _,@dcn _ _ _ _ _ _ _ _ _ _ x _ _ _ B=>x.bind fun r=>(B r).den
 | _,.dap _ _ t=>t.den
 | _,@dlk _ _ _ _ _ _ _ v k t1=>(bG v k).bind fun c=>(t1 c).den
 | _,@upd _ _ _ _ _ _ _ _ _ t=>t.den
def LoopT(b:S->(S⊕R->Prop)->Prop)(Q:R->Prop)(s:S):Prop:=∀ X:S->Prop,(∀ s,b s (sel X Q)->X s)->X s
def wpT:{Y:Type}->Tr P Y->(Y->Prop)->Prop
 | _,.ret _ y,Q=>Q y
 | _,.ite _ c t e,Q=>if c=true then t.wpT Q else e.wpT Q
 | _,@grd _ _ _ p _ t,Q=>p/\t.wpT Q
 | _,.gd _ _ _ t,Q=>t.wpT Q
 | _,.cv _ _ t,Q=>t.wpT Q
 | _,.no,_=>False
 | _,@ca _ _ _ _ _ _ x _ _ B,Q=>∃ r,x=some r/\(B r).wpT Q
 | _,@ch _ _ _ _ _ _ _ _ _ x _ _ _ _ B,Q=>∃ r,x=some r/\(B r).wpT Q
 | _,@jn _ _ _ _ _ _ _ A B,Q=>A.wpT fun v=>(B v).wpT Q
 | _,@pc _ _ _ _ _ _ _ A B,Q=>A.wpT (sel (fun v=>(B v).wpT Q) Q)
 | _,@lp _ _ _ _ _ _ _ _ _ _ s0 L B,Q=>LoopT (fun s Z=>(L s).wpT Z) (sel (fun r=>(B r).wpT Q) Q) s0
 | _,@slc _ _ _ _ _ _ _ xs lo hi k,Q=>(0<=lo/\lo<=hi/\hi<=(xs.length:Int))/\k.wpT Q
 | _,@sto _ _ _ _ _ _ _ xs l k,Q=>(l.all fun p=>decide (p.1<xs.length))=true/\k.wpT Q
 | _,@cut _ _ _ _ _ _ xs hi k,Q=>(0<=hi/\hi<=(xs.length:Int))/\k.wpT Q
 | _,@clr _ _ _ _ _ _ xs lo k,Q=>(0<=lo/\lo<=(xs.length:Int))/\k.wpT Q
 | _,@apz _ _ _ _ _ _ byt m k,Q=>(0<=m/\m.toNat*byt<=140737488355328)/\k.wpT Q
 | _,@mks _ _ _ _ _ _ byt l m k,Q=>((0<=l/\l<=m)/\m.toNat*byt<=140737488355328)/\k.wpT Q
 | _,.abl _ _ k,Q=>k.wpT Q
 | _,@bs _ _ _ _ _ _ _ _ t,Q=>t.wpT Q
 | _,.ndb _ m a e,Q=>(m=0->a.wpT Q)/\e.wpT Q
 | _,@dc _ _ _ _ _ _ _ x _ _ B,Q=>∃ r,x=some r/\(B r).wpT Q
 | _,@dch _ _ _ _ _ _ _ _ _ x _ _ _ _ B,Q=>∃ r,x=some r/\(B r).wpT Q
 | _,.dl _ c t e,Q=>if c=true then t.wpT Q else e.wpT Q
 | _,@dg _ _ _ p _ t,Q=>p/\t.wpT Q
 | _,.dr _ _ _ _ t,Q=>t.wpT Q
 | _,@mk _ _ _ _ _ _ _ t,Q=>t.wpT Q
 | _,@lkr _ _ _ _ _ _ _ _ _ _ _ _ _ t,Q=>t.wpT Q
 | _,@lkd _ _ _ _ _ _ _ _ v k t0 t1,Q=>match bG v k with | none=>t0.wpT Q | some c=>(t1 c).wpT Q
 | _,@lkt _ _ _ _ _ _ _ _ _ _ v k t,Q=>match bG v k with | some (some c)=>(t c).wpT Q | _=>False
 | _,@foc _ _ _ _ _ _ _ i _ _ xs t,Q=>i<xs.length/\t.wpT Q
 | _,@dcn _ _ _ _ _ _ _ _ _ _ x _ _ _ B,Q=>∃ r,x=some r/\(B r).wpT Q
 | _,.dap _ _ t,Q=>t.wpT Q
 | _,@dlk _ _ _ _ _ _ _ v k t1,Q=>∃ c,bG v k=some c/\(t1 c).wpT Q
 | _,@upd _ _ _ _ _ _ _ _ _ t,Q=>t.wpT Q
theorem LoopT.mono{b:S->(S⊕R->Prop)->Prop}(hb:∀ s {Q Q':S⊕R->Prop},(∀ z,Q z->Q' z)->b s Q->b s Q'){Q Q':R->Prop}(G:∀ r,Q r->Q' r){s:S}(h:LoopT b Q s):LoopT b Q' s:=by intro X J;exact h X fun s hs=>J s (hb s (fun z D=>by cases z with | inl s'=>exact D | inr r=>exact G _ D) hs)
theorem LoopT.unfold{b:S->(S⊕R->Prop)->Prop}(hb:∀ s {Q Q':S⊕R->Prop},(∀ z,Q z->Q' z)->b s Q->b s Q'){Q:R->Prop}{s:S}:
  LoopT b Q s↔b s (sel (LoopT b Q) Q):=by
 have h1:∀ s,b s (sel (LoopT b Q) Q)->LoopT b Q s:=by intro s h X G;exact G s (hb s (fun z D=>by cases z with | inl s'=>exact D X G | inr r=>exact D) h)
 refine⟨fun h=>h (fun s=>b s (sel (LoopT b Q) Q)) fun s hs=>?_,h1 s⟩;exact hb s (fun z D=>by cases z with | inl s'=>exact h1 _ D | inr r=>exact D) hs
theorem xB(t:Tr P Y):∀ {Q Q':Y->Prop},(∀ y,Q y->Q' y)->t.wpT Q->t.wpT Q':=by
 induction t with
 | ret n y=>exact fun D h=>D _ h
 | ite n c t e iht ihe=>intro Q Q' D h; simp only[wpT]at h ⊢; split <;> simp_all <;> first | exact iht D h | exact ihe D h
 | grd n p t ih=>exact fun D h=>⟨h.1,ih D h.2⟩
 | gd n p h t ih=>exact fun D h=>ih D h
 | cv n l t ih=>exact fun D h=>ih D h
 | no=>exact fun _ h=>h
 | ca n h B ih=>rintro Q Q' D ⟨r,h1,h2⟩; exact⟨r,h1,ih r D h2⟩
 | ch n nw h B ih=>rintro Q Q' D ⟨r,h1,h2⟩; exact⟨r,h1,ih r D h2⟩
 | jn n m tm A B ihA ihB=>exact fun D h=>ihA (fun v hv=>ihB v D hv) h
 | pc n m tm A B ihA ihB=>exact fun D h=>ihA (fun z G=>by cases z with | inl v=>exact ihB v D G | inr y=>exact D _ G) h
 | lp n tm bt ex s0 L B ihL ihB=>exact fun D h=>LoopT.mono (fun s _ _ G=>ihL s G) (fun z G=>by cases z with | inl v=>exact ihB v D G | inr y=>exact D _ G) h
 | slc n t c xs lo hi k ih=>exact fun D h=>⟨h.1,ih D h.2⟩
 | sto n o c xs l k ih=>exact fun D h=>⟨h.1,ih D h.2⟩
 | cut n c xs hi k ih=>exact fun D h=>⟨h.1,ih D h.2⟩
 | clr n c xs lo k ih=>exact fun D h=>⟨h.1,ih D h.2⟩
 | apz n c byt m k ih=>exact fun D h=>⟨h.1,ih D h.2⟩
 | mks n c byt l m k ih=>exact fun D h=>⟨h.1,ih D h.2⟩
 | abl n e k ih=>exact fun D h=>ih D h
 | bs n own c xs t ih=>exact fun D h=>ih D h
 | ndb n m a e iha ihe=>exact fun D h=>⟨fun hm=>iha D (h.1 hm),ihe D h.2⟩
 | dc j as h B ih=>rintro Q Q' D ⟨r,h1,h2⟩; exact⟨r,h1,ih r D h2⟩
 | dch j as h ch B ih=>rintro Q Q' D ⟨r,h1,h2⟩; exact⟨r,h1,ih r D h2⟩
 | dl n c t e iht ihe=>intro Q Q' D h; simp only[wpT]at h ⊢; split <;> simp_all <;> first | exact iht D h | exact ihe D h
 | dg n p t ih=>exact fun D h=>⟨h.1,ih D h.2⟩
 | dr n e ol ts t ih=>exact fun D h=>ih D h
 | mk n enc t ih=>exact fun D h=>ih D h
 | lkr n e s nn ff d v k t ih=>exact fun D h=>ih D h
 | lkd n zv eD v k t0 t1 ih0 ih1=>intro Q Q' D h; simp only[wpT]at h ⊢; split <;> simp_all <;> first | exact ih0 D h | exact ih1 _ D h
 | lkt n e s nn ff v k t ih=>intro Q Q' D h; simp only[wpT]at h ⊢; rcases hm:bG v k with _ | _ | c <;> simp only[hm]at h ⊢ <;> first | exact h.elim | exact ih _ D h
 | foc n o q i j c xs t ih=>exact fun D h=>⟨h.1,ih D h.2⟩
 | dcn j d as h B ih=>rintro Q Q' D ⟨r,h1,h2⟩; exact⟨r,h1,ih r D h2⟩
 | dap j h0 t ih=>exact fun D h=>ih D h
 | dlk j ty ob v k t1 ih=>rintro Q Q' D ⟨c,h1,h2⟩; exact⟨c,h1,ih c D h2⟩
 | upd n enc v k t ih=>exact fun D h=>ih D h
theorem LoopT.of_while{b:S->(S⊕R->Prop)->Prop}{f:S->Option (S⊕R)}(hf:∀ s z,f s=some z->∀ Q:S⊕R->Prop,Q z->b s Q){s:S}{r:R}(h:bW f s=some r){Q:R->Prop}(G:Q r):LoopT b Q s:=by
 obtain⟨n,hn⟩:=(nR f s).run h
 induction n generalizing s with
 | zero=>simp[nA]at hn
 | succ n ih=>
  simp only[nA]at hn;cases hs:f s with
  | none=>simp_all
  | some z=>
   simp only[hs]at hn;cases z with
   | inl s'=>exact fun X D=>D s (hf s _ hs _ (ih (Pm hn) hn X D))
   | inr r'=>cases hn; exact fun X D=>D s (hf s _ hs _ G)
theorem of_den(t:Tr P Y):∀ {y:Y} {Q:Y->Prop},t.den=some y->Q y->t.wpT Q:=by
 induction t with
 | ret n y=>intro J Q h D; cases h; exact D
 | ite n c t e iht ihe=>intro y Q h D; simp only[den,wpT]at h ⊢; split <;> simp_all <;> first | exact iht h D | exact ihe h D
 | grd n p t ih=>intro y Q h D; simp only[den]at h; split at h <;> first | exact⟨by omega,ih h D⟩ | cases h
 | gd n p h t ih=>exact fun h D=>ih h D
 | cv n l t ih=>exact fun h D=>ih h D
 | no=>intro y Q h; cases h
 | ca n h B ih=>intro y Q G D; obtain⟨r,h1,h2⟩:=bnd G; exact⟨r,h1,ih r h2 D⟩
 | ch n nw h B ih=>intro y Q G D; obtain⟨r,h1,h2⟩:=bnd G; exact⟨r,h1,ih r h2 D⟩
 | jn n m tm A B ihA ihB=>intro y Q G D; obtain⟨r,h1,h2⟩:=bnd G; exact ihA h1 (ihB r h2 D)
 | pc n m tm A B ihA ihB=>
  intro y Q G D; obtain⟨r,h1,h2⟩:=bnd G;refine ihA h1 ?_;cases r with
  | inl v=>exact ihB v h2 D
  | inr J=>cases h2; exact D
 | lp n tm bt ex s0 L B ihL ihB=>
  intro y Q G D; obtain⟨r,h1,h2⟩:=bnd G;refine LoopT.of_while (f:=fun s=>(L s).den) (fun s z M Q Z=>ihL s M Z) h1 ?_;cases r with
  | inl v=>exact ihB v h2 D
  | inr J=>cases h2; exact D
 | slc n t c xs lo hi k ih=>intro y Q h D; simp only[den]at h; split at h <;> first | exact⟨by omega,ih h D⟩ | cases h
 | sto n o c xs l k ih=>intro y Q h D; simp only[den]at h; split at h <;> first | exact⟨by omega,ih h D⟩ | cases h
 | cut n c xs hi k ih=>intro y Q h D; simp only[den]at h; split at h <;> first | exact⟨by omega,ih h D⟩ | cases h
 | clr n c xs lo k ih=>intro y Q h D; simp only[den]at h; split at h <;> first | exact⟨by omega,ih h D⟩ | cases h
 | apz n c byt m k ih=>intro y Q h D; simp only[den]at h; split at h <;> first | exact⟨by omega,ih h D⟩ | cases h
 | mks n c byt l m k ih=>intro y Q h D; simp only[den]at h; split at h <;> first | exact⟨by omega,ih h D⟩ | cases h
 | abl n e k ih=>exact fun h D=>ih h D
 | bs n own c xs t ih=>exact fun h D=>ih h D
 | ndb=>intro y Q h; cases h
 | dc j as h B ih=>intro y Q G D; obtain⟨r,h1,h2⟩:=bnd G; exact⟨r,h1,ih r h2 D⟩
 | dch j as h ch B ih=>intro y Q G D; obtain⟨r,h1,h2⟩:=bnd G; exact⟨r,h1,ih r h2 D⟩
 | dl n c t e iht ihe=>intro y Q h D; simp only[den,wpT]at h ⊢; split <;> simp_all <;> first | exact iht h D | exact ihe h D
 | dg n p t ih=>intro y Q h D; simp only[den]at h; split at h <;> first | exact⟨by omega,ih h D⟩ | cases h
 | dr n e ol ts t ih=>exact fun h D=>ih h D
 | mk n enc t ih=>exact fun h D=>ih h D
 | lkr n e s nn ff d v k t ih=>exact fun h D=>ih h D
 | lkd n zv eD v k t0 t1 ih0 ih1=>intro y Q h D; simp only[den,wpT]at h ⊢; split <;> simp_all <;> first | exact ih0 h D | exact ih1 _ h D
 | lkt n e s nn ff v k t ih=>intro y Q h D; simp only[den,wpT]at h ⊢; rcases hm:bG v k with _ | _ | c <;> simp only[hm]at h ⊢ <;> first | cases h; done | exact ih _ h D
 | foc n o q i j c xs t ih=>intro y Q h D; simp only[den]at h; split at h <;> first | exact⟨by omega,ih h D⟩ | cases h
 | dcn j d as h B ih=>intro y Q G D; obtain⟨r,h1,h2⟩:=bnd G; exact⟨r,h1,ih r h2 D⟩
 | dap j h0 t ih=>exact fun h D=>ih h D
 | dlk j ty ob v k t1 ih=>intro y Q G D; obtain⟨c,h1,h2⟩:=bnd G; exact⟨c,h1,ih c h2 D⟩
 | upd n enc v k t ih=>exact fun h D=>ih h D
theorem LoopT.and{b:S->(S⊕R->Prop)->Prop}(hb:∀ s {Q Q':S⊕R->Prop},(∀ z,Q z->Q' z)->b s Q->b s Q')(ha:∀ s (Q Q':S⊕R->Prop),b s Q->b s Q'->b s (fun z=>Q z/\Q' z))
  {Q Q':R->Prop}{s:S}(h:LoopT b Q s)(J:LoopT b Q' s):LoopT b (fun z=>Q z/\Q' z) s:=by
 refine h (fun s=>LoopT b Q' s->LoopT b (fun z=>Q z/\Q' z) s) (fun s hs D=>?_) J;rw[LoopT.unfold hb]at D ⊢;refine hb s (fun z G=>?_) (ha s _ _ hs D);cases z with
 | inl s'=>exact G.1 G.2
 | inr r=>exact G
theorem LoopT.ex{b:S->(S⊕R->Prop)->Prop}(he:∀ s (Q:S⊕R->Prop),b s Q->∃ z,Q z){Q:R->Prop}{s:S}(h:LoopT b Q s):∃ r,Q r:=by
 refine h (fun _=>∃ r,Q r) fun s hs=>?_;obtain⟨z,D⟩:=he s _ hs;cases z with
 | inl s'=>exact D
 | inr r=>exact⟨r,D⟩
theorem wpT_and(t:Tr P Y):∀ {Q Q':Y->Prop},t.wpT Q->t.wpT Q'->t.wpT (fun y=>Q y/\Q' y):=by
 induction t with
 | ret n y=>exact fun h D=>⟨h,D⟩
 | ite n c t e iht ihe=>intro Q Q' h D; simp only[wpT]at h D ⊢; split <;> simp_all
 | grd n p t ih=>exact fun h D=>⟨h.1,ih h.2 D.2⟩
 | gd n p h t ih=>exact fun h D=>ih h D
 | cv n l t ih=>exact fun h D=>ih h D
 | no=>exact fun h _=>h
 | ca n h B ih=>rintro Q Q' ⟨r,h1,h2⟩ ⟨r',G,J⟩; rw[h1]at G; cases G; exact⟨r,h1,ih r h2 J⟩
 | ch n nw h B ih=>rintro Q Q' ⟨r,h1,h2⟩ ⟨r',G,J⟩; rw[h1]at G; cases G; exact⟨r,h1,ih r h2 J⟩
 | jn n m tm A B ihA ihB=>exact fun h D=>xB A (fun v hv=>ihB v hv.1 hv.2) (ihA h D)
 | pc n m tm A B ihA ihB=>exact fun h D=>xB A (fun z M=>by cases z with | inl v=>exact ihB v M.1 M.2 | inr y=>exact M) (ihA h D)
 | lp n tm bt ex s0 L B ihL ihB=>
  intro Q Q' h D;simp only[wpT]at h D ⊢;have h3:=LoopT.and (b:=fun s Z=>(L s).wpT Z) (fun s _ _ M=>xB (L s) M) (fun s _ _ h1 h2=>ihL s h1 h2) h D;refine LoopT.mono (b:=fun s Z=>(L s).wpT Z) (fun s _ _ M=>xB (L s) M) (fun z M=>?_) h3;cases z with
  | inl v=>exact ihB v M.1 M.2
  | inr y=>exact M
 | slc n t c xs lo hi k ih=>exact fun h D=>⟨h.1,ih h.2 D.2⟩
 | sto n o c xs l k ih=>exact fun h D=>⟨h.1,ih h.2 D.2⟩
 | cut n c xs hi k ih=>exact fun h D=>⟨h.1,ih h.2 D.2⟩
 | clr n c xs lo k ih=>exact fun h D=>⟨h.1,ih h.2 D.2⟩
 | apz n c byt m k ih=>exact fun h D=>⟨h.1,ih h.2 D.2⟩
 | mks n c byt l m k ih=>exact fun h D=>⟨h.1,ih h.2 D.2⟩
 | abl n e k ih=>exact fun h D=>ih h D
 | bs n own c xs t ih=>exact fun h D=>ih h D
 | ndb n m a e iha ihe=>exact fun h D=>⟨fun hm=>iha (h.1 hm) (D.1 hm),ihe h.2 D.2⟩
 | dc j as h B ih=>rintro Q Q' ⟨r,h1,h2⟩ ⟨r',G,J⟩; rw[h1]at G; cases G; exact⟨r,h1,ih r h2 J⟩
 | dch j as h ch B ih=>rintro Q Q' ⟨r,h1,h2⟩ ⟨r',G,J⟩; rw[h1]at G; cases G; exact⟨r,h1,ih r h2 J⟩
 | dl n c t e iht ihe=>intro Q Q' h D; simp only[wpT]at h D ⊢; split <;> simp_all
 | dg n p t ih=>exact fun h D=>⟨h.1,ih h.2 D.2⟩
 | dr n e ol ts t ih=>exact fun h D=>ih h D
 | mk n enc t ih=>exact fun h D=>ih h D
 | lkr n e s nn ff d v k t ih=>exact fun h D=>ih h D
 | lkd n zv eD v k t0 t1 ih0 ih1=>intro Q Q' h D; simp only[wpT]at h D ⊢; split <;> simp_all
 | lkt n e s nn ff v k t ih=>intro Q Q' h D; simp only[wpT]at h D ⊢; rcases hm:bG v k with _ | _ | c <;> simp only[hm]at h D ⊢ <;> first | exact h.elim | exact ih _ h D
 | foc n o q i j c xs t ih=>exact fun h D=>⟨h.1,ih h.2 D.2⟩
 | dcn j d as h B ih=>rintro Q Q' ⟨r,h1,h2⟩ ⟨r',G,J⟩; rw[h1]at G; cases G; exact⟨r,h1,ih r h2 J⟩
 | dap j h0 t ih=>exact fun h D=>ih h D
 | dlk j ty ob v k t1 ih=>rintro Q Q' ⟨c,h1,h2⟩ ⟨c',G,J⟩; rw[h1]at G; cases G; exact⟨c,h1,ih c h2 J⟩
 | upd n enc v k t ih=>exact fun h D=>ih h D
theorem wpT_ex(t:Tr P Y):∀ {Q:Y->Prop},t.wpT Q->∃ y,Q y:=by
 induction t with
 | ret n y=>exact fun h=>⟨y,h⟩
 | ite n c t e iht ihe=>intro Q h; simp only[wpT]at h; split at h <;> first | exact iht h | exact ihe h
 | grd n p t ih=>exact fun h=>ih h.2
 | gd n p h t ih=>exact fun h=>ih h
 | cv n l t ih=>exact fun h=>ih h
 | no=>exact fun h=>h.elim
 | ca n h B ih=>rintro Q ⟨r,h1,h2⟩; exact ih r h2
 | ch n nw h B ih=>rintro Q ⟨r,h1,h2⟩; exact ih r h2
 | jn n m tm A B ihA ihB=>intro Q h; obtain⟨v,hv⟩:=ihA h; exact ihB v hv
 | pc n m tm A B ihA ihB=>
  intro Q h;obtain⟨z,D⟩:=ihA h;cases z with
  | inl v=>exact ihB v D
  | inr y=>exact⟨y,D⟩
 | lp n tm bt ex s0 L B ihL ihB=>
  intro Q h;obtain⟨z,D⟩:=LoopT.ex (fun s _ hs=>ihL s hs) h;cases z with
  | inl v=>exact ihB v D
  | inr y=>exact⟨y,D⟩
 | slc n t c xs lo hi k ih=>exact fun h=>ih h.2
 | sto n o c xs l k ih=>exact fun h=>ih h.2
 | cut n c xs hi k ih=>exact fun h=>ih h.2
 | clr n c xs lo k ih=>exact fun h=>ih h.2
 | apz n c byt m k ih=>exact fun h=>ih h.2
 | mks n c byt l m k ih=>exact fun h=>ih h.2
 | abl n e k ih=>exact fun h=>ih h
 | bs n own c xs t ih=>exact fun h=>ih h
 | ndb n m a e iha ihe=>exact fun h=>ihe h.2
 | dc j as h B ih=>rintro Q ⟨r,h1,h2⟩; exact ih r h2
 | dch j as h ch B ih=>rintro Q ⟨r,h1,h2⟩; exact ih r h2
 | dl n c t e iht ihe=>intro Q h; simp only[wpT]at h; split at h <;> first | exact iht h | exact ihe h
 | dg n p t ih=>exact fun h=>ih h.2
 | dr n e ol ts t ih=>exact fun h=>ih h
 | mk n enc t ih=>exact fun h=>ih h
 | lkr n e s nn ff d v k t ih=>exact fun h=>ih h
 | lkd n zv eD v k t0 t1 ih0 ih1=>intro Q h; simp only[wpT]at h; split at h <;> first | exact ih0 h | exact ih1 _ h
 | lkt n e s nn ff v k t ih=>intro Q h; simp only[wpT]at h; rcases hm:bG v k with _ | _ | c <;> simp only[hm]at h <;> first | exact h.elim | exact ih _ h
 | foc n o q i j c xs t ih=>exact fun h=>ih h.2
 | dcn j d as h B ih=>rintro Q ⟨r,h1,h2⟩; exact ih r h2
 | dap j h0 t ih=>exact fun h=>ih h
 | dlk j ty ob v k t1 ih=>rintro Q ⟨c,h1,h2⟩; exact ih c h2
 | upd n enc v k t ih=>exact fun h=>ih h
end Tr
open Classical in
noncomputable def Det {P:Program}{Y:Type}(t:Tr P Y):Option Y:=if h:∃ y,t.wpT (·=y) then some h.choose else none
theorem Det.ok{P:Program}{Y:Type}{t:Tr P Y}{y:Y}(h:Det t=some y):t.wpT (·=y):=by
 unfold Det at h;split at h
 all_goals grind
theorem Det.eq{P:Program}{Y:Type}{t:Tr P Y}{y:Y}(h:t.wpT (·=y)):Det t=some y:=by have D:∃ y,t.wpT (·=y):=⟨y,h⟩;unfold Det;rw[dif_pos D];obtain⟨z,h1,h2⟩:=t.wpT_ex (t.wpT_and h D.choose_spec);rw[<-h1,h2]
structure Acc where
 calls:List (Nat×(Nat×List PV×PV×Hp×Option (Nat×bA)))
 lits:List (Nat×(Bool×Bool))
 conds:List (Nat×List Prop)
def Db:Acc:=⟨[],[],[]⟩
structure bFA (P:Program)(a:Acc):Prop where
 c:Ub P a.calls
 l:Cm a.lits
 p:tJ a.conds
def aZR(fs:List (Nat->Bool)):List (Nat->Bool):=fs.map fun _ _=>true
def asks(b:Bool)(C:List Prop)(fs:List (Nat->Bool))(p:Prop):VT:=.and (vt b (All C) p) (vt b fs (aZR fs))
def Lj{S:Type}(b:Bool)(tm:S->St)(v:S)(e:Exit)(s:St):VT:=
 match e with | .normal=>vt b (s.keep (dZ (tm v).fr) (dZ (tm v).hp)) (some (tm v)) | _=>bad b
def wL{Y:Type}(b:Bool)(lf:Y->Exit->St->VT)(ks:List Kf)(y:Y)(e:Exit)(s:St):VT:=
 match e with
 | .normal=>bad b
 | e=>match nrm 300 (.x e ks) with | .x e' []=>lf y e' s | _=>bad b
def bBN{S Y:Type}(b:Bool)(tm:S->St)(lf:Y->Exit->St->VT)(ks:List Kf):S⊕Y->Exit->St->VT
 | .inl v=>Lj b tm v
 | .inr y=>wL b lf ks y
def aTV{R:Type}(b:Bool)(bt:R->St)(ex:Nat)(r:R)(e:Exit)(s:St):VT:=
 match e with
 | .exit i=>match Nat.beq i ex with | true=>vt b (s.keep (dZ (bt r).fr) (dZ (bt r).hp)) (some (bt r)) | false=>bad b
 | _=>bad b
def bFB{S R Y:Type}(b:Bool)(tm:S->St)(bt:R->St)(ex:Nat)(lf:Y->Exit->St->VT)(ks:List Kf):S⊕(R⊕Y)->Exit->St->VT
 | .inl v=>Lj b tm v
 | .inr (.inl r)=>aTV b bt ex r
 | .inr (.inr y)=>wL b lf ks y
def aHU(m:Nat):Cfg->Cfg
 | .c x ks=>.c x (ks.take m)
 | .o all l ks=>.o all l (ks.take m)
 | .x e ks=>.x e (ks.take m)
def Qu(m:Nat):Cfg->List Kf
 | .c _ ks=>ks.drop m
 | .o _ _ ks=>ks.drop m
 | .x _ ks=>ks.drop m
def Kg(I:Inf)(all:List Oper)(op:Oper)(st:St):Option (Nat×Nat×List PV):=
 match op.op,op.dst,cC all op st with
 | .call c,some d,some true=>match c.callee,Nat.blt d I.nt with
  | .value f,true=>match ev st f,iZ st c.args.toList with
   | some (.fn (.func k) nf caps),some aps=>some (d,k,caps.take nf++aps++caps.drop nf)
   | _,_=>none
  | _,_=>none
 | _,_,_=>none
def aHH:Op->Option (TypeId×Operand×Operand×Operand)
 | .mapUpdate t m k x=>some (t,m,k,x)
 | .insert t m k x=>some (t,m,k,x)
 | _=>none
theorem aFV{o:Op}{t:TypeId}{m k x:Operand}(h:aHH o=some (t,m,k,x)):o = .mapUpdate t m k x\/o = .insert t m k x:=by unfold aHH at h;split at h <;> first | (cases h; exact .inl rfl) | simp_all | cases h
def bAX(b:Bool)(st:St)(p q:PV):VT:=
 match p,q with
 | .nil,.t x=>vt b (Wr x) (some 0)
 | .own o,.t x=>match look st.hp o with | some (.arr _ _ n f)=>vt b (some (n,f)) x.view | _=>bad b
 | .t (.sl n f),.t (.sl m g)=>.and (vt b n m) (vt b ((List.range n).map f) ((List.range m).map g))
 | .agg l,.t (.agg r)=>gG b l r
 | p,q=>vt b p q
def rG(b:Bool)(st:St):List PV->List PV->VT
 | [],[]=>.ok
 | p::l,q::r=>.and (bAX b st p q) (rG b st l r)
 | _,_=>bad b
def pZ:List PV->List PV->List Nat
 | .own o::l,.t _::r=>o::pZ l r
 | _::l,_::r=>pZ l r
 | _,_=>[]
def ch1:Option (Nat×bA)->Hp->Bool
 | none,_=>true
 | some (o,_),Hs=>inN o (dZ Hs)
def bsI(I:Inf)(all:List Oper)(op:Oper)(st:St):Option (Nat×Nat×dO×Nat×List PV):=
 match op.op,op.dst,cC all op st with
 | .buildSlice t len parts,some d,some true=>match I.ti t,gM st parts.toList,Nat.blt d I.nt with
  | some i,some ps,true=>match i.und with
   | .sl e=>match I.ti e with
    | some j=>match Nat.ble (len*j.size) 16777216,Nat.ble 1 j.size,Nat.beq j.zero.length j.size,nU (fun i=>some (i*j.size,j.size)) (fC j (len*j.size)) ps with
     | true,true,true,some c=>match Nat.beq c.length (len*j.size) with | true=>some (d,e,j,len,c) | false=>none
     | _,_,_,_=>none
    | none=>none
   | _=>none
  | _,_,_=>none
 | _,_,_=>none
def aIZ(I:Inf)(all:List Oper)(op:Oper)(st:St):Option (Nat×Bool×Nat):=
 match op.op,op.dst,cC all op st with
 | .binOp o t x y _,some d,some true=>match o,I.ti t,ev st x,ev st y,Nat.blt d I.nt with
  | .eql,some i,some (.t (.sl m _)),some .nil,true=>match i.und with | .sl _=>some (d,true,m) | _=>none
  | .neq,some i,some (.t (.sl m _)),some .nil,true=>match i.und with | .sl _=>some (d,false,m) | _=>none
  | .eql,some i,some (.own _),some .nil,true=>match i.und with | .sl _=>some (d,true,0) | _=>none
  | .neq,some i,some (.own _),some .nil,true=>match i.und with | .sl _=>some (d,false,0) | _=>none
  | _,_,_,_,_=>none
 | _,_,_=>none
def Oj(I:Inf)(t:Nat):Option dO:=match I.ti t with | some i=>(match i.und with | .sl e=>I.ti e | _=>none) | none=>none
def aVB(I:Inf)(all:List Oper)(op:Oper)(st:St):Option (Nat×Nat×dO×Int):=
 match op.op,op.dst,cC all op st with
 | .call c,some d,some true=>match c.callee,c.args.toList,c.argTypes.toList with
  | .builtin .append,[s,x],[t,t']=>match I.ti t,I.ti t',ev st s,ev st x with
   | some i,some i',some .nil,some (.t (.int .i64 k))=>match i.und,i'.und with
    | .sl e,.int _=>match I.ti e with
     | some j=>match Nat.ble 1 j.size&&(Nat.ble 1 j.bytes&&Nat.beq j.zero.length j.size) with
      | true=>some (d,e,j,k)
      | false=>none
     | none=>none
    | _,_=>none
   | _,_,_,_=>none
  | _,_,_=>none
 | _,_,_=>none
def aRN(I:Inf)(all:List Oper)(op:Oper)(st:St):Option (Nat×Nat×dO×Int×Int):=
 match op.op,op.dst,cC all op st with
 | .makeSlice t l c,some d,some true=>match I.ti t,ev st l,ev st c with
  | some i,some (.t (.int .i64 lv)),some (.t (.int .i64 cv))=>match i.und with
   | .sl e=>match I.ti e with
    | some j=>match Nat.ble 1 j.size&&(Nat.ble 1 j.bytes&&Nat.beq j.zero.length j.size) with
     | true=>some (d,e,j,lv,cv)
     | false=>none
    | none=>none
   | _=>none
  | _,_,_=>none
 | _,_,_=>none
def aIP(all:List Oper)(op:Oper):Option Nat:=
 match op.guard with
 | some (j,_)=>match all[j]? with | some oj=>oj.dst | none=>none
 | none=>none
def aVY(st:St)(d:Nat)(v:Bool):St:={ st with fr:=(d,.t (.bool v))::del d st.fr }
def drS(I:Inf)(L l:List Oper)(acc:Acc)(st:St)(ts:List Nat)(ol:OL):St:=
 stP st (iJ st.fr ts) L (Up I L l acc.calls acc.lits st ts ol) ol (fun j=>Nat.blt j l.length)
def drV(P:Program)(I:Inf)(b:Bool)(L l tl:List Oper)(acc:Acc)(st:St)(ts:List Nat)(ol:OL):VT:=
 let lo:=Up I L l acc.calls acc.lits st ts ol
 .and (vt b (wfL L l tl (Sk (Uq l) []) st ts (iJ st.fr ts) lo ol&&aKC acc.lits lo) true) (.and (vt b (P.follows .mixedOrders) true)
  (vt b (aCG I L acc.calls st (iJ st.fr ts) lo ol (Sk (Uq l) []) 0 l) (aDU L acc.calls acc.lits acc.conds st (iJ st.fr ts) lo ol (Sk (Uq l) []) 0 l)))
def Cj(I:Inf)(all:List Oper)(op:Oper)(st:St):Option (Nat×Nat×Nat×PV):=
 match op.op,op.dst,cC all op st with
 | .lookup t x kx false,some d,some true=>match Nat.blt d I.nt,ev st x,ev st kx with
  | true,some (.map ob),some kp=>some (d,t,ob,kp)
  | _,_,_=>none
 | _,_,_=>none
def aOK{K:Type}:List (K×Nat)->(Nat->VT)->VT
 | [],_=>.ok
 | p::l,f=>.and (f p.2) (aOK l f)
theorem Ys{K:Type}{f g:Nat->VT}:∀ {l:List (K×Nat)},aOK l f=aOK l g->∀ p,p∈l->f p.2=g p.2
 | [],_,_,hp=>by cases hp
 | q::l,h,p,hp=>by
  obtain⟨h1,h2⟩:=aQ h;rcases bE.1 hp with rfl | hp
  ·exact h1
  ·exact Ys h2 p hp
theorem aGW{K V:Type}[MKey K]{v:List (K×V)}{k:K}{c:V}(h:bG v k=some c):∃ k',(k',c)∈v:=by
 induction v with
 | nil=>cases h
 | cons p v ih=>simp only[bG]at h;grind
def chk(P:Program)(I:Inf)(b:Bool):{Y:Type}->Tr P Y->(Y->Exit->St->VT)->Acc->Cfg->St->VT
 | _,.ret n y,lf,_,g,st=>match run I n g st with
  | some (.x e [],st',C,fs)=>.and (asks b C fs True) (lf y e st')
  | _=>bad b
 | _,.ite n c t e,lf,acc,g,st=>match run I n g st with
  | some (.c (.cond x u v) ks,st',C,fs)=>.and (asks b C fs True) (.and (vt b (ev st' x) (some (.t (.bool c)))) (.and (chk P I b t lf acc (.c u ks) st') (chk P I b e lf acc (.c v ks) st')))
  | some (.o all (op::l) ks,st',C,fs)=>match aIP all op with
   | some d=>.and (asks b C fs True) (.and (vt b (look st'.fr d) (some (.t (.bool c)))) (.and (chk P I b t lf acc (.o all (op::l) ks) (aVY st' d true)) (chk P I b e lf acc (.o all (op::l) ks) (aVY st' d false))))
   | none=>bad b
  | _=>bad b
 | _,@Tr.grd _ _ n p _ t,lf,acc,g,st=>match run I n g st with
  | some (g',st',C,fs)=>.and (asks b C fs p) (chk P I b t lf acc g' st')
  | none=>bad b
 | _,.gd n p _ t,lf,acc,g,st=>match run I n g st with
  | some (g',st',C,fs)=>.and (asks b C fs p) (chk P I b t lf acc g' st')
  | none=>bad b
 | _,.cv n l t,lf,acc,g,st=>match run I n g st with
  | some (g',st',C,fs)=>.and (asks b C fs True) (.and (aMA I b l st') (match cvL I l st' with | some st''=>chk P I b t lf acc g' st'' | none=>bad b))
  | none=>bad b
 | _,@Tr.foc _ _ _ inh n o q i j c xs t,lf,acc,g,st=>match run I n g st with
  | some (g',st',C,fs)=>.and (asks b C fs True) (match look st'.hp o with
   | some (.arm e s n' f none)=>.and (vt b (n',f) (xs.length,@eJ _ inh c xs)) (match (c (xs.getD i default))[j]? with
    | some (.row e' s' m f')=>match nE I.N o q (.arm e s xs.length (oT (@eJ _ inh c xs) i j .any) (some (i,j,.own q))) (.arr e' s' m f') st' with
     | some s2=>chk P I b t lf acc g' s2
     | none=>bad b
    | _=>bad b)
   | _=>bad b)
  | none=>bad b
 | _,.no,_,_,_,_=>.ok
 | _,@Tr.ca _ _ _ n k bps _ ret _ B,lf,acc,g,st=>match run I n g st with
  | some (.o all (op::l) ks,st',C,fs)=>match Kg I all op st' with
   | some (d,k',as)=>.and (asks b C fs True) (.and (vt b k' k) (.and (rG b st' as bps) (.all fun r=>.and (vt b (bBJ (pZ as bps) (ret r)) true) (chk P I b (B r) lf acc (.o all l ks) (st'.put d (ret r))))))
   | none=>bad b
  | _=>bad b
 | _,@Tr.ch _ _ _ cur n k bps Hs N _ ret Ht nw _ B,lf,acc,g,st=>match run I n g st with
  | some (.o all (op::l) ks,st',C,fs)=>match Kg I all op st' with
   | some (d,k',as)=>.and (asks b C fs True) (.and (vt b k' k) (.and (rG b ⟨st'.fr,[]⟩ as bps) (.and (vt b (mS st'.hp (dZ Hs)) (some Hs)) (.and (vt b (qH st' (dZ Hs) I.N nw) true)
     (cur.all fun r=>.and (vt b (sX (ret r) (Ht r) (N++nw)) true) (chk P I b (B r) lf acc (.o all l ks) (({ fr:=st'.fr,hp:=Ht r++rH st'.hp (dZ Hs) }:St).put d (ret r))))))))
   | none=>bad b
  | _=>bad b
 | _,@Tr.jn _ _ _ cur n m tm A B,lf,acc,g,st=>match run I n g st with
  | some (g',st',C,fs)=>.and (asks b C fs True) (.and (chk P I b A (Lj b tm) Db (aHU m g') st') (cur.all fun v=>chk P I b (B v) lf acc (.x .normal (Qu m g')) (tm v)))
  | none=>bad b
 | _,@Tr.pc _ _ _ cur n m tm A B,lf,acc,g,st=>match run I n g st with
  | some (g',st',C,fs)=>.and (asks b C fs True) (.and (chk P I b A (bBN b tm lf (Qu m g')) Db (aHU m g') st') (cur.all fun v=>chk P I b (B v) lf acc (.x .normal (Qu m g')) (tm v)))
  | none=>bad b
 | _,@Tr.lp _ _ _ _ curS curR n tm bt ex s0 L B,lf,acc,g,st=>match run I n g st with
  | some (.c (.loop c) ks,st',C,fs)=>.and (asks b C fs True) (.and (vt b (st'.keep (dZ (tm s0).fr) (dZ (tm s0).hp)) (some (tm s0)))
    (.and (curS.all fun s=>chk P I b (L s) (bFB b tm bt ex lf ks) Db (.c c []) (tm s)) (curR.all fun r=>chk P I b (B r) lf acc (.x (.exit ex) ks) (bt r))))
  | _=>bad b
 | _,@Tr.slc _ _ _ i n t c xs lo hi k,lf,acc,g,st=>match run I n g st with
  | some (g',st',C,fs)=>.and (asks b C fs (0<=lo/\lo<=hi/\hi<=(xs.length:Int))) (.and (vt b (look st'.fr t) (some (.t (.sl (hi-lo).toNat (fun j=>@eF _ i c xs (lo.toNat+j))))))
    (chk P I b k lf acc g' { st' with fr:=(t,.t (@eL _ i c ((xs.drop lo.toNat).take (hi-lo).toNat)))::del t st'.fr }))
  | none=>bad b
 | _,@Tr.sto _ _ _ i n o c xs l k,lf,acc,g,st=>match run I n g st with
  | some (g',st',C,fs)=>match look st'.hp o with
   | some (.arr e s n' f)=>.and (asks b C fs True) (.and (vt b (n',f) (xs.length,l.foldl (fun f p=>vE f p.1 (c p.2)) (@eF _ i c xs)))
    (chk P I b k lf acc g' { st' with hp:=(o,.arr e s (l.foldl (fun xs p=>xs.set p.1 p.2) xs).length (@eF _ i c (l.foldl (fun xs p=>xs.set p.1 p.2) xs)))::del o st'.hp }))
   | _=>bad b
  | none=>bad b
 | _,@Tr.cut _ _ _ i n c xs hi k,lf,acc,g,st=>match run I n g st with
  | some (.o all (op::l) ks,st',C,fs)=>match op.op,op.dst,cC all op st' with
   | .slice t x lo hx none,some d,some true=>match ev st' x with
    | some (.own q)=>match look st'.hp q,st'.erase q,Oj I t with
     | some (.arr e s n' f),some st1,some _=>match fS I st1 d (.arr e s hi.toNat f) (.own d) with
      | some s2=>.and (asks b C fs True) (.and (vt b (n',f) (xs.length,@eF _ i c xs)) (.and (vt b (fE st' 0 lo) (some 0)) (.and (vt b (fE st' n' hx) (some hi))
        (chk P I b k lf acc (.o all l ks) { s2 with hp:=(d,.arr e s (xs.take hi.toNat).length (@eF _ i c (xs.take hi.toNat)))::del d s2.hp }))))
      | none=>bad b
     | _,_,_=>bad b
    | _=>bad b
   | _,_,_=>bad b
  | _=>bad b
 | _,@Tr.clr _ _ _ i n c xs lo k,lf,acc,g,st=>match run I n g st with
  | some (.o all (o1::o2::l) ks,st',C,fs)=>match o1.op,o1.dst,cC all o1 st',o2.op,o2.guard,o2.dst with
   | .slice t x lx none none,some d,some true,.call cl,none,none=>match cl.callee,cl.args.toList,cl.argTypes[0]? with
    | .builtin .clear,[.tmp d'],some t2=>match ev st' x,Oj I t,Nat.blt d I.nt with
     | some (.own q),some j,true=>match look st'.hp q with
      | some (.arr e s n' f)=>.and (asks b C fs True) (.and (vt b (n',f) (xs.length,@eF _ i c xs)) (.and (vt b (fE st' 0 lx) (some lo)) (.and (vt b (d',t2) (d,t)) (.and (vt b (j.size,Nat.ble 1 s,Nat.beq j.zero.length j.size,j.zero.all PV.one) (s,true,true,true)) (.and (gG b j.zero (c i.default))
        (chk P I b k lf acc (.o all l ks) (({ st' with hp:=(q,.arr e s (xs.take lo.toNat++List.replicate (xs.length-lo.toNat) i.default).length (@eF _ i c (xs.take lo.toNat++List.replicate (xs.length-lo.toNat) i.default)))::del q st'.hp }:St).put d .any)))))))
      | _=>bad b
     | _,_,_=>bad b
    | _,_,_=>bad b
   | _,_,_,_,_,_=>bad b
  | _=>bad b
 | _,@Tr.apz _ _ _ i n c byt m k,lf,acc,g,st=>match run I n g st with
  | some (.o all (op::l) ks,st',C,fs)=>match aVB I all op st' with
   | some (d,e,j,k')=>match fS I st' d (.arr e j.size m.toNat (fun _=>c i.default)) (.own d) with
    | some s2=>.and (asks b C fs True) (.and (vt b (k',j.bytes) (m,byt)) (.and (gG b j.zero (c i.default))
      (chk P I b k lf acc (.o all l ks) { s2 with hp:=(d,.arr e j.size (List.replicate m.toNat i.default).length (@eF _ i c (List.replicate m.toNat i.default)))::del d s2.hp })))
    | none=>bad b
   | none=>bad b
  | _=>bad b
 | _,@Tr.mks _ _ _ i n c byt lv cv k,lf,acc,g,st=>match run I n g st with
  | some (.o all (op::l) ks,st',C,fs)=>match aRN I all op st' with
   | some (d,e,j,lv',cv')=>match fS I st' d (.arr e j.size lv.toNat (fun _=>c i.default)) (.own d) with
    | some s2=>.and (asks b C fs True) (.and (vt b (lv',cv',j.bytes) (lv,cv,byt)) (.and (gG b j.zero (c i.default))
      (chk P I b k lf acc (.o all l ks) { s2 with hp:=(d,.arr e j.size (List.replicate lv.toNat i.default).length (@eF _ i c (List.replicate lv.toNat i.default)))::del d s2.hp })))
    | none=>bad b
   | none=>bad b
  | _=>bad b
 | _,.abl n e k,lf,acc,g,st=>match run I n g st with
  | some (.o all (op::l) ks,st',C,fs)=>match op.op,op.dst,cC all op st' with
   | .alloc t,some d,some true=>match Nat.blt d I.nt,qG d I.N,st'.erase d,I.ti t with
    | true,true,some st1,some i=>.and (asks b C fs True) (.and (vt b i.zero [.np,.nil]) (chk P I b k lf acc (.o all l ks) (({ st1 with hp:=(d,.bld t e ⟨#[]⟩)::st1.hp }:St).put d (.ptr d 0))))
    | _,_,_,_=>bad b
   | _,_,_=>bad b
  | _=>bad b
 | _,@Tr.bs _ _ _ i n own c xs t,lf,acc,g,st=>match run I n g st with
  | some (.o all (op::l) ks,st',C,fs)=>match bsI I all op st' with
   | some (d,e,j,len,cs)=>.and (asks b C fs True) (.and (gG b cs (xs.flatMap c)) (.and (vt b len xs.length) (.and (vt b ((List.range len).map (jM (xs.flatMap c) j.size)) ((List.range len).map (@eF _ i c xs)))
     (match own with
      | false=>chk P I b t lf acc (.o all l ks) (st'.put d (.t (@eL _ i c xs)))
      | true=>match fS I st' d (.arr e j.size len (jM (xs.flatMap c) j.size)) (.own d) with
       | some s2=>chk P I b t lf acc (.o all l ks) { s2 with hp:=(d,.arr e j.size xs.length (@eF _ i c xs))::del d s2.hp }
       | none=>bad b))))
   | none=>bad b
  | _=>bad b
 | _,.ndb n m a e,lf,acc,g,st=>match run I n g st with
  | some (.o all (op::l) ks,st',C,fs)=>match aIZ I all op st' with
   | some (d,o,m')=>.and (asks b C fs True) (.and (vt b m' m) (.and (chk P I b a lf acc (.o all l ks) (st'.put d (.t (.bool o)))) (chk P I b e lf acc (.o all l ks) (st'.put d (.t (.bool (!o)))))))
   | none=>bad b
  | _=>bad b
 | _,@Tr.dc _ _ _ j as k bps _ ret _ B,lf,acc,g,st=>.and (rG b ⟨[],[]⟩ as bps) (.and (vt b (Nat.blt k cN) true) (.all fun r=>.and (vt b (ret r).pure true) (chk P I b (B r) lf { acc with calls:=(j,k,as,ret r,[],none)::acc.calls } g st)))
 | _,@Tr.dch _ _ _ j as k bps Hs N _ ret Ht _ ch B,lf,acc,g,st=>.and (rG b ⟨[],[]⟩ as bps) (.and (vt b (Nat.blt k cN) true) (.all fun r=>.and (vt b (ret r).pure true) (.and (vt b (Ht r) (aTB Hs (ch r))) (.and (vt b (sX (ret r) (aTB Hs (ch r)) N) true)
   (.and (vt b (ch1 (ch r) Hs) true) (chk P I b (B r) lf { acc with calls:=(j,k,as,ret r,Hs,ch r)::acc.calls } g st))))))
 | _,@Tr.dcn _ _ _ j d as k bps Hs N _ ret Ht _ B,lf,acc,g,st=>.and (rG b ⟨[],[]⟩ as bps) (.and (vt b (Nat.blt k cN) true) (.and (vt b Hs []) (.and (vt b N []) (.all fun r=>match Ht r,ret r with
   | [(o,.arr e s n f)],.own o'=>.and (vt b o o') (chk P I b (B r) lf { acc with calls:=(j,k,as,.own d,[],some (d,.arr e s n f))::acc.calls } g st)
   | _,_=>bad b))))
 | _,@Tr.dap _ _ j n f x _ t,lf,acc,g,st=>chk P I b t lf { acc with calls:=(j,fzN,[.t (.sl n f)],.t x,[],none)::acc.calls } g st
 | _,@Tr.dlk _ _ K mk j ty ob v k t1,lf,acc,g,st=>.and (vt b (((pH I.ti ty (MKey.kT k)).bind P.info?).bind (·.zero)) (some .nilFunc))
   (aOK v fun c=>chk P I b (t1 c) lf { acc with calls:=(j,lkN+ty,[.map ob,.t (MKey.kT k)],.fn (.func c) 0 [],[(ob,.mp none (@eM K Nat mk (fun c=>.d (.fv c)) v) none)],none)::acc.calls } g st)
 | _,.dl j c t e,lf,acc,g,st=>.and (chk P I b t lf { acc with lits:=(j,c,true)::acc.lits } g st) (chk P I b e lf { acc with lits:=(j,c,false)::acc.lits } g st)
 | _,@Tr.dg _ _ j p _ t,lf,acc,g,st=>chk P I b t lf { acc with conds:=(j,[p])::acc.conds } g st
 | _,.dr n e ol ts t,lf,acc,g,st=>match run I n g st with
  | some (.c (.region _ ops true) ks,st',C,fs)=>.and (asks b C fs True) (.and (drV P I b ops.toList (ops.toList.take (ops.toList.length-e)) (ops.toList.drop (ops.toList.length-e)) acc st' ts ol)
    (match (drS I ops.toList (ops.toList.take (ops.toList.length-e)) acc st' ts ol).keep (dZ (drS I ops.toList (ops.toList.take (ops.toList.length-e)) acc st' ts ol).fr) (dZ (drS I ops.toList (ops.toList.take (ops.toList.length-e)) acc st' ts ol).hp) with
     | some s=>chk P I b t lf Db (.o ops.toList (ops.toList.drop (ops.toList.length-e)) ks) s
     | none=>bad b))
  | _=>bad b
 | _,@Tr.mk _ _ K V mk n enc t,lf,acc,g,st=>match run I n g st with
  | some (.o all (op::l) ks,st',C,fs)=>match op.op,op.dst,cC all op st' with
   | .makeMap _ none,some d,some true=>match Nat.blt d I.nt,qG d I.N,st'.erase d with
    | true,true,some st1=>.and (asks b C fs True) (chk P I b t lf acc (.o all l ks) (({ st1 with hp:=(d,.mp none (@eM K V mk enc []) none)::st1.hp }:St).put d (.map d)))
    | _,_,_=>bad b
   | _,_,_=>bad b
  | _=>bad b
 | _,@Tr.lkr _ _ K V mk n e s nn ff dflt v k t,lf,acc,g,st=>match run I n g st with
  | some (.o all (op::l) ks,st',C,fs)=>match Cj I all op st' with
   | some (d,ty,ob,kp)=>match look st'.hp ob,pH I.ti ty (MKey.kT k) with
    | some (.mp it m ho),some et=>.and (asks b C fs True) (.and (vt b kp (.t (MKey.kT k))) (.and (vt b (m,ho) (@eM K V mk (fun c=>.row e s (nn c) (ff c)) v,none)) (.and (vt b ((P.info? et).bind (·.zero)) (some (.slice none 0 0))) (.and (vt b (Xk d it) true)
      (.and (vt b (nn dflt) 0)
       (match nE I.N ob d (.mp it (@eM K V mk (fun c=>.row e s (nn c) (ff c)) (mdel v k)) (some (MKey.kT k,none))) (.arr e s (nn ((bG v k).getD dflt)) (ff ((bG v k).getD dflt))) st' with
        | some s2=>chk P I b t lf acc (.o all l ks) (s2.put d (.own d))
        | none=>bad b))))))
    | _,_=>bad b
   | none=>bad b
  | _=>bad b
 | _,@Tr.lkt _ _ B K mk n e s nn ff v k t,lf,acc,g,st=>match run I n g st with
  | some (.o all (op::l) ks,st',C,fs)=>match Cj I all op st' with
   | some (d,ty,ob,kp)=>match look st'.hp ob,pH I.ti ty (MKey.kT k) with
    | some (.mp it m ho),some et=>.and (asks b C fs True) (.and (vt b kp (.t (MKey.kT k))) (.and (vt b (m,ho) (@eM K (Option B) mk (Gt e s nn ff) v,none)) (.and (vt b ((P.info? et).bind (·.zero)) (some (.slice none 0 0))) (.and (vt b (Xk d it) true)
      (.all fun c=>match nE I.N ob d (.mp it (@eM K (Option B) mk (Gt e s nn ff) (mput v k none)) none) (.arr e s (nn c) (ff c)) st' with
       | some s2=>chk P I b (t c) lf acc (.o all l ks) (s2.put d (.own d))
       | none=>bad b)))))
    | _,_=>bad b
   | none=>bad b
  | _=>bad b
 | _,@Tr.lkd _ _ K V mk n zv eD v k t0 t1,lf,acc,g,st=>match run I n g st with
  | some (.o all (op::l) ks,st',C,fs)=>match Cj I all op st' with
   | some (d,ty,ob,kp)=>match look st'.hp ob,pH I.ti ty (MKey.kT k),rB zv with
    | some (.mp _ m ho),some et,some zp=>.and (asks b C fs True) (.and (vt b kp (.t (MKey.kT k))) (.and (vt b (m,ho) (@eM K V mk (fun c=>.d (eD c)) v,none)) (.and (vt b ((P.info? et).bind (·.zero)) (some zv))
      (.and (chk P I b t0 lf acc (.o all l ks) (st'.put d zp)) (.all fun c=>chk P I b (t1 c) lf acc (.o all l ks) (st'.put d (.t (eD c))))))))
    | _,_,_=>bad b
   | none=>bad b
  | _=>bad b
 | _,@Tr.upd _ _ K V mk n enc v k t,lf,acc,g,st=>match run I n g st with
  | some (.o all (op::l) ks,st',C,fs)=>match aHH op.op,op.dst,cC all op st' with
   | some (ty,x,kx,vx),none,some true=>match ev st' x,ev st' kx,ev st' vx with
    | some (.map ob),some kp,some p=>match look st'.hp ob,pH I.ti ty (MKey.kT k) with
     | some (.mp it m ho),some _=>.and (asks b C fs True) (.and (vt b kp (.t (MKey.kT k))) (.and (vt b (m,ho) (@eM K V mk enc v,some (MKey.kT k,none))) (.and (match it with | none=>.ok | some i=>vt b i.cur (some (MKey.kT k)))
       (chk P I b t lf acc (.o all l ks) { st' with hp:=(ob,.mp it (@eM K V mk enc v) (some (MKey.kT k,some p)))::del ob st'.hp }))))
     | _,_=>bad b
    | _,_,_=>bad b
   | _,_,_=>bad b
  | _=>bad b
section
variable {P:Program} {E:Env} {I:Inf} {Q:iK} {st st':St}
theorem dL{C:List Prop}{fs:List (Nat->Bool)}{p:Prop}(h:asks true C fs p=asks false C fs p)(hp:p):All C/\∀ f,f∈fs->∀ i,f i=true:=by obtain⟨h1,h2⟩:=aQ h;have h1:=bH h1;have h2:=bH h2;refine⟨h1.symm▸hp,fun f hf i=>?_⟩;rw[h2]at hf;obtain⟨_,_,rfl⟩:=cU.1 hf;rfl
theorem Pt{c:Code}{G D:iK}(h:pwp P E c G st)(J:∀ e s,G e s->∃ t,Le E s t/\D e t):pwp P E c D st:=
 fun a w r=>wp_mono (h a w r) fun e _ _ ⟨s,hs,hr⟩=>let ⟨t,h1,h2⟩:=J e s hs; ⟨t,h2,h1 _ _ hr⟩
theorem aJM{o:Oper}{a:Act}{w:World}{K J:Act->World->Prop}{Q Q':Exit->Act->World->Prop}(hk:∀ a w,K a w->J a w)(G:∀ e a w,Q e a w->Q' e a w)
  (D:o.wp P a w K Q):o.wp P a w J Q':=by
 unfold Oper.wp at *
 generalize (execOp a.eval o).run P w=r at *
 have hl:LetsOut Q->LetsOut Q':=fun⟨a,w,h⟩=>⟨a,w,G _ _ _ h⟩;cases r with
 | ok n w'=>
  cases n <;> simp only[Oper.upon]at D ⊢ <;>
   first
    | exact hk _ _ D
    | exact Calls.mono D (fun e M he=>by cases e <;> first | exact hk _ _ he | exact G _ _ _ he | exact hl he)
    | exact Rows.mono D (fun _ _ he=>hk _ _ he)
 | halt x w'=>cases x <;> simp only[Oper.upon]at D ⊢ <;> first | simp_all | exact D
theorem sE{ops:Array Oper}{Q Q':Exit->Act->World->Prop}(hq:∀ e a w,Q e a w->Q' e a w):∀ {l:List Oper} {a:Act} {w:World},wpList P ops Q l a w->wpList P ops Q' l a w
 | [],a,w,h=>hq _ _ _ h
 | o::rest,a,w,h=>by
  simp only[wpList]at h ⊢;split
  ·rename_i hw;rw[aA hw]at h;rcases h with h | ⟨h1,⟨a',w',h2⟩⟩
   ·exact .inl (aJM (fun _ _ h=>sE hq h) hq h)
   ·exact .inr ⟨h1,⟨a',w',hq _ _ _ h2⟩⟩
  ·rename_i hw;rw[aF hw]at h;exact sE hq h
theorem Bz{Q1 Q2:iK}(hq:∀ e s,Q1 e s->∃ t,Le E s t/\Q2 e t):∀ {ks:List Kf} {e:Exit} {s:St},kQ P E ks Q1 e s->∃ t,Le E s t/\kQ P E ks Q2 e t
 | [],e,s,h=>hq e s h
 | .s y::ks,e,s,h=>by
  unfold kQ at h ⊢;unfold Hd at h ⊢;cases e with
  | normal=>exact⟨s,.refl,Pt h fun e s h=>Bz hq h⟩
  | _=>exact Bz hq (ks:=ks) h
 | .b id::ks,e,s,h=>by
  unfold kQ at h ⊢;unfold nC at h ⊢;cases e with
  | exit i=>
   simp only at h ⊢;split at h
   ·rename_i hi; simp only[aA hi]; exact Bz hq h
   ·rename_i hi; simp only[aF hi]; exact Bz hq h
  | _=>exact Bz hq (ks:=ks) h
theorem Hz:∀ (m:Nat) (ks:List Kf),kQ P E ks Q=kQ P E (ks.take m) (kQ P E (ks.drop m) Q)
 | 0,ks=>by rfl
 | m+1,[]=>by rfl
 | m+1,.s y::ks=>by simp only[aBU,List.drop_succ_cons,kQ]; rw[Hz m ks]
 | m+1,.b id::ks=>by simp only[aBU,List.drop_succ_cons,kQ]; rw[Hz m ks]
theorem aHW{m:Nat}{g:Cfg}{G:iK}(h:cwp P E (aHU m g) G st)(D:∀ e s,G e s->∃ t,Le E s t/\kQ P E (Qu m g) Q e t):cwp P E g Q st:=by
 cases g with
 | c x ks=>show pwp P E x (kQ P E ks Q) st;rw[Hz m ks];exact Pt h fun e s h=>Bz D h
 | o all l ks=>show fG P E all (kQ P E ks Q) l st;rw[Hz m ks];exact fun a w r=>sE (fun e a w ⟨s,hs,hr⟩=>let ⟨t,h1,h2⟩:=Bz D hs; ⟨t,h2,h1 _ _ hr⟩) (h a w r)
 | x e ks=>obtain⟨t,h1,h2⟩:=h;show ∃ t,Le E st t/\kQ P E ks Q e t;rw[Hz m ks];obtain⟨u,h3,h4⟩:=Bz D h2;exact⟨u,h1.trans h3,h4⟩
def Ch(P:Program)(c:Code)(Q:Exit->Act->World->Prop)(a:Act)(w:World):Prop:=
 ∀ b k cs,∃ e a' w',Q e a' w'/\Arrives P (lone (b.at a (.code c :: .inLoop c::k)) cs w) b k cs e a' w'
theorem Ch.of{c:Code}{Q:Exit->Act->World->Prop}{a:Act}{w:World}(h:c.wp P (Exit.then (Ch P c Q) Q) a w):Ch P c Q a w:=by
 intro b k cs;obtain⟨e,Z,M,J,D⟩:=h b (.inLoop c::k) cs;cases e with
 | normal=>obtain⟨e₂,a₂,w₂,hq₂,G⟩:=J b k cs;exact⟨e₂,a₂,w₂,hq₂,.of_steps (Steps.trans D (.one step_inLoop)) G⟩
 | exit id=>exact⟨_,Z,M,J,.pass (x:=.inLoop c) rfl (fun _ _=>.inl (by simp)) D⟩
 | goto l=>exact⟨_,Z,M,J,.pass (x:=.inLoop c) rfl (fun _ _=>.inl (by simp)) D⟩
 | ret=>exact⟨_,Z,M,J,.pass (x:=.inLoop c) rfl (fun _ _=>.inl (by simp)) D⟩
 | panic ch=>exact⟨_,Z,M,J,.pass (x:=.inLoop c) rfl (fun _ _=>.inl (by simp)) D⟩
 | outgrown=>exact⟨_,Z,M,J,.pass (x:=.inLoop c) rfl (fun _ _=>.inl (by simp)) D⟩
theorem Ch.loop{c:Code}{Q:Exit->Act->World->Prop}{a:Act}{w:World}(h:Ch P c Q a w):(Code.loop c).wp P Q a w:=by intro b k cs;obtain⟨e,M,G,J,D⟩:=h b k cs;exact⟨e,M,G,J,.of_steps (.one step_loop) D⟩
def aJJ{S R:Type}(E:Env)(tm:S->St)(Out:R->iK):S⊕R->iK
 | .inl s',e,s=>e = .normal/\Le E s (tm s')
 | .inr r,e,s=>e ≠ .normal/\Out r e s
theorem aCV{c:Code}{S R:Type}{b:S->(S⊕R->Prop)->Prop}{tm:S->St}{Out:R->iK}{Q':R->Prop}(hb:∀ s (Z:S⊕R->Prop),b s Z->pwp P E c (fun e st=>∃ z,Z z/\aJJ E tm Out z e st) (tm s))
  {s0:S}(h:Tr.LoopT b Q' s0)(hq:∀ r e st,Q' r->Out r e st->∃ t,Le E st t/\Q e t):pwp P E (.loop c) Q (tm s0):=by
 intro a w r;refine Ch.loop ?_;refine h (fun s=>∀ a w,Rel E (tm s) a w->Ch P c (rO E Q) a w) (fun s hs a w r=>Ch.of (wp_mono (hb s _ hs a w r) fun e a' M ⟨D,⟨z,J,hm⟩,hr⟩=>?_)) a w r;cases z with
 | inl s'=>obtain⟨rfl,G⟩:=hm; exact J a' M (G _ _ hr)
 | inr r'=>
  obtain⟨hne,hm⟩:=hm;obtain⟨t,h1,h2⟩:=hq r' e D J hm;cases e with
  | normal=>simp_all
  | _=>exact⟨t,h2,h1 _ _ hr⟩
theorem Nk{t s:St}(h:s.keep (dZ t.fr) (dZ t.hp)=some t):Le E s t:=Le.keep h
theorem pL{S:Type}{tm:S->St}{v:S}{e:Exit}{s:St}(h:Lj true tm v e s=Lj false tm v e s):e = .normal/\Le E s (tm v):=by
 unfold Lj at h;split at h
 ·exact⟨rfl,Nk (bH h)⟩
 ·exact(aN h).elim
theorem Kh{Y:Type}{lt D:Y->Exit->St->VT}{ks:List Kf}{y:Y}{e:Exit}{s:St}(h:wL true lt ks y e s=wL false D ks y e s)(hl:∀ e s,lt y e s=D y e s->∃ u,Le E s u/\Q e u):
  e ≠ .normal/\∃ t,Le E s t/\kQ P E ks Q e t:=by
 unfold wL at h;cases e with
 | normal=>exact(aN h).elim
 | _=>
  refine⟨by simp,?_⟩;simp only at h;split at h
  ·rename_i G hn;obtain⟨u,h1,h2⟩:=hl _ _ h;show cwp P E (.x _ ks) Q s;refine Hl (n:=300) ?_;rw[hn];exact⟨u,h1,h2⟩
  ·exact(aN h).elim
theorem aUK{R:Type}{bt:R->St}{ex:Nat}{r:R}{e:Exit}{s:St}(h:aTV true bt ex r e s=aTV false bt ex r e s):e = .exit ex/\Le E s (bt r):=by
 unfold aTV at h;split at h
 ·split at h
  ·rename_i hi;have:=bS hi;subst this;exact⟨rfl,Nk (bH h)⟩
  ·exact(aN h).elim
 ·exact(aN h).elim
theorem Sx{all:List Oper}{op:Oper}{d k:Nat}{as:List PV}(h:Kg I all op st=some (d,k,as)):∃ c f nf caps aps,op.op = .call c/\c.callee = .value f/\op.dst=some d/\cC all op st=some true/\Nat.blt d I.nt=true /\
  ev st f=some (.fn (.func k) nf caps)/\iZ st c.args.toList=some aps/\as=caps.take nf++aps++caps.drop nf:=by
 unfold Kg at h;grind
theorem aLC:∀ {as bps:List PV},rG true st as bps=rG false st as bps->lK st (pZ as bps) as bps:=by
 have key:∀ {as bps:List PV},rG true st as bps=rG false st as bps->∀ L,(∀ o,o∈pZ as bps->o∈L)->lK st L as bps:=by
  intro as
  induction as with
  | nil=>intro bps h L _; cases bps with | nil=>exact .nil | cons q r=>exact(aN h).elim
  | cons p l ih=>
   intro bps h L M;cases bps with
   | nil=>exact(aN h).elim
   | cons q r=>
    obtain⟨h1,h2⟩:=aQ h;have J:∀ {p q:PV},vt true p q=vt false p q->Vk st L p q:=fun h=>by have h:=bH h; subst h; exact .same _
    have G:(∀ o,o∈pZ l r->o∈L)->lK st L l r:=fun Z=>ih h2 L Z;unfold bAX at h1;split at h1
    ·rename_i x;refine .cons ?_ (G fun o ho=>M o (by simpa[pZ] using ho));have h1:=bH h1;unfold Wr at h1;split at h1
     ·rename_i n f hv; cases h1; exact .nil hv
     ·cases h1
    ·rename_i o x;refine .cons ?_ (G fun o ho=>M o (by simp[pZ,ho]));split at h1
     ·rename_i e s n f hl;exact .lend (M _ (by simp[pZ])) hl (bH h1).symm
     ·exact(aN h1).elim
    ·rename_i n f m g;obtain⟨h3,h4⟩:=aQ h1;have h3:=bH h3;subst h3;refine .cons (.imp (Bw rfl rfl (iN (bH h4)))) (G fun Q D=>M Q (by simp[pZ,D]))
    ·rename_i l' r';exact .cons (.imp (Xw (gD h1))) (G fun Q D=>M Q (by simp[pZ,D]))
    ·rename_i hn ho hsl;refine .cons (J h1) (G fun Q D=>M Q ?_);cases p <;> simp[pZ,D]
 simp_all
theorem uX{fr:Fr}:∀ {as bps:List PV},rG true ⟨fr,[]⟩ as bps=rG false ⟨fr,[]⟩ as bps->∀ st,lK st [] as bps:=by
 intro as
 induction as with
 | nil=>intro bps h st; cases bps with | nil=>exact .nil | cons q r=>exact(aN h).elim
 | cons p l ih=>
  intro bps h st;cases bps with
  | nil=>exact(aN h).elim
  | cons q r=>
   obtain⟨h1,h2⟩:=aQ h;refine .cons ?_ (ih h2 st);unfold bAX at h1;split at h1
   ·rename_i x;have h1:=bH h1;unfold Wr at h1;split at h1
    ·rename_i n f hv; cases h1; exact .nil hv
    ·cases h1
   ·simp[look]at h1; exact(aN h1).elim
   ·rename_i n f m g;obtain⟨h3,h4⟩:=aQ h1;have h3:=bH h3;subst h3;exact .imp (Bw rfl rfl (iN (bH h4)))
   ·exact .imp (Xw (gD h1))
   ·have h1:=bH h1; subst h1; exact .same _
theorem Ik{all:List Oper}{op:Oper}{d t ob:Nat}{D:PV}(h:Cj I all op st=some (d,t,ob,D)):∃ x kx,op.op = .lookup t x kx false/\op.dst=some d/\cC all op st=some true/\Nat.blt d I.nt=true/\ev st x=some (.map ob)/\ev st kx=some D:=by unfold Cj at h;grind
theorem aFO{all:List Oper}{op:Oper}{d e len:Nat}{j:dO}{c:List PV}(h:bsI I all op st=some (d,e,j,len,c)):∃ t parts i ps,op.op = .buildSlice t len parts/\op.dst=some d/\cC all op st=some true/\Nat.blt d I.nt=true /\
  I.ti t=some i/\i.und = .sl e/\I.ti e=some j/\gM st parts.toList=some ps/\len*j.size<=16777216/\1<=j.size/\j.zero.length=j.size/\nU (fun i=>some (i*j.size,j.size)) (fC j (len*j.size)) ps=some c/\c.length=len*j.size:=by
 unfold bsI at h;split at h
 case h_2=>cases h
 rename_i t Q parts d' h1 h2 h3;split at h
 case h_2=>cases h
 rename_i i ps h4 h5 h6;split at h
 case h_2=>cases h
 rename_i e' h7;split at h
 case h_2=>cases h
 rename_i j' h8;split at h
 case h_2=>cases h
 rename_i c' Z M J G;split at h
 ·rename_i D;cases h;exact⟨t,parts,i,ps,h1,h2,h3,h6,h4,h7,h8,h5,fI Z,fI M,bS J,G,bS D⟩
 ·cases h
theorem bDQ{c:Option (Nat×bA)}{Hs:Hp}(h:ch1 c Hs=true):∀ d,c=some d->d.1∈dZ Hs:=by rintro⟨o,x⟩ rfl;exact dT.1 h
theorem aQO{all:List Oper}{op:Oper}{d m:Nat}{D:Bool}(h:aIZ I all op st=some (d,D,m)):∃ o t x y z i p,op.op = .binOp o t x y z/\((o = .eql/\D=true)\/(o = .neq/\D=false))/\op.dst=some d/\cC all op st=some true/\Nat.blt d I.nt=true/\I.ti t=some i/\(∃ e,i.und = .sl e) /\
  ev st x=some p/\((∃ f,p = .t (.sl m f))\/(m=0/\∃ o,p = .own o))/\ev st y=some .nil:=by
 unfold aIZ at h;grind
theorem aFQ(G:gN P E I){all l:List Oper}{op:Oper}{d e len:Nat}{j:dO}{c:List PV}{ts:List T}(h:bsI I all op st=some (d,e,j,len,c))(J:zY c ts)
  (hk:fG P E all Q l (st.put d (.t (.sl len (jM ts j.size))))):fG P E all Q (op::l) st:=by
 obtain⟨t,parts,i,ps,h1,h2,h3,h4,h5,h6,h7,h8,h9,h10,h11,Z,M⟩:=aFO h;refine fN rfl h3 fun F g a w r=>?_;have D:=(G.ti _ _ h5).und;rw[h6]at D;obtain⟨u,w',F',e1,e2⟩:=rC (P:=P) (d:=d) G.nt r D (G.ti _ _ h7) h8 h9 h10 h11 Z J M (by simp_all);exact⟨_,u,w',_,by unfold execOp; simp[h1,e1],.inl rfl,by rw[h2]; exact⟨F',g,e2⟩,hk⟩
theorem aGX(G:gN P E I){all l:List Oper}{op:Oper}{d e len:Nat}{j:dO}{c:List PV}{ts:List T}(h:bsI I all op st=some (d,e,j,len,c))(J:zY c ts)
  (hn:fS I st d (.arr e j.size len (jM ts j.size)) (.own d)=some st')(hk:fG P E all Q l st'):fG P E all Q (op::l) st:=by
 obtain⟨t,parts,i,ps,h1,h2,h3,h4,h5,h6,h7,h8,h9,h10,h11,Z,M⟩:=aFO h;refine fN rfl h3 fun F g a w r=>?_;have D:=(G.ti _ _ h5).und;rw[h6]at D;obtain⟨u,w',e1,e2⟩:=oM (P:=P) (d:=d) G.N G.nt r D (G.ti _ _ h7) h8 h9 h10 h11 Z J M hn;exact⟨_,u,w',_,by unfold execOp; simp[h1,e1],.inl rfl,by simp_all,hk⟩
theorem aCJ(hG:gN P E I){all l:List Oper}{op:Oper}{d m:Nat}{G:Bool}(h:aIZ I all op st=some (d,G,m))(h1:m=0->fG P E all Q l (st.put d (.t (.bool G))))(h0:fG P E all Q l (st.put d (.t (.bool (!G))))):fG P E all Q (op::l) st:=by
 obtain⟨o,t,x,y,z,i,p,e1,e2,e3,e4,e5,e6,⟨e,e7⟩,e8,e9,Z⟩:=aQO h;refine fN rfl e4 fun F g a w r=>?_;have M:d<E.nt:=by rw[hG.nt]; simp_all
 have J:=(hG.ti _ _ e6).und;rw[e7]at J;have hx:=bT r e8;have hy:=bT r Z;obtain⟨u,hu⟩:∃ u,a.eval x=u:=⟨_,rfl⟩;obtain⟨v,hv⟩:∃ u,a.eval y=u:=⟨_,rfl⟩;rw[hu]at hx; rw[hv]at hy;have hs:∃ ad n c,u = .slice ad n c/\(ad.isNone=true->m=0):=by
  rcases e9 with⟨f,rfl⟩ | ⟨h00,o,rfl⟩
  ·cases hx with
   | t hx=>cases hx with
    | nil hv=>exact⟨_,_,_,rfl,fun _=>by injection hv with hv; injection hv⟩
    | sl=>simp_all
  ·cases hx with
   | own=>simp_all
 obtain⟨ad,n,c,rfl,hm⟩:=hs;cases hy;have hq:=run_equal_slice_nil (P:=P) w t e ad n c J;have hres:(binOp o t (.slice ad n c) (.slice none 0 0)).run P w = .ok (.bool (if ad.isNone then G else !G)) w:=by
  rcases e2 with⟨rfl,rfl⟩ | ⟨rfl,rfl⟩
  ·cases ad <;> simp[binOp,hq]
  ·cases ad <;> simp[binOp,hq]
 have hg:(eqGuard o t x y (.slice ad n c) (.slice none 0 0)).run P w = .ok () w:=by unfold eqGuard; cases o <;> simp
 have D:(execOp a.eval op).run P w = .ok (.value (.bool (if ad.isNone then G else !G))) w:=by unfold execOp;simp_all
 cases had:ad.isNone with
 | true=>rw[had]at D;exact⟨_,_,w,_,D,.inl rfl,by rw[e3]; exact⟨F,g,r.put M (.t (.bool _))⟩,h1 (hm had)⟩
 | false=>rw[had]at D;exact⟨_,_,w,_,D,.inl rfl,by rw[e3]; exact⟨F,g,r.put M (.t (.bool _))⟩,h0⟩
theorem aOJ{xs:Array Operand}{l:List Operand}(h:xs.toList=l):xs=l.toArray:=by rw[<-h]
end
def On(f:Nat->List T)(l:Nat)(zs:List T):Nat->List T:=fun i=>if i<l then f i else zs
section
variable {P:Program} {E:Env} {I:Inf} {Q:iK} {st st':St} {F:Nat->Prop} {g:Nat->Value} {a:Act} {w:World}
theorem vG(r:cG E F g st a w){t e:TypeId}{j:dO}(J:P.underlying t=some (.slice e))(Q:TOk P e j){ad:Option Addr}{n cap:Nat}(M:n<=cap)
  {lo hi:Option Operand}{l h:Int}(hl:fE st 0 lo=some l)(Z:fE st n hi=some h)(hc:0<=l/\l<=h/\h<=(n:Int)):
  (Instr.sliceAt t (.slice ad n cap) (lo.map a.eval) (hi.map a.eval) none).run P w = .ok (.slice (if cap=l.toNat then ad else ad.map (·.add (l.toNat*j.size))) (h.toNat-l.toNat) (cap-l.toNat)) w:=by
 obtain⟨h1,h2,h3⟩:=hc;have e:(Instr.sliceAt t (.slice ad n cap) (lo.map a.eval) (hi.map a.eval) none).run P w=(Instr.slice t (.slice ad n cap) (lo.map a.eval) (hi.map a.eval) none).run P w:=by simp[Instr.sliceAt,run_underlying J]
 have hb:(Instr.sliceBounds true n cap (lo.map a.eval) (hi.map a.eval) none).run P w = .ok (l.toNat,h.toNat,cap) w:=by
  unfold Instr.sliceBounds;rcases jK r hl with⟨rfl,rfl⟩ | ⟨y,k,rfl,hy⟩ <;> rcases jK r Z with⟨rfl,rfl⟩ | ⟨y',G,rfl,D⟩
  ·simp
  ·simp[D,cI (P:=P) (w:=w) (k:=G) (n:=h) (y:=cap) ⟨by omega,by omega⟩]
  ·simp[hy,cI (P:=P) (w:=w) (k:=k) (n:=l) (y:=n) ⟨h1,by omega⟩]
  ·simp[hy,D,cI (P:=P) (w:=w) (k:=G) (n:=h) (y:=cap) ⟨by omega,by omega⟩,cI (P:=P) (w:=w) (k:=k) (n:=l) (y:=h.toNat) ⟨h1,by omega⟩]
 rw[e];simp[Instr.slice,run_underlying J,hb,run_sizeOf Q]
theorem cG.erase(r:cG E F g st a w){o:Nat}{st1:St}(he:st.erase o=some st1):cG E F g st1 a w:=
 ⟨r.nt,r.df,fun t y hy=>r.fr t y (St.erase_fr he t y hy).1,⟨⟨fun k y hy=>by
   obtain⟨x,h1,_,_,h4,_⟩:=St.erase_hp he k y hy; exact h4 _ _ _ (r.w.hp.obj k x h1),fun k y b hy hb=>by
   obtain⟨x,h1,_,_,_,D⟩:=St.erase_hp he k y hy; exact r.w.hp.own k x b h1 (D _ _ _ hb),fun k y k' y' b hy G J hb M=>by
   obtain⟨x,h1,_,_,_,D⟩:=St.erase_hp he k y hy; obtain⟨x',Z,_,_,_,Q⟩:=St.erase_hp he k' y' G; exact r.w.hp.sep k x k' x' b h1 Z J (D _ _ _ hb) (Q _ _ _ M)⟩,
   r.w.f0,r.w.f1,r.w.ext,r.w.names,r.w.b0⟩⟩
theorem cG.obj0(r:cG E F g st a w){o:Nat}{x y:bA}(hl:look st.hp o=some x)(M:∀ F g w,dA F g w o x->dA F g w o y)(hy:y.plain=true:=by rfl):cG E F g { st with hp:=(o,y)::del o st.hp } a w:=by
 have G:=aX hl;have old:∀ k z b,(k,z)∈(o,y)::del o st.hp->bC g w k z b->∃ D,(k,D)∈st.hp/\bC g w k D b:=by
  intro k z b hz hb;rcases bE.1 hz with e | hz
  ·cases e; exact⟨x,G,.self (hb.toBlk hy)⟩
  ·exact⟨z,(bB.1 hz).1,hb⟩
 refine⟨r.nt,r.df,r.fr,⟨⟨fun k z hz=>?_,fun k z b hz hb=>?_,fun k z k' D b hz J Q hb Z=>?_⟩,r.w.f0,r.w.f1,r.w.ext,r.w.names,r.w.b0⟩⟩
 ·rcases bE.1 hz with e | hz
  ·cases e; exact M _ _ _ (r.w.hp.obj _ _ G)
  ·exact r.w.hp.obj k z (bB.1 hz).1
 ·obtain⟨D,h1,h2⟩:=old k z b hz hb; exact r.w.hp.own k D b h1 h2
 ·obtain⟨u,h1,h2⟩:=old k z b hz hb;obtain⟨u',h1',h2'⟩:=old k' D b J Z;exact r.w.hp.sep k u k' u' b h1 h1' Q h2 h2'
theorem aHX(hG:gN P E I){ops l:List Oper}{o:Oper}{rest:List Oper}{t:TypeId}{x:Operand}{lo hi:Option Operand}{d q e e' s n:Nat}{f:Nat->List T}{h:Int}{i j:dO}(hl:l=o::rest)(hop:o.op = .slice t x lo hi none)
  (hd:o.dst=some d)(hw:cC ops o st=some true)(hx:ev st x=some (.own q))(hq:look st.hp q=some (.arr e s n f))(hlo:fE st 0 lo=some 0)(hhi:fE st n hi=some h)(hi:I.ti t=some i)(hu:i.und = .sl e')(hj:I.ti e'=some j)
  (hc:0<=h/\h<=(n:Int)){st1:St}(he:st.erase q=some st1)(hn:fS I st1 d (.arr e s h.toNat f) (.own d)=some st')(hk:fG P E ops Q rest st'):fG P E ops Q l st:=by
 refine fN hl hw fun F g a w r=>?_;have hte:=(hG.ti _ _ hi).und;rw[hu]at hte;have hxv:=bT r hx;obtain⟨u,hue⟩:∃ u,a.eval x=u:=⟨_,rfl⟩;rw[hue]at hxv;have hob:=r.w.hp.obj _ _ (aX hq);cases hxv with
 | @own _ n' cap ad hg=>
  have D:n'=n/\n<=cap:=by
   rcases hob with⟨h1,h2⟩ | ⟨b,cap',cur,h1,_,h3,_⟩
   all_goals grind
  obtain⟨rfl,D⟩:=D;have J:=vG (P:=P) r hte (hG.ti _ _ hj) (ad:=ad) D hlo hhi ⟨by omega,by omega,hc.2⟩;have had:(if cap=(0:Int).toNat then ad else ad.map (·.add ((0:Int).toNat*j.size)))=ad:=by
   split
   ·rfl
   ·cases ad with
    | none=>rfl
    | some ad=>simp[Addr.add]
  rw[had]at J;simp only[Int.toNat_zero,Nat.sub_zero]at J;have hex:(execOp a.eval o).run P w = .ok (.value (.slice ad h.toNat cap)) w:=by unfold execOp;simp_all
  refine⟨_,_,w,st',hex,.inl rfl,?_,hk⟩;rw[hd];have r1:=r.erase he;unfold fS at hn;split at hn
  ·rename_i st2 g1 g2 g3;cases hn;have hd':d<E.nt:=by rw[hG.nt]; simp_all
   have hlm:=aX hq;have M:∀ b,blk (.slice ad h.toNat cap)=some b->blk (g q)=some b:=by
    intro b hb;rw[hg];cases ad with
    | none=>cases hb
    | some ad=>exact hb
   refine⟨F,upd g d (.slice ad h.toNat cap),r1.putW hd' (fun b hb=>⟨hb,rfl⟩) (fun t y hy=>?_) ?_ (.own (bJ ..))⟩
   ·obtain⟨e1,e2⟩:=St.erase_fr g3 t y hy;exact⟨e1,fun o ho=>bP g _ (e2 o ho)⟩
   ·have hdis:∀ k y b,(k,y)∈st1.hp->bC g w k y b->blk (.slice ad h.toNat cap)=some b->False:=by intro k y b hy hb Z;obtain⟨x,hx1,hx2,_,_,hx5⟩:=St.erase_hp he k y hy;exact r.w.hp.sep k x q _ b hx1 hlm hx2 (hx5 _ _ _ hb) (.self (M b Z))
    have G:∀ b,bC (upd g d (.slice ad h.toNat cap)) w d (.arr e s h.toNat f) b->blk (.slice ad h.toNat cap)=some b:=by
     intro b hb;have:=hb.toBlk rfl
     rwa [bJ]at this
    refine⟨HpR.change r1.w.hp g3 (fun o ho=>bP g _ ho) (fun b hb=>⟨hb,rfl⟩) (fun _ h=>h) (fun _ _ _ _ _ _=>rfl) ?_ (fun b hb=>?_) (fun k y b hk hne hb Z=>hdis k y b hk hb (G b Z)),r.w.f0,r.w.f1,r.w.ext,fun k hk=>?_,r.w.b0⟩
    ·simp only[dA,bJ];rcases hob with⟨h1,h2⟩ | ⟨b,cap',cur,h1,h2,h3,h4,h5,h6,h7⟩
     ·rw[hg]at h1;injection h1 with h1 h8 h9;subst h1;have:h.toNat=0:=by omega
      rw[this,h9];exact .inl ⟨rfl,rfl⟩
     ·rw[hg]at h1;injection h1 with h1 h8 h9;subst h1 h9;exact .inr ⟨b,cap,cur,rfl,h2,by omega,h4,h5,fun i hi=>h6 i (by omega),fun i k x hi hx=>h7 i k x (by omega) hx⟩
    ·exact r.w.hp.own q _ b hlm (.self (M b (G b hb)))
    ·have hne:k≠d:=by intro e1;have:=eX g2;rw[<-hG.N]at this;simp_all
     rw[bP g _ hne];exact r.w.names k hk
  ·cases hn
theorem aMO(hG:gN P E I){ops l:List Oper}{o1 o2:Oper}{rest:List Oper}{t t2:TypeId}{x:Operand}{lo:Option Operand}{c:Call}{d q e e' s n:Nat}{f:Nat->List T}{D:Int}{i j:dO}{zs:List T}(hl:l=o1::o2::rest)
  (hop:o1.op = .slice t x lo none none)(hd:o1.dst=some d)(hw:cC ops o1 st=some true)(hop2:o2.op = .call c)(hcal:c.callee = .builtin .clear)(hargs:c.args=#[.tmp d])(hat:c.argTypes[0]? = some t2)(ht2:t2=t)(hg2:o2.guard=none)(hd2:o2.dst=none)
  (hnt:Nat.blt d I.nt=true)(hx:ev st x=some (.own q))(hq:look st.hp q=some (.arr e s n f))(hlo:fE st 0 lo=some D)(hi:I.ti t=some i)(hu:i.und = .sl e')(hj:I.ti e'=some j)(hs:j.size=s)(hs1:1<=s)(hz:j.zero.length=j.size)
  (hz1:j.zero.all PV.one=true)(hzs:zY j.zero zs)(hc:0<=D/\D<=(n:Int))(hk:fG P E ops Q rest (({ st with hp:=(q,.arr e s n (On f D.toNat zs))::del q st.hp }:St).put d .any)):fG P E ops Q l st:=by
 subst hl;rintro a w ⟨F,g,r⟩;have hd':d<E.nt:=by rw[hG.nt]; simp_all
 have Z:=(hG.ti _ _ hi).und;rw[hu]at Z;have hxv:=bT r hx;obtain⟨u,hue⟩:∃ u,a.eval x=u:=⟨_,rfl⟩;rw[hue]at hxv;have hlm:=aX hq;have hob:=r.w.hp.obj _ _ hlm;cases hxv with
 | @own _ n' cap ad hg=>
  have G:n'=n/\n<=cap:=by
   rcases hob with⟨h1,h2⟩ | ⟨b,cap',cur,h1,_,h3,_⟩
   all_goals grind
  obtain⟨rfl,G⟩:=G;have hrun:=vG (P:=P) (hi:=none) (h:=(n':Int)) r Z (hG.ti _ _ hj) (ad:=ad) G hlo rfl ⟨hc.1,hc.2,Int.le_refl _⟩;obtain⟨v1,hv1⟩:∃ v1,v1=Value.slice (if cap=D.toNat then ad else ad.map (·.add (D.toNat*j.size))) ((n':Int).toNat-D.toNat) (cap-D.toNat):=⟨_,rfl⟩;rw[<-hv1]at hrun;have hex:(execOp a.eval o1).run P w = .ok (.value v1) w:=by unfold execOp;simp_all
  refine wpList_step fun K hK=>?_;rw[aA (iD (ops:=ops.toArray) r (by omega))];unfold Oper.wp;rw[hex];simp only[Oper.upon];refine hK _ _ ?_;rw[hd];have hev:(a.put (some d) v1).eval (.tmp d)=v1:=by simp only[Act.eval];exact Act.put_same a d v1 (by rw[r.nt]; exact hd')
  have key:∃ w2,(Builtin.clear_ c.argTypes o2.type #[v1]).run P w = .ok (.tuple #[]) w2/\cG E F g { st with hp:=(q,.arr e s n' (On f D.toNat zs))::del q st.hp } a w2:=by
   by_cases h0:(n':Int).toNat-D.toNat=0
   ·refine⟨w,?_,r.obj0 hq (fun F g w h=>?_)⟩
    ·rw[hv1,h0];generalize (if cap=D.toNat then ad else ad.map (·.add (D.toNat*j.size)))=A;unfold Builtin.clear_;cases A <;> simp[hat,ht2,run_underlying Z]
    ·refine dA.row rfl (fun k hk=>?_) h;simp only[On];rw[aA]
   ·rcases hob with⟨h1,h2⟩ | ⟨b,cap',cur,h1,h2,h3,h4,h5,h6,h7⟩
    ·omega
    ·rw[hg]at h1;injection h1 with h1 h8 h9;subst h1 h9;obtain⟨info,z,hi1,hi2,hi3,hi4,hi5⟩:=mE (hG.ti _ _ hj) ((n' - D.toNat)*j.size) hz (by omega);have hzc:(Builtin.zeroCells z.cells (n' - D.toNat))=(Array.range ((n' - D.toNat)*j.size)).map (z.cells[· % z.cells.size]!):=by unfold Builtin.zeroCells;rw[hi4]
     obtain⟨vs,hvs⟩:∃ vs,vs=(Builtin.zeroCells z.cells (n' - D.toNat)).toList:=⟨_,rfl⟩;have hlen:vs.length=(n' - D.toNat)*j.size:=by simp_all
     have hmul:D.toNat*s+(n' - D.toNat)*s=n'*s:=by rw[<-jG]; simp_all
     have hle:n'*s<=cap*s:=iL _ h3;have hfit:D.toNat*j.size+0+vs.length<=cur.size:=by simp_all
     have M:∀ k,k<(n' - D.toNat)*s->∃ v x,vs[k]? = some v/\(fC j ((n' - D.toNat)*j.size))[k]? = some x/\VR F g w x v:=by
      intro k hk;have hk':k<vs.length:=by simp_all
      have hkz:k<(fC j ((n' - D.toNat)*j.size)).length:=by simp[fC,hs,hk]
      grind
     have J:∀ k x,(fC j ((n' - D.toNat)*j.size))[k]? = some x->j.zero[k % s]? = some x:=by
      intro k x hx;simp only[fC,gQ]at hx;have hk:k<(n' - D.toNat)*j.size:=by grind
      rw[List.getElem?_range hk]at hx;simp only[tM,gJ]at hx;have hkm:k % j.zero.length<j.zero.length:=Nat.mod_lt _ (by omega);rw[dV,iE hkm]at hx;simp only[sH]at hx;rw[<-hx,<-hs,<-hz,iE hkm]
     have hone:∀ v,v∈vs->v.oneCell'=true:=by intro v hv;obtain⟨k,hk,hkv⟩:=Cq.1 hv;obtain⟨v',x,e1,e2,e3⟩:=M k (by grind);rw[iE hk,hkv]at e1;cases e1;exact e3.one (fT.1 hz1 x (lL (J k x e2)))
     have hst:=run_storeCells_at (P:=P) b (D.toNat*j.size) e vs 0 cur w h2 hfit hone;simp only[yV]at hst;have hne:¬ cap=D.toNat:=by omega
     refine⟨_,?_,r.write (cs:=(cur.toList.take (D.toNat*j.size)++vs++cur.toList.drop (D.toNat*j.size+vs.length)).toArray) hlm (by rw[hg]; rfl) h2 ?_⟩
     ·rw[hv1,aF hne];unfold Builtin.clear_;obtain⟨m,hm⟩:∃ m,(n':Int).toNat-D.toNat=m+1:=⟨(n':Int).toNat-D.toNat-1,by omega⟩;have hm':n' - D.toNat=m+1:=by omega
      rw[hm];rw[hm']at hvs;simp[hat,ht2,run_underlying Z,gR hi1 hi2,Addr.add_none,<-hvs,hst]
     ·have hFb:=(r.w.hp.own q _ b hlm (.self (by rw[hg]; rfl))).1;have hF:=wW (F:=F) (w:=w) (cs:=(cur.toList.take (D.toNat*j.size)++vs++cur.toList.drop (D.toNat*j.size+vs.length)).toArray) hFb;refine lO.obj (b:=b) (cap:=cap) ⟨fun k hk=>?_,fun k m x hk hx=>?_⟩ hg (setRow_heap w b cur _ e _ h2) h3 h4 ?_
      ·simp only[On];split
       ·exact h6 k hk
       ·rw[hzs.1,hz,hs]
      ·have hms:m<s:=by
        have:=(Ir.1 hx).1;simp only[On]at this;split at this
        ·simp_all
        ·rw[hzs.1,hz,hs]at this; omega
       have hkm:k*s+m<n'*s:=by
        calc k*s+m<k*s+s:=by omega
         _=(k+1)*s:=by rw[Nat.succ_mul]
         _<=n'*s:=iL _ hk
       simp only[Hx,cR];simp only[On]at hx;split at hx
       ·rename_i hkl;have hlt:k*s+m<D.toNat*j.size:=by
         rw[hs]
         calc k*s+m<k*s+s:=by omega
          _=(k+1)*s:=by rw[Nat.succ_mul]
          _<=D.toNat*s:=iL _ hkl
        obtain⟨v,hv,hr⟩:=h7 k m x hk hx;refine⟨v,?_,by have:=hr.mono hF; simp_all⟩;grind
       ·rename_i hkl;have hge:D.toNat*s<=k*s:=iL _ (by omega);obtain⟨v,y,e1,e2,e3⟩:=M (k*s+m-D.toNat*s) (by omega);have hmod:(k*s+m-D.toNat*s) % s=m:=by
         have:k*s+m-D.toNat*s=(k-D.toNat)*s+m:=by rw[Nat.sub_mul]; omega
         rw[this,Nat.mul_comm,Nat.mul_add_mod,Iq hms]
        have hy:=J _ _ e2;rw[hmod]at hy;refine⟨v,?_,?_⟩
        ·rw[nD (by grind),pO (by grind)];simp only[dU,rD];grind
        ·have:=((hzs.2 m y x hy hx _ _ _ _ e3).cells_t rfl).mono hF;simp_all
      grind
  obtain⟨w2,hr2,hrel⟩:=key;refine wpList_step fun K2 hK2=>?_;rw[aA (by simp[Region.wanted,hg2])];have hex2:(execOp (a.put (some d) v1).eval o2).run P w = .ok (.value (.tuple #[])) w2:=by unfold execOp;simp[hop2,resolve,hcal,invoke,hargs,hev,builtin,hr2]
  unfold Oper.wp;rw[hex2];simp only[Oper.upon];refine hK2 _ _ (hk _ _ ⟨F,g,?_⟩);rw[hd2];exact hrel.put hd' (.any (by rw[hv1]; rfl))
theorem aUY{all:List Oper}{op:Oper}{d e:Nat}{j:dO}{k:Int}(h:aVB I all op st=some (d,e,j,k)):
  ∃ s x t t' i i' kk,op.op = .call ⟨.builtin .append,#[s,x],#[t,t']⟩/\op.dst=some d/\cC all op st=some true/\I.ti t=some i/\I.ti t'=some i'/\i.und = .sl e/\i'.und = .int kk/\I.ti e=some j /\
   ev st s=some .nil/\ev st x=some (.t (.int .i64 k))/\1<=j.size/\1<=j.bytes/\j.zero.length=j.size:=by
 unfold aVB at h;split at h
 case h_2=>cases h
 rename_i c d' e1 e2 e3;split at h
 case h_2=>cases h
 rename_i s x t t' e4 e5 e6;split at h
 case h_2=>cases h
 rename_i i i' k' e7 e8 e9 e10;split at h
 case h_2=>cases h
 rename_i e' kk e11 Z;split at h
 case h_2=>cases h
 rename_i j' Q;split at h
 case h_2=>cases h
 rename_i D;cases h;obtain⟨cal,args,G⟩:=c;simp only at e4 e5 e6;have M:args=#[s,x]:=by rw[<-nH (xs:=args),e5]
 have J:G=#[t,t']:=by rw[<-nH (xs:=G),e6]
 subst M; subst J; subst e4;simp only[cQ]at D;exact⟨s,x,t,t',i,i',kk,e1,e2,e3,e7,e8,e11,Z,Q,e9,e10,fI D.1,fI D.2.1,bS D.2.2⟩
theorem aLE(G:gN P E I){all l:List Oper}{op:Oper}{d e:Nat}{j:dO}{k:Int}{ts:List T}(h:aVB I all op st=some (d,e,j,k))(hts:zY j.zero ts)(hk0:0<=k)(hb:k.toNat*j.bytes<=140737488355328)
  (hn:fS I st d (.arr e j.size k.toNat (fun _=>ts)) (.own d)=some st')(hk:fG P E all Q l st'):fG P E all Q (op::l) st:=by
 obtain⟨s,x,t,t',i,i',kk,h1,h2,h3,h4,h5,h6,h7,h8,h9,h10,h11,h12,D⟩:=aUY h;refine fN rfl h3 fun F g a w r=>?_;have hte:=(G.ti _ _ h4).und;rw[h6]at hte;have hti:=(G.ti _ _ h5).und;rw[h7]at hti;obtain⟨info,z,hi1,hi2,hi3,hi4,hi5⟩:=mE (G.ti _ _ h8) (k.toNat*j.size) D h11;obtain⟨info',M,hi6,hi7,_⟩:=(G.ti _ _ h8).info;rw[hi1]at M; cases M;obtain⟨u,hu⟩:∃ u,a.eval s=u:=⟨_,rfl⟩;have hv:=bT r h9;rw[hu]at hv;cases hv;have hx:=(bT r h10).inv_int;have hm63:k.toNat<=140737488355328:=fW (Fo k.toNat h12) hb;have hwr:IntKind.i64.wrap k=k:=by simp only[IntKind.wrap,IntKind.bits,IntKind.signed]; simp; omega
 have Z:z.cells.size=j.size:=hi4
 suffices hmain:∃ u w',(Builtin.append_ #[t,t'] op.type #[a.eval s,a.eval x]).run P w = .ok u w'/\Rel E st' (a.put (some d) u) w' by obtain⟨u,w',e1,e2⟩:=hmain;exact⟨_,u,w',_,by unfold execOp; simp[h1,resolve,invoke,builtin,e1],.inl rfl,by simp_all,hk⟩
 by_cases h0:k.toNat=0
 ·have hk00:k=0:=by omega
  subst hk00;have J:(Builtin.append_ #[t,t'] op.type #[a.eval s,a.eval x]).run P w = .ok (.slice none 0 0) w:=by rw[hu,hx];have e0:IntKind.i64.wrap 0=0:=hwr;clear hwr hx hu;simp[Builtin.append_,run_underlying hte,run_underlying hti,sizeOf,typeInfo,hi1,asInt,asIntOf,e0]
  refine⟨.slice none 0 0,w,J,?_⟩;unfold fS at hn;split at hn
  ·rename_i st1 g1 g2 g3;cases hn;have hd':d<E.nt:=by rw[G.nt]; simp_all
   refine⟨F,upd g d (.slice none 0 0),r.putW hd' (fun b hb=>⟨hb,rfl⟩) (fun t y hy=>?_) ?_ (.own (bJ ..))⟩
   ·obtain⟨e1,e2⟩:=St.erase_fr g3 t y hy;exact⟨e1,fun o ho=>bP g _ (e2 o ho)⟩
   ·refine⟨HpR.change r.w.hp g3 (fun o ho=>bP g _ ho) (fun b hb=>⟨hb,rfl⟩) (fun _ h=>h) (fun _ _ _ _ _ _=>rfl) (.inl ⟨bJ ..,rfl⟩)
     (fun b hb=>by have hb:=hb.toBlk rfl; rw[bJ]at hb; simp[blk]at hb) (fun o y b _ _ _ hb=>by have hb:=hb.toBlk rfl; rw[bJ]at hb; simp[blk]at hb),r.w.f0,r.w.f1,r.w.ext,fun o ho=>?_,r.w.b0⟩
    rw[bP g _ (fun e:o=d=>eX g2 (G.N▸e▸ho))];exact r.w.names o ho
  ·cases hn
 ·have hb1:1<=k.toNat:=by omega
  have hneg:¬ k<0:=by omega
  have h48:¬ (281474976710656<k*(info.bytes:Int)):=by grind
  have hsz0:¬ (k.toNat*j.size=0):=by
   intro h;rcases Nat.mul_eq_zero.1 h with h | h
   ·exact h0 h
   ·omega
  have h63:¬ (9223372036854775807<(k.toNat:Int)):=by omega
  have h60:¬ k<=0:=by omega
  have h61:¬ (9223372036854775807<max k 0):=by omega
  have h48':¬ (281474976710656<Builtin.nextslicecap k.toNat 0*info.bytes):=by rw[nextslicecap_zero hb1,hi7]; omega
  have J:(Builtin.append_ #[t,t'] op.type #[a.eval s,a.eval x]).run P w = .ok (.slice (some ⟨w.heap.size,0,none⟩) k.toNat (grownCap w k.toNat 0 e))
    (w.drew.alloc (.cells (Builtin.zeroCells z.cells k.toNat++Builtin.zeroCells z.cells (grownCap w k.toNat 0 e-k.toNat)) e)):=by
   rw[hu,hx];simp[Builtin.append_,run_underlying hte,run_underlying hti,sizeOf,typeInfo,zeroValue,hi1,hi2,asInt,asIntOf,hwr,hneg,h48,hsz0,h60,h61,h48',Question.forced,newRow,grownCap,Builtin.firstCells,hi6]
  have hcap:=grownCap_ge w k.toNat 0 e;have hcapm:=grownCap_le_maxLen w k.toNat 0 e (by simp only[maxLen]; omega);have hrel:Rel E st' (a.put (some d) (.slice (some ⟨w.heap.size,0,none⟩) k.toNat (grownCap w k.toNat 0 e))) (w.drew.alloc (.cells (Builtin.zeroCells z.cells k.toNat++Builtin.zeroCells z.cells (grownCap w k.toNat 0 e-k.toNat)) e)):=by
   refine nP G.N G.nt r hn rfl rfl rfl rfl rfl (fun g' _ hv=>?_) (fun g' hv=>.own hv);refine lO.obj ⟨fun i hi=>by rw[hts.1,D],fun i q y hi hy=>?_⟩ hv (heap_alloc_new w.drew _) hcap hcapm ?_
   ·have hq:q<j.size:=by rw[<-D,<-hts.1]; grind
    have hlt:i*j.size+q<k.toNat*j.size:=by have:(i+1)*j.size<=k.toNat*j.size:=iL _ hi;grind
    have hmod:(i*j.size+q) % j.size=q:=by rw[Nat.mul_comm,Nat.mul_add_mod,Iq hq]
    have hlz:q<z.cells.size:=by omega
    refine⟨z.cells[q],?_,?_⟩
    ·rw[aCD (by simp only[size_zeroCells,Z]; exact hlt)];simp only[Builtin.zeroCells,Z,Array.getElem?_map];simp_all
    ·have h2:=hi5 F g w (i*j.size+q) (j.zero[q]'(by omega)) z.cells[q] (by
      simp only[fC,gQ,D];simp_all) (by
      simp_all)
     have h3:=hts.2 q (j.zero[q]'(by omega)) y (by simp_all) hy _ _ _ _ h2;have hh:∀ b,F b->F b/\(w.drew.alloc (.cells (Builtin.zeroCells z.cells k.toNat++Builtin.zeroCells z.cells (grownCap w k.toNat 0 e-k.toNat)) e)).heap[b]? = w.heap[b]?:=fun b hb=>⟨hb,heap_alloc_old w.drew _ (r.w.f1 b hb).1⟩;exact(h3.cells_t rfl).mono hh
   ·simp only[Cf,size_zeroCells,Z,<-jG];simp_all
  grind
theorem aMX{all:List Oper}{op:Oper}{d e:Nat}{j:dO}{G cv:Int}(h:aRN I all op st=some (d,e,j,G,cv)):
  ∃ t l c i,op.op = .makeSlice t l c/\op.dst=some d/\cC all op st=some true/\I.ti t=some i/\i.und = .sl e/\I.ti e=some j /\
   ev st l=some (.t (.int .i64 G))/\ev st c=some (.t (.int .i64 cv))/\1<=j.size/\1<=j.bytes/\j.zero.length=j.size:=by
 unfold aRN at h;split at h
 case h_2=>cases h
 rename_i t l c d' e1 e2 e3;split at h
 case h_2=>cases h
 rename_i i lv' cv' e4 Z Q;split at h
 case h_2=>cases h
 rename_i e' M;split at h
 case h_2=>cases h
 rename_i j' J;split at h
 case h_2=>cases h
 rename_i D;cases h;simp only[cQ]at D;exact⟨t,l,c,i,e1,e2,e3,e4,M,J,Z,Q,fI D.1,fI D.2.1,bS D.2.2⟩
theorem aLP(hG:gN P E I){all l:List Oper}{op:Oper}{d e:Nat}{j:dO}{D cv:Int}{ts:List T}(h:aRN I all op st=some (d,e,j,D,cv))(Z:zY j.zero ts)(hk0:0<=D/\D<=cv)(hb:cv.toNat*j.bytes<=140737488355328)
  (hn:fS I st d (.arr e j.size D.toNat (fun _=>ts)) (.own d)=some st')(hk:fG P E all Q l st'):fG P E all Q (op::l) st:=by
 obtain⟨t,lo,co,i,h1,h2,h3,h4,h6,h8,h9,h10,h11,h12,G⟩:=aMX h;refine fN rfl h3 fun F g a w r=>?_;have hte:=(hG.ti _ _ h4).und;rw[h6]at hte;obtain⟨info,z,hi1,hi2,hi3,hi4,hi5⟩:=mE (hG.ti _ _ h8) (D.toNat*j.size) G h11;obtain⟨info',J,hi6,hi7,_⟩:=(hG.ti _ _ h8).info;rw[hi1]at J; cases J;have hx:=(bT r h9).inv_int;have hy:=(bT r h10).inv_int;have hm63:cv.toNat<=140737488355328:=fW (Fo cv.toNat h12) hb;have wl:IntKind.i64.wrap D=D:=by simp only[IntKind.wrap,IntKind.bits,IntKind.signed]; simp; omega
 have wc:IntKind.i64.wrap cv=cv:=by simp only[IntKind.wrap,IntKind.bits,IntKind.signed]; simp; omega
 have hzc:z.cells.size=j.size:=hi4;have n1:¬ cv<0:=by omega
 have n2:¬ (281474976710656<(info.bytes:Int)*cv):=by grind
 have n3:¬ D<0:=by omega
 have n4:¬ cv<D:=by omega
 have n5:¬ (140737488355328<cv.toNat*info.bytes):=by simp_all
 have M:D.toNat<=cv.toNat:=by omega
 have hrun:(Instr.makeSlice t (.int .i64 D) (.int .i64 cv)).run P w = .ok (.slice (some ⟨w.heap.size,0,none⟩) D.toNat cv.toNat)
   (w.alloc (.cells ((Array.range (cv.toNat*j.size)).map fun q=>z.cells[q % j.size]!) e)):=by
  by_cases hz0:cv.toNat*j.size=0
  ·have hz1:cv.toNat*info.size=0:=by simp_all
   simp[Instr.makeSlice,run_underlying hte,asInt,asIntOf,typeInfo,hi1,sizeOf,wl,wc,n1,n2,n3,n4,hz1,hz0,newRow,askRoom,roomBytes];have e0:∀ f:Nat->Value,(Array.range 0).map f=#[]:=fun f=>Cp (by simp);rw[e0,e0]
  ·have hz1:¬ cv.toNat*info.size=0:=by simp_all
   simp[Instr.makeSlice,run_underlying hte,asInt,asIntOf,typeInfo,hi1,sizeOf,zeroValue,hi2,wl,wc,n1,n2,n3,n4,hz0,newRow,askRoom,roomBytes,hi6,hzc]
 suffices hrel:Rel E st' (a.put (some d) (.slice (some ⟨w.heap.size,0,none⟩) D.toNat cv.toNat)) (w.alloc (.cells ((Array.range (cv.toNat*j.size)).map fun q=>z.cells[q % j.size]!) e)) by exact⟨_,.slice (some ⟨w.heap.size,0,none⟩) D.toNat cv.toNat,w.alloc (.cells ((Array.range (cv.toNat*j.size)).map fun q=>z.cells[q % j.size]!) e),_,by unfold execOp; simp_all,.inl rfl,by simp_all,hk⟩
 refine nP hG.N hG.nt r hn rfl rfl rfl rfl rfl (fun g' _ hv=>?_) (fun g' hv=>.own hv);refine lO.obj ⟨fun i hi=>by rw[Z.1,G],fun i q y hi hy'=>?_⟩ hv (heap_alloc_new w _) M (by simp only[maxLen]; omega) (by simp);have hq:q<j.size:=by rw[<-G,<-Z.1]; grind
 have hlt:i*j.size+q<D.toNat*j.size:=by have:(i+1)*j.size<=D.toNat*j.size:=iL _ hi;grind
 have hlt':i*j.size+q<cv.toNat*j.size:=Cl hlt (iL _ M);have hmod:(i*j.size+q) % j.size=q:=by rw[Nat.mul_comm,Nat.mul_add_mod,Iq hq]
 have hlz:q<z.cells.size:=by omega
 refine⟨z.cells[q],?_,?_⟩
 ·simp_all
 ·have h2:=hi5 F g w (i*j.size+q) (j.zero[q]'(by omega)) z.cells[q] (by
   simp only[fC,gQ,G];simp_all) (by
   simp_all)
  have h3:=Z.2 q (j.zero[q]'(by omega)) y (by simp_all) hy' _ _ _ _ h2;have hh:∀ b,F b->F b/\(w.alloc (.cells ((Array.range (cv.toNat*j.size)).map fun q=>z.cells[q % j.size]!) e)).heap[b]? = w.heap[b]?:=fun b hb=>⟨hb,heap_alloc_old w _ (r.w.f1 b hb).1⟩;exact(h3.cells_t rfl).mono hh
theorem aHJ(J:gN P E I){all l:List Oper}{op:Oper}{t d e:Nat}{i:dO}{st1:St}(hop:op.op = .alloc t)(hd:op.dst=some d)(hw:cC all op st=some true)(hnt:Nat.blt d I.nt=true)(hn:qG d I.N=true)
  (hi:I.ti t=some i)(hz:i.zero=[.np,.nil])(he:st.erase d=some st1)(hk:fG P E all Q l ({ st1 with hp:=(d,.bld t e ⟨#[]⟩)::st1.hp }.put d (.ptr d 0))):fG P E all Q (op::l) st:=by
 refine fN rfl hw fun F g a w r=>?_;have Z:d<E.nt:=by rw[J.nt]; simp_all
 obtain⟨info,z,h1,h2,h3,h4⟩:=oC (F:=F) (g:=g) (w:=w) (J.ti _ _ hi);rw[hz]at h3 h4;have h3:z.cells.size=2:=h3;have hc:z.cells=#[.pointer none,.slice none 0 0]:=by
  have e0:z.cells[0]'(by omega) = .pointer none:=by have:=h4 0 .np (z.cells[0]'(by omega)) rfl (by simp);generalize z.cells[0]'(by omega)=u at this;cases this; rfl
  have e1:z.cells[1]'(by omega) = .slice none 0 0:=by have:=h4 1 .nil (z.cells[1]'(by omega)) rfl (by simp);generalize z.cells[1]'(by omega)=u at this;cases this; rfl
  grind
 have D:(w.alloc (.cells z.cells t)).heap[w.heap.size]? = some (.cells z.cells t (0,0)):=heap_alloc_new w _;rw[hc]at D;obtain⟨G,M⟩:=r.allocF (x:=.bld t e ⟨#[]⟩) (v:=.pointer (some ⟨w.heap.size,0,none⟩)) (w':=w.alloc (.cells z.cells t)) (ob:=.cells z.cells t (0,0)) Z (by rw[J.N]; exact eX hn) he rfl rfl rfl rfl rfl
  (fun G b hg hb=>by
   cases hb with
   | self h=>simp_all
   | bld k1 k2 k3=>rw[hg]at k1; injection k1 with k1; injection k1 with k1; injection k1 with k1; subst k1;rw[hc,D]at k2; injection k2 with k2; injection k2 with k2; injection k2 with k2; injection k2 with k2 k4; injection k4 with k4; subst k4;simp[blk]at k3)
  (fun G _ hg=>⟨w.heap.size,.pointer none,.slice none 0 0,hg,by simp_all,.inl rfl,.inl ⟨rfl,rfl⟩⟩)
  (.ptr d 0) (fun G hg=>.ptr hg)
 have hex:(Instr.alloc t true (.tuple #[])).run P w = .ok (.pointer (some ⟨w.heap.size,0,none⟩)) (w.alloc (.cells z.cells t)):=by simp[Instr.alloc,gR h1 h2,newVar,newRow]
 exact⟨_,.pointer (some ⟨w.heap.size,0,none⟩),w.alloc (.cells z.cells t),_,by unfold execOp; simp_all,.inl rfl,by rw[hd]; exact⟨F,G,M⟩,hk⟩
end
end Go.PL
