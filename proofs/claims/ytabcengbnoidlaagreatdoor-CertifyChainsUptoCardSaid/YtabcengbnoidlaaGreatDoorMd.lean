/-
  Parts: Arrays whose cells are rows of their own: changes of form. Own work. A row is taken out of a map for good: the entry is left, what it holds is said no more. Own work. Functions as trees: what they compute, and the walk through code that shows it. Own work. What stays true behind something that was handed objects; calls that may be refused. Own work. Functions as trees: the trees, what they compute, and the check against code. Own work. Functions as trees: the check of a tree against code. Own work. Functions as trees: what the check shows. Own work. Rows of ours: cut short, cleared from a place on. Own work. Functions as trees: A TREE THAT IS CHECKED TELLS WHAT THE CODE DOES. Own work.
-/
import Derived.Test.YtabcengbnoidlaaGreatDoorMc
import Derived.Laws.IdiomStrings
import Derived.Laws.Cover3
set_option maxHeartbeats 4000000
namespace Go.PL
open Go
variable {A α:Type} {Hs:Hp} {e i j m o s:Nat} {pan:Prop} {tr:TypeId} {v:Value}
def iT{α:Type}[Inhabited α](c:α->List Cel)(xs:List α):Nat->List Cel:=fun i=>c (xs.getD i default)
def Rr(f:Nat->List Cel)(i:Nat):List (Nat×Cel)->Nat->List Cel
 | []=>f
 | p::l=>Rr (lD f i p.1 p.2) i l
def aHU(c:List Cel):List (Nat×Cel)->List Cel
 | []=>c
 | p::l=>aHU (c.set p.1 p.2) l
theorem Tb(i:Nat):∀ (l:List (Nat×Cel)) (f:Nat->List Cel),Rr f i l i=aHU (f i) l
 | [],_=>rfl
 | p::l,f=>by rw[Rr,Tb i l];rw[rP,aA rfl];rfl
theorem Ap{i k:Nat}(h:k≠i):∀ (l:List (Nat×Cel)) (f:Nat->List Cel),Rr f i l k=f k
 | [],_=>rfl
 | p::l,f=>by rw[Rr,Ap h l];rw[rP,aF h]
theorem aOU[Inhabited α]{c:α->List Cel}{xs:List α}{x:α}{l:List (Nat×Cel)}(h:aHU (c (xs.getD i default)) l=c x):∀ k,k<xs.length->Rr (iT c xs) i l k=iT c (xs.set i x) k:=by
 intro k hk;by_cases hki:k=i
 ·subst hki;rw[Tb];show aHU (c (xs.getD k default)) l=c ((xs.set k x).getD k default);rw[h];simp[hk]
 ·rw[Ap hki];show c (xs.getD k default)=c ((xs.set i x).getD k default);rw[cI,cI,List.getElem?_set_ne (fun h=>hki h.symm)]
theorem aQZ[Inhabited α](c:α->List Cel)(xs ys:List α):∀ i,i<xs.length+ys.length->qQ xs.length (iT c xs) (iT c ys) i=iT c (xs++ys) i:=by
 intro i hi;unfold qQ iT;split
 ·rename_i h;rw[cI,cI,eT h]
 ·rename_i h;rw[cI,cI,eH (by omega)]
section
variable {P:Program} {E:Env} {I:Inf} {F:Nat->Prop} {g:Nat->Value} {st st2:St} {a:Act} {w:World}
theorem Ws.congr{u:Value}{n:Nat}{f f':Nat->List Cel}{ov:Option (Nat×Nat×PV)}(h:Ws F g w u e s n f ov)(hn:n=m)(hf:∀ i,i<n->f i=f' i):Ws F g w u e s m f' ov:=by
 subst hn;rcases h with h | ⟨b,cap,cur,h1,h2,h3,h4,h5,hC⟩
 ·exact .inl h
 ·refine .inr ⟨b,cap,cur,h1,h2,h3,h4,h5,fun i hi=>by rw[<-hf i hi]; exact hC.len i hi,fun i j x hi hx=>by rw[<-hf i hi]at hx; exact hC.cell i j x hi hx,fun i j i' j' x x' v v' c hi hi' hx hx'=>by rw[<-hf i hi]at hx; rw[<-hf i' hi']at hx';exact hC.sep i j i' j' x x' v v' c hi hi' hx hx',fun i j x v hi hx=>by rw[<-hf i hi]at hx; exact hC.own i j x v hi hx,fun i j p ho=>?_⟩;obtain⟨q1,q2,q3⟩:=hC.ov i j p ho;exact⟨q1,by rw[<-hf i q1]; exact q2,q3⟩
theorem Le.armN{n:Nat}{f f':Nat->List Cel}{ov:Option (Nat×Nat×PV)}(hl:bK st.hp o=some (.arm e s n f ov))(hn:n=m)(hf:∀ i,i<n->f i=f' i):Le E st { st with hp:=(o,.arm e s m f' ov)::del o st.hp }:=by
 refine Le.objF _ hl (fun F g w h=>Ws.congr h hn hf) (fun g w c h=>?_);subst hn;cases h with
 | self h=>exact .self h
 | arm h1 h2 h3 h4 h5 h6 h7=>exact .arm h1 h2 h3 (by rw[hf _ h3]; exact h4) h5 h6 h7
theorem Rel.armFocus(hN:E.N=I.N){q n e' s':Nat}{f:Nat->List Cel}{f':Nat->List T}(hl:bK st.hp o=some (.arm e s n f none))(hi:i<n)(hx:(f i)[j]? = some (.row e' s' m f'))
  (hs:Bd I.N o q (.arm e s n (lD f i j .any) (some (i,j,.own q))) (.arr e' s' m f') st=some st2)(r:Rel E st a w):Rel E st2 a w:=by
 obtain⟨F,g,r⟩:=r;have hqo:q≠o:=by
  unfold Bd at hs;split at hs
  ·rename_i h1 h2 h3; exact nP h2
  ·cases hs
 rcases r.w.hp.obj _ _ (aU hl) with⟨_,h2,_⟩ | ⟨b,cap,cur,h1,h2,h3,h4,h5,hC⟩
 ·omega
 obtain⟨v,hv,hR⟩:=hC.cell i j _ hi hx;have hR:kZ F w v e' s' m f':=hR;have hj:j<(f i).length:=(eK.1 hx).1;have old:∀ (k l:Nat) x,(lD f i j .any k)[l]? = some x->x.owned=true->¬ (k=i/\l=j)/\(f k)[l]? = some x:=fun k l x hx' ho=>by
  rcases eN hx' with⟨_,_,rfl⟩ | h
  ·cases ho
  ·exact h
 refine(r.focus hN v hl hs (fun g' hg hgq=>?_) (fun g' hg hgq=>?_) (fun g' b' hg hgq hf=>?_) (fun g' b' hg hgq hf=>?_) (fun g' b' hg hgq hf hf'=>?_)).2.elim fun g' h=>⟨F,g',h.2.2⟩
 ·refine .inr ⟨b,cap,cur,by rw[hg o (fun h=>hqo h.symm)]; exact h1,h2,h3,h4,h5,fun k hk=>by rw[uE]; exact hC.len k hk,fun k l x hk hx'=>?_,fun k l k' l' x x' u u' c hk hk' hx1 hx2 ho ho'=>?_,fun k l x u hk hx' ho=>?_,fun k l p e0=>?_⟩
  ·rcases eN hx' with⟨rfl,rfl,rfl⟩ | ⟨_,hx'⟩
   ·exact⟨v,hv,True.intro⟩
   ·exact hC.cell k l x hk hx'
  ·exact hC.sep k l k' l' x x' u u' c hk hk' (old k l x hx1 ho).2 (old k' l' x' hx2 ho').2 ho ho'
  ·exact hC.own k l x u hk (old k l x hx' ho).2 ho
  ·cases e0;refine⟨hi,Dd hj,fun u hu=>?_⟩;rw[hv]at hu; cases hu;rcases hR with⟨e1,_⟩ | ⟨b2,cap2,_,e1,_⟩
   ·rw[e1]at hgq ⊢; exact .own hgq
   ·rw[e1]at hgq ⊢; exact .own hgq
 ·show kZ F w (g' q) e' s' m f';rw[hgq]; exact hR
 ·cases hf with
  | self h=>rw[hg o (fun h=>hqo h.symm)]at h; exact .self h
  | arm q1 q2 q3 q4 q5 q6 q7=>rw[hg o (fun h=>hqo h.symm)]at q1; exact .arm q1 q2 q3 (old _ _ _ q4 q5).2 q5 q6 q7
 ·have:=hf.toBlk rfl;rw[hgq]at this;exact .arm h1 h2 hi hx rfl hv this
 ·have hb':=hf'.toBlk rfl;rw[hgq]at hb';cases hf with
  | self h=>rw[hg o (fun h=>hqo h.symm),h1]at h;simp[blk]at h; subst h;exact hC.own i j _ v hi hx rfl hv hb'
  | arm q1 q2 q3 q4 q5 q6 q7=>rw[hg o (fun h=>hqo h.symm),h1]at q1;injection q1 with q1; injection q1 with q1; injection q1 with q1;subst q1;rw[h2]at q2; injection q2 with q2; injection q2 with q2;subst q2;obtain⟨p1,p2⟩:=old _ _ _ q4 q5;exact p1 (hC.sep _ _ i j _ _ _ v b' q3 hi p2 hx q5 rfl q6 hv q7 hb')
theorem Le.armMerge{q n e' s':Nat}{f:Nat->List Cel}{f':Nat->List T}(hl:bK st.hp o=some (.arm e s n f (some (i,j,.own q))))(hq:bK st.hp q=some (.arr e' s' m f'))
  (hs:Ir o q (.arm e s n (lD f i j (.row e' s' m f')) none) st=some st2):Le E st st2:=by
 rintro a w ⟨F,g,r⟩;have hqo:q≠o:=by
  unfold Ir at hs;split at hs
  ·rename_i h1 h2; exact nP h1
  ·cases hs
 have hlm:=aU hl;have hqm:=aU hq;have harr:kZ F w (g q) e' s' m f':=r.w.hp.obj _ _ hqm;rcases r.w.hp.obj _ _ hlm with⟨_,_,h⟩ | ⟨b,cap,cur,h1,h2,h3,h4,h5,hC⟩
 ·cases h
 obtain⟨hi,hx,hov⟩:=hC.ov _ _ _ rfl;obtain⟨v,hv,_⟩:=hC.cell i j _ hi hx;have hvq:v=g q:=by have:=hov v hv;cases this with | own h=>exact h.symm
 have selfq:∀ c,blk v=some c->bG g w q (.arr e' s' m f') c:=fun c hc=>.self (by rw[<-hvq]; exact hc);have selfo:bG g w o (.arm e s n f (some (i,j,.own q))) b:=.self (by rw[h1]; rfl);refine⟨F,g,r.merge hl hq hs ?_ fun b' hf=>?_⟩
 ·refine .inr ⟨b,cap,cur,h1,h2,h3,h4,h5,fun k hk=>by rw[uE]; exact hC.len k hk,fun k l x hk hx'=>?_,fun k l k' l' x x' u u' c hk hk' hx1 hx2 ho ho' hu hu' hc hc'=>?_,fun k l x u hk hx' ho hu hc=>?_,fun k l p e0=>by cases e0⟩
  ·rcases eN hx' with⟨rfl,rfl,rfl⟩ | ⟨_,hx'⟩
   ·exact⟨v,hv,by rw[hvq]; exact harr⟩
   ·exact hC.cell k l x hk hx'
  ·rcases eN hx1 with⟨rfl,rfl,rfl⟩ | ⟨_,_⟩
   ·rw[hv]at hu; cases hu;rcases eN hx2 with⟨rfl,rfl,rfl⟩ | ⟨_,hx2⟩
    ·exact⟨rfl,rfl⟩
    ·exact(r.w.hp.sep o _ q _ c hlm hqm (fun h=>hqo h.symm) (.arm h1 h2 hk' hx2 ho' hu' hc') (selfq c hc)).elim
   ·rename_i hx3;rcases eN hx2 with⟨rfl,rfl,rfl⟩ | ⟨_,hx2⟩
    ·rw[hv]at hu'; cases hu';exact(r.w.hp.sep o _ q _ c hlm hqm (fun h=>hqo h.symm) (.arm h1 h2 hk hx3 ho hu hc) (selfq c hc')).elim
    ·exact hC.sep k l k' l' x x' u u' c hk hk' hx3 hx2 ho ho' hu hu' hc hc'
  ·rcases eN hx' with⟨rfl,rfl,rfl⟩ | ⟨_,hx'⟩
   ·rw[hv]at hu; cases hu;exact r.w.hp.sep o _ q _ b hlm hqm (fun h=>hqo h.symm) selfo (selfq b hc)
   ·exact hC.own k l x u hk hx' ho hu hc
 ·cases hf with
  | self h=>exact .inl (.self h)
  | arm q1 q2 q3 q4 q5 q6 q7=>
   rcases eN q4 with⟨rfl,rfl,rfl⟩ | ⟨_,q4⟩
   ·rw[h1]at q1;injection q1 with q1; injection q1 with q1; injection q1 with q1;subst q1;rw[h2]at q2; injection q2 with q2; injection q2 with q2;subst q2;rw[hv]at q6; cases q6;exact .inr (selfq b' q7)
   ·exact .inl (.arm q1 q2 q3 q4 q5 q6 q7)
theorem Rel.armFreeze{n:Nat}{f:Nat->List Cel}{gf:Nat->List T}{x:T}{st':St}(hl:bK st.hp o=some (.arm e s n f none))(hx:x.view=some (n,gf))(hc:∀ i,i<n->(f i).map Qa=(gf i).map some)
  (h:oS o x st=some st')(r:Rel E st a w):Rel E st' a w:=by
 obtain⟨F,g,r⟩:=r;unfold oS at h;have hlm:=aU hl;have hob:=r.w.hp.obj _ _ hlm;have hq:VR (fun b=>F b\/bG g w o (.arm e s n f none) b) g w (.t x) (g o):=.t (aIF hob hc hx);have hF:∀ b,F b->(F b\/bG g w o (.arm e s n f none) b):=fun b hb=>.inl hb;have hfr:=St.erase_fr h;have hhp:=St.erase_hp h;refine⟨fun b=>F b\/bG g w o (.arm e s n f none) b,g,r.nt,r.df.mono (fun _ h=>⟨.inl h,rfl⟩),fun t x' hx'=>?_,⟨⟨fun k y hy=>?_,fun k y b hy hb=>?_,fun k y k' y' b hy hy' hne hb hb'=>?_⟩,fun b hb=>.inl (r.w.f0 b hb),fun b hb=>?_,r.w.ext,r.w.names,r.w.b0⟩⟩
 ·obtain⟨h1,_⟩:=hfr t x' hx';simp only[dW,gQ]at h1;obtain⟨⟨t',y⟩,hy,rfl,rfl⟩:=h1;exact PV.fz_ok hF hq (r.fr t' y hy)
 ·obtain⟨x,h1,_,_,h4,_⟩:=hhp k y hy;simp only[dW,gQ]at h1;obtain⟨⟨k',z⟩,hz,rfl,rfl⟩:=h1;exact h4 _ _ _ (Hy hF hq (r.w.hp.obj k' z (bD.1 hz).1))
 ·obtain⟨x,h1,h2,_,_,h5⟩:=hhp k y hy;simp only[dW,gQ]at h1;obtain⟨⟨k',z⟩,hz,rfl,rfl⟩:=h1;obtain⟨hz1,hz2⟩:=bD.1 hz;have hb:=kC (h5 _ _ _ hb);refine⟨?_,(r.w.hp.own k' z b hz1 hb).2⟩;rintro (h | h)
  ·exact(r.w.hp.own k' z b hz1 hb).1 h
  ·exact r.w.hp.sep k' z o _ b hz1 hlm hz2 hb h
 ·obtain⟨x,h1,_,_,_,h5⟩:=hhp k y hy;obtain⟨x',h1',_,_,_,h5'⟩:=hhp k' y' hy';simp only[dW,gQ]at h1 h1';obtain⟨⟨k2,z⟩,hz,rfl,rfl⟩:=h1;obtain⟨⟨k2',z'⟩,hz',rfl,rfl⟩:=h1';exact r.w.hp.sep k2 z k2' z' b (bD.1 hz).1 (bD.1 hz').1 hne (kC (h5 _ _ _ hb)) (kC (h5' _ _ _ hb'))
 ·rcases hb with hb | hb
  ·exact r.w.f1 b hb
  ·have:=(r.w.hp.own o _ b hlm hb).2;exact⟨hb.block hob,this.elim (fun h=>.inr (.inl h)) (fun h=>.inr (.inr h))⟩
theorem uQ{f:Nat->List T}{x:Cel}(h:((f i).map Cel.d)[j]? = some x):∃ y,(f i)[j]? = some y/\x = .d y:=by rw[fD,gB]at h;obtain⟨y,hy,e⟩:=h;exact⟨y,hy,e.symm⟩
theorem Le.toArm{n:Nat}{f:Nat->List T}(hl:bK st.hp o=some (.arr e s n f)):Le E st { st with hp:=(o,.arm e s n (fun i=>(f i).map Cel.d) none)::del o st.hp }:=by
 refine Le.objF _ hl (fun F g w h=>?_) (fun g w c h=>?_)
 ·rcases h with⟨h1,h2⟩ | ⟨b,cap,cur,h1,h2,h3,h4,h5,h6,h7⟩
  ·exact .inl ⟨h1,h2,rfl⟩
  ·refine .inr ⟨b,cap,cur,h1,h2,h3,h4,h5,⟨fun i hi=>by simpa using h6 i hi,fun i j x hi hx=>?_,fun i j i' j' x x' v v' c hi hi' hx hx' ho=>?_,fun i j x v hi hx ho=>?_,fun i j p e=>by cases e⟩⟩
   ·obtain⟨y,hy,rfl⟩:=uQ (f:=f) hx;exact h7 i j y hi hy
   ·obtain⟨y,_,rfl⟩:=uQ (f:=f) hx;cases ho
   ·obtain⟨y,_,rfl⟩:=uQ (f:=f) hx;cases ho
 ·cases h with
  | self h=>exact .self h
  | arm h1 h2 h3 h4 h5 h6 h7=>obtain⟨y,_,rfl⟩:=uQ (f:=f) h4;cases h5
theorem Le.toArmE{f:Nat->List T}(f':Nat->List Cel)(hl:bK st.hp o=some (.arr e s 0 f)):Le E st { st with hp:=(o,.arm e s 0 f' none)::del o st.hp }:=by
 refine Le.objF _ hl (fun F g w h=>?_) (fun g w c h=>?_)
 ·rcases h with⟨h1,h2⟩ | ⟨b,cap,cur,h1,h2,h3,h4,h5,h6,h7⟩
  ·exact .inl ⟨h1,h2,rfl⟩
  ·exact .inr ⟨b,cap,cur,h1,h2,h3,h4,h5,⟨fun i hi=>absurd hi (jQ i),fun i j x hi=>absurd hi (jQ i),fun i j i' j' x x' v v' c hi=>absurd hi (jQ i),fun i j x v hi=>absurd hi (jQ i),fun i j p e=>by cases e⟩⟩
 ·cases h with
  | self h=>exact .self h
  | arm h1 h2 h3 h4 h5 h6 h7=>first | exact absurd h1 (jQ _) | exact absurd h2 (jQ _) | exact absurd h3 (jQ _) | exact absurd h4 (jQ _)
theorem Le.armData{n:Nat}{f:Nat->List Cel}{x:T}(hl:bK st.hp o=some (.arm e s n f (some (i,j,.t x)))):Le E st { st with hp:=(o,.arm e s n (lD f i j (.d x)) none)::del o st.hp }:=by
 refine Le.objF _ hl (fun F g w h=>?_) (fun g w c h=>?_)
 ·rcases h with⟨_,_,h⟩ | ⟨b,cap,cur,h1,h2,h3,h4,h5,hC⟩
  ·cases h
  obtain⟨hi,hx,hov⟩:=hC.ov _ _ _ rfl;obtain⟨v,hv,_⟩:=hC.cell i j _ hi hx;refine .inr ⟨b,cap,cur,h1,h2,h3,h4,h5,⟨fun k hk=>by rw[uE]; exact hC.len k hk,fun k l y hk hx'=>?_,fun k l k' l' y y' u u' c hk hk' hx1 hx2 ho ho' hu hu' hc hc'=>?_,fun k l y u hk hx' ho hu hc=>?_,fun k l p e0=>by cases e0⟩⟩
  ·rcases eN hx' with⟨rfl,rfl,rfl⟩ | ⟨_,hx'⟩
   ·exact⟨v,hv,by cases hov v hv with | t h=>exact h⟩
   ·exact hC.cell k l y hk hx'
  ·rcases eN hx1 with⟨rfl,rfl,rfl⟩ | ⟨_,hx1⟩
   ·cases ho
   ·rcases eN hx2 with⟨rfl,rfl,rfl⟩ | ⟨_,hx2⟩
    ·cases ho'
    ·exact hC.sep k l k' l' y y' u u' c hk hk' hx1 hx2 ho ho' hu hu' hc hc'
  ·rcases eN hx' with⟨rfl,rfl,rfl⟩ | ⟨_,hx'⟩
   ·cases ho
   ·exact hC.own k l y u hk hx' ho hu hc
 ·cases h with
  | self h=>exact .self h
  | arm q1 q2 q3 q4 q5 q6 q7=>
   rcases eN q4 with⟨rfl,rfl,rfl⟩ | ⟨_,q4⟩
   ·cases q5
   ·exact .arm q1 q2 q3 q4 q5 q6 q7
end
section
variable {F:Nat->Prop} {g g':Nat->Value} {w:World} {b clock ob:Nat} {es:Array MapEntry} {it:Option Iter}
theorem bG.any{m:List (T×Mem)}{kk:T}{hl:T×Option PV}{c:Nat}(h:bG g w ob (.mp it ((kk,.any)::m) none) c):bG g w ob (.mp it m (some hl)) c:=by
 cases h with
 | self h=>exact .self h
 | iter h=>exact .iter h
 | mem h1 h2 h3 h4 h5 h6 h7=>
  rcases aX.1 h4 with rfl | h4
  ·cases h6
  ·exact .mem h1 h2 h3 h4 h5 h6 h7
end
section
variable {P:Program} {E:Env} {I:Inf} {st:St} {K V:Type} [MKey K] {k:K}
end
inductive VT:Type 1 where
 | ok
 | eq {A:Type} (x:A)
 | and (x y:VT)
 | all {A:Type} (f:A->VT)
def pk(b:Bool)(x y:A):A:=match b with | true=>x | false=>y
def vt(b:Bool)(x y:A):VT:=.eq (pk b x y)
def bad(b:Bool):VT:=.eq b
theorem bH{x y:A}(h:vt true x y=vt false x y):x=y:=by injection h
theorem aP(h:bad true=bad false):False:=by injection h with _ h; cases h
theorem aO{a b c d:VT}(h:VT.and a b=VT.and c d):a=c/\b=d:=by injection h with h1 h2; exact⟨h1,h2⟩
theorem tJ{f g:A->VT}(h:VT.all f=VT.all g)(s:A):f s=g s:=by injection h with _ h; exact congrFun h s
class Cur (S:Type) where
 all:(S->VT)->VT
 ok:∀ f g,all f=all g->∀ s,f s=g s
instance (S:Type):Cur S:=⟨fun f=>.all f,fun _ _ h=>tJ h⟩
instance (A B:Type)[Cur B]:Cur (A×B):=⟨fun f=>.all fun a=>Cur.all fun b=>f (a,b),fun _ _ h s=>Cur.ok _ _ (tJ h s.1) s.2⟩
instance (A B:Type)[Cur A][Cur B]:Cur (A⊕B):=⟨fun f=>.and (Cur.all fun a=>f (.inl a)) (Cur.all fun b=>f (.inr b)),fun _ _ h s=>by
 obtain⟨h1,h2⟩:=aO h;cases s with
 | inl a=>exact Cur.ok _ _ h1 a
 | inr b=>exact Cur.ok _ _ h2 b⟩
instance:Cur Unit:=⟨fun f=>f (),fun _ _ h _=>h⟩
def part[Inhabited α](xs:List α)(lo n:Nat):List α:=(List.range n).map fun j=>xs.getD (lo+j) default
inductive Sg (α:Type) where
 | al (xs:List α)
 | pt (xs:List α) (lo n:Nat)
def Sg.n{α:Type}:Sg α->Nat | .al xs=>xs.length | .pt _ _ n=>n
def Sg.f[Inhabited α](c:α->List T):Sg α->Nat->List T | .al xs=>eF c xs | .pt xs lo _=>fun k=>eF c xs (lo+k)
def Sg.l[Inhabited α]:Sg α->List α | .al xs=>xs | .pt xs lo n=>part xs lo n
theorem Sg.ok[Inhabited α](c:α->List T)(a:Sg α):a.n=a.l.length/\∀ i,i<a.n->a.f c i=eF c a.l i:=by
 cases a with
 | al xs=>exact⟨rfl,fun _ _=>rfl⟩
 | pt xs lo n=>refine⟨by simp[Sg.n,Sg.l,part],fun i hi=>?_⟩;simp only[Sg.n]at hi;simp[Sg.f,Sg.l,part,eF,hi]
inductive Cv:Type 1 where
 | fr (o:Nat) (x:T)
 | rn (o o':Nat)
 | th (t o e s:Nat) (f:Nat->List T)
 | thc (b j o e s:Nat) (f:Nat->List T)
 | sl (t:Nat) (x:T)
 | bx (o:Nat) (l:List T)
 | ap {α:Type} [Inhabited α] (o:Nat) (c:α->List T) (xs ys:List α)
 | apl {α:Type} [Inhabited α] (o:Nat) (c:α->List T) (xs ys:List α)
 | gp {K V:Type} [MKey K] (o:Nat) (enc:V->Mem) (v:List (K×V)) (k:K)
 | fd {K V:Type} [MKey K] (o:Nat) (eD:V->T) (v:List (K×V)) (k:K) (c:V)
 | mg (o q:Nat)
 | la {α:Type} [Inhabited α] (o:Nat) (c:α->List Cel) (xs:List α)
 | apr {α:Type} [Inhabited α] (o:Nat) (c:α->List Cel) (xs ys:List α)
 | upr {α:Type} [Inhabited α] (o:Nat) (c:α->List Cel) (xs:List α) (i:Nat) (x:α) (l:List (Nat×Cel))
 | fza {α:Type} [Inhabited α] (o:Nat) (c:α->List Cel) (cW:α->List T) (xs:List α)
 | am (o:Nat)
 | ae (o:Nat) (f:Nat->List Cel)
 | mgd (o:Nat)
def Qi(x:T):Option Nat:=match x.view with | some (n,_)=>some n | none=>none
def slE(b:Bool)(n:Nat)(f:Nat->List T)(m:Nat)(g:Nat->List T):VT:=.and (vt b m n) (vt b ((List.range n).map f) ((List.range n).map g))
def gK(b:Bool):List PV->List T->VT
 | [],[]=>.ok
 | .nil::l,x::r=>.and (vt b (Qi x) (some 0)) (gK b l r)
 | .t (.sl n f)::l,.sl m g::r=>.and (slE b n f m g) (gK b l r)
 | .t (.sl n f)::l,.lz x::r=>.and (slE b n f x.len x.cells) (gK b l r)
 | p::l,x::r=>.and (vt b p (.t x)) (gK b l r)
 | _,_=>bad b
def slV(b:Bool)(p:PV)(x:T):VT:=
 match p,x with
 | .nil,x=>vt b (Qi x) (some 0)
 | .agg l,.agg r=>gK b l r
 | .t (.sl n f),.sl m g=>slE b n f m g
 | .t (.sl n f),.lz x=>slE b n f x.len x.cells
 | .fn (.func k) 0 [],.fv f=>vt b k f
 | p,x=>vt b p (.t x)
def cvS(I:Inf)(c:Cv)(st:St):Option St:=
 match c with
 | .fr o x=>oS o x st
 | .rn o o'=>grn I.N o o' st
 | .th t o e s f=>Uh I.N t o e s f st
 | .thc b j o e s f=>Gc I.N b j o e s f st
 | .sl t x=>some { st with fr:=(t,.t x)::del t st.fr }
 | .bx o l=>some { st with hp:=(o,.box (l.map .t))::del o st.hp }
 | @Cv.ap _ _ o c xs ys=>match bK st.hp o with | some (.arr e s _ _)=>some { st with hp:=(o,.arr e s (xs++ys).length (eF c (xs++ys)))::del o st.hp } | _=>none
 | @Cv.apl _ _ o c xs ys=>match bK st.hp o with | some (.arr e s _ _)=>some { st with hp:=(o,.arr e s (xs++ys).length (eF c (xs++ys)))::del o st.hp } | _=>none
 | @Cv.gp _ _ _ o enc v k=>match bK st.hp o with | some (.mp it _ _)=>some { st with hp:=(o,.mp it (eM enc (lB v k)) (some (MKey.kT k,none)))::del o st.hp } | _=>none
 | @Cv.fd _ _ _ o eD v k c=>match bK st.hp o with | some (.mp it _ _)=>some { st with hp:=(o,.mp it (eM (fun c=>.d (eD c)) (Pj v k c)) none)::del o st.hp } | _=>none
 | .mg o q=>match bK st.hp o,bK st.hp q with
  | some (.arm e s n f (some (i,j,.own q'))),some (.arr e' s' m f')=>match Nat.beq q' q with | true=>Ir o q (.arm e s n (lD f i j (.row e' s' m f')) none) st | false=>none
  | _,_=>none
 | @Cv.la _ _ o c xs=>match bK st.hp o with | some (.arm e s _ _ ov)=>some { st with hp:=(o,.arm e s xs.length (iT c xs) ov)::del o st.hp } | _=>none
 | @Cv.apr _ _ o c xs ys=>match bK st.hp o with | some (.arm e s _ _ ov)=>some { st with hp:=(o,.arm e s (xs++ys).length (iT c (xs++ys)) ov)::del o st.hp } | _=>none
 | @Cv.upr _ _ o c xs i x _=>match bK st.hp o with | some (.arm e s _ _ ov)=>some { st with hp:=(o,.arm e s (xs.set i x).length (iT c (xs.set i x)) ov)::del o st.hp } | _=>none
 | @Cv.fza _ _ o _ cW xs=>oS o (eL cW xs) st
 | .am o=>match bK st.hp o with | some (.arr e s n f)=>some { st with hp:=(o,.arm e s n (fun i=>(f i).map Cel.d) none)::del o st.hp } | _=>none
 | .ae o f=>match bK st.hp o with | some (.arr e s 0 _)=>some { st with hp:=(o,.arm e s 0 f none)::del o st.hp } | _=>none
 | .mgd o=>match bK st.hp o with | some (.arm e s n f (some (i,j,.t x)))=>some { st with hp:=(o,.arm e s n (lD f i j (.d x)) none)::del o st.hp } | _=>none
def cvV(b:Bool)(c:Cv)(st:St):VT:=
 match c with
 | @Cv.la _ _ o c xs=>match bK st.hp o with | some (.arm _ _ n f _)=>.and (vt b n xs.length) (vt b ((List.range n).map f) ((List.range n).map (iT c xs))) | _=>bad b
 | @Cv.apr _ _ o c xs ys=>match bK st.hp o with | some (.arm _ _ n f _)=>vt b (n,f) (xs.length+ys.length,qQ xs.length (iT c xs) (iT c ys)) | _=>bad b
 | @Cv.upr _ _ o c xs i x l=>match bK st.hp o with | some (.arm _ _ n f _)=>.and (vt b (n,f) (xs.length,Rr (iT c xs) i l)) (vt b (aHU (c (xs.getD i default)) l) (c x)) | _=>bad b
 | @Cv.fza _ _ o c cW xs=>match bK st.hp o with | some (.arm _ _ n f none)=>.and (vt b (n,f) (xs.length,iT c xs)) (.all fun y=>vt b ((c y).map Qa) ((cW y).map some)) | _=>bad b
 | .fr o x=>match bK st.hp o with | some (.arr _ _ n f)=>vt b (some (n,f)) x.view | _=>bad b
 | .sl t x=>match bK st.fr t with | some p=>slV b p x | none=>bad b
 | .bx o l=>match bK st.hp o with | some (.box r)=>gK b r l | _=>bad b
 | @Cv.ap _ _ o c xs ys=>match bK st.hp o with | some (.arr _ _ n f)=>vt b (n,f) (xs.length+ys.length,pD xs.length (eF c xs) (eF c ys)) | _=>bad b
 | @Cv.apl _ _ o c xs ys=>match bK st.hp o with
  | some (.arr _ s n f)=>.and (vt b (n,f) (xs.length+ys.length,pD xs.length (eF c xs) (dT (ys.flatMap c) s))) (vt b ((List.range ys.length).map (dT (ys.flatMap c) s)) ((List.range ys.length).map (eF c ys)))
  | _=>bad b
 | @Cv.gp _ _ _ o enc v _=>match bK st.hp o with | some (.mp _ m h)=>vt b (m,h) (eM enc v,none) | _=>bad b
 | @Cv.fd _ _ _ o eD v k c=>match bK st.hp o with | some (.mp _ m (some (kk,some p)))=>.and (vt b (m,kk) (eM (fun c=>.d (eD c)) (lB v k),MKey.kT k)) (slV b p (eD c)) | _=>bad b
 | _=>.ok
def cvL(I:Inf):List Cv->St->Option St
 | [],st=>some st
 | c::l,st=>match cvS I c st with | some st'=>cvL I l st' | none=>none
def aEL(I:Inf)(b:Bool):List Cv->St->VT
 | [],_=>.ok
 | c::l,st=>.and (cvV b c st) (match cvS I c st with | some st'=>aEL I b l st' | none=>bad b)
section
variable {P:Program} {E:Env} {I:Inf} {st st':St}
theorem Rd.nz{F:Nat->Prop}{w:World}{t t':T}{f f':Nat->List T}(h:Rd F w t v)(h1:t.view=some (0,f))(h2:t'.view=some (0,f')):Rd F w t' v:=by
 cases h with
 | nil _=>exact .nil h2
 | sl a cap size vs hv hc hF hs hvv hr=>rw[h1]at hv;cases hv;exact .sl a cap size vs h2 hc hF (fun i hi=>absurd hi (by omega)) (fun i j hi=>absurd hi (by omega)) (fun i j x hi=>absurd hi (by omega))
 | _=>simp[T.view]at h1
theorem dD.nz{F:Nat->Prop}{g:Nat->Value}{w:World}{o:Nat}{e:TypeId}{s n k:Nat}{f m:Nat->List T}{x:T}(hx:x.view=some (0,m))
  (h:dD F g w o (.arr e s n (rY f k [.sl 0 fun _=>[]]))):dD F g w o (.arr e s n (rY f k [x])):=by
 rcases h with h | ⟨b,cap,cur,h1,h2,h3,h4,h5,h6,h7⟩
 ·exact .inl h
 ·refine .inr ⟨b,cap,cur,h1,h2,h3,h4,h5,fun i hi=>?_,fun i j y hi hy=>?_⟩
  ·have:=h6 i hi;unfold rY at this ⊢;split <;> simp_all
  ·by_cases hik:i=k
   ·subst hik;unfold rY at hy;rw[aA rfl]at hy;have hj:j=0:=by cases j with | zero=>rfl | succ j=>simp at hy
    subst hj;simp only[List.getElem?_cons_zero,gO]at hy;subst hy;obtain⟨v,hv,hr⟩:=h7 i 0 (.sl 0 fun _=>[]) hi (by unfold rY; rw[aA rfl]; rfl);exact⟨v,hv,hr.nz rfl hx⟩
   ·exact h7 i j y hi (by unfold rY at hy ⊢; rw[aF hik]at hy ⊢; exact hy)
theorem iI{f g:Nat->α}{n:Nat}(h:(List.range n).map f=(List.range n).map g):∀ i,i<n->f i=g i:=by intro i hi;have:=congrArg (·[i]?) h;simpa[hi] using this
theorem aHC{n:Nat}{f g:Nat->List T}(h:slE true n f m g=slE false n f m g):∀ F q w v,VR F q w (.t (.sl n f)) v->VR F q w (.t (.sl m g)) v:=by unfold slE at h;obtain⟨h1,h2⟩:=aO h;exact sE rfl (bH h1) (iI (bH h2))
theorem fZ:∀ {l:List PV} {r:List T},gK true l r=gK false l r->jE l r
 | [],[],_=>.nil
 | [],_::_,h=>by simp only[gK]at h; exact(aP h).elim
 | p::l,[],h=>by cases p <;> (simp only[gK]at h; exact(aP h).elim)
 | p::l,x::r,h=>by
  cases p with
  | nil=>
   simp only[gK]at h;obtain⟨h1,h2⟩:=aO h;have h1:=bH h1;unfold Qi at h1;split at h1
   ·rename_i n f hv;cases h1;exact .empty hv (fZ h2)
   ·cases h1
  | t y=>
   cases y with
   | sl n f=>
    cases x with
    | sl m g=>simp only[gK]at h;obtain⟨h1,h2⟩:=aO h;exact .imp (aHC h1) (fZ h2)
    | lz z=>simp only[gK]at h;obtain⟨h1,h2⟩:=aO h;obtain⟨h3,h4⟩:=aO h1;exact .imp (sE (x:=.lz z) rfl (bH h3) (iI (bH h4))) (fZ h2)
    | _=>simp only[gK]at h;obtain⟨h1,h2⟩:=aO h;have h1:=bH h1;cases h1
   | _=>simp only[gK]at h;obtain⟨h1,h2⟩:=aO h;have h1:=bH h1;cases h1;exact .same (fZ h2)
  | _=>
   simp only[gK]at h;obtain⟨h1,h2⟩:=aO h;have h1:=bH h1
   first
    | (cases h1; exact .same (fZ h2))
    | (cases h1; done)
theorem bAG{F:Nat->Prop}{g:Nat->Value}{w:World}{k:Nat}(h:VR F g w (.fn (.func k) 0 []) v):VR F g w (.t (.fv k)) v:=by
 cases h with
 | @fn _ _ _ us vs hn hs _=>have h1:us=#[]:=xU hn;have h2:vs=#[]:=xU (by rw[h1]at hs; simpa using hs);subst h1 h2;exact .t (.fv k)
theorem aCH{p:PV}{x:T}(h:slV true p x=slV false p x):∀ F g w v,VR F g w p v->VR F g w (.t x) v:=by
 unfold slV at h;split at h
 ·have h:=bH h;unfold Qi at h;split at h
  ·rename_i n f hv;cases h;exact aEJ hv
  ·cases h
 ·exact Ae (fZ h)
 ·exact aHC h
 ·rename_i z;obtain⟨h3,h4⟩:=aO h;exact sE (x:=.lz z) rfl (bH h3) (iI (bH h4))
 ·have h:=bH h;subst h;exact fun _ _ _ _ hv=>bAG hv
 ·have h:=bH h;subst h;exact fun _ _ _ _ hv=>hv
theorem bAZ(hG:fF P E I){c:Cv}(h:cvV true c st=cvV false c st)(hs:cvS I c st=some st'):Le E st st':=by
 cases c with
 | fr o x=>
  simp only[cvV]at h;split at h
  ·rename_i e s n f hl;exact Le.freeze x hl (bH h).symm hs
  ·exact(aP h).elim
 | rn o o'=>exact Le.rn hG hs
 | th t o e s f=>exact Le.thaw hG hs
 | thc b j o e s f=>exact Le.thawC hG hs
 | sl t x=>
  simp only[cvV]at h;split at h
  ·rename_i p hp;cases hs;exact Le.slot (.t x) hp (aCH h)
  ·exact(aP h).elim
 | bx o l=>
  simp only[cvV]at h;split at h
  ·rename_i r hp;cases hs;exact Le.obj (.box (l.map .t)) hp (fun _ _ _=>aTO (fZ h)) rfl
  ·exact(aP h).elim
 | ap o c xs ys=>
  simp only[cvV]at h;split at h
  ·rename_i e s n f hp;simp only[cvS,hp]at hs;cases hs;have h1:=bH h;cases h1;exact Le.obj _ hp (fun _ _ _=>dD.row (by simp) (Uz c xs ys)) rfl
  ·exact(aP h).elim
 | apl o c xs ys=>
  simp only[cvV]at h;split at h
  ·rename_i e s n f hp;simp only[cvS,hp]at hs;cases hs;obtain⟨h1,h2⟩:=aO h;have h1:=bH h1;have h2:=iI (bH h2);cases h1;refine Le.obj _ hp (fun _ _ _=>dD.row (by simp) fun i hi=>?_) rfl;rw[<-Uz c xs ys i hi];unfold pD;split
   ·rfl
   ·rename_i hn;exact h2 _ (by omega)
  ·exact(aP h).elim
 | gp o enc v k=>
  simp only[cvV]at h;split at h
  ·rename_i it m ho hp;simp only[cvS,hp]at hs;cases hs;have h1:=bH h;cases h1;exact Le.gap v k hp
  ·exact(aP h).elim
 | fd o eD v k c=>
  simp only[cvV]at h;split at h
  ·rename_i it m kk p hp;simp only[cvS,hp]at hs;cases hs;obtain⟨h1,h2⟩:=aO h;have h1:=bH h1;cases h1;exact Le.filld v k c (aCH h2) hp
  ·exact(aP h).elim
 | mg o q=>
  simp only[cvS]at hs;split at hs
  ·rename_i e s n f i j q' e' s' m f' hl hq;split at hs
   ·rename_i hqq;have hqq:=cJ hqq;subst hqq;exact Le.armMerge hl hq hs
   ·cases hs
  ·cases hs
 | la o c xs=>
  simp only[cvV]at h;split at h
  ·rename_i e s n f ov hl;simp only[cvS,hl]at hs;cases hs;obtain⟨h1,h2⟩:=aO h;exact Le.armN hl (bH h1) (iI (bH h2))
  ·exact(aP h).elim
 | apr o c xs ys=>
  simp only[cvV]at h;split at h
  ·rename_i e s n f ov hl;simp only[cvS,hl]at hs;cases hs;have h1:=bH h;cases h1;exact Le.armN hl (by simp) (aQZ c xs ys)
  ·exact(aP h).elim
 | upr o c xs i x l=>
  simp only[cvV]at h;split at h
  ·rename_i e s n f ov hl;simp only[cvS,hl]at hs;cases hs;obtain⟨h1,h2⟩:=aO h;have h1:=bH h1;cases h1;exact Le.armN hl (by simp) (aOU (bH h2))
  ·exact(aP h).elim
 | fza o c cW xs=>
  simp only[cvV]at h;split at h
  ·rename_i e s n f hl;obtain⟨h1,h2⟩:=aO h;have h1:=bH h1;cases h1;exact fun _ _ r=>Rel.armFreeze (gf:=eF cW xs) hl rfl (fun i _=>bH (tJ h2 (xs.getD i default))) hs r
  ·exact(aP h).elim
 | am o=>
  simp only[cvS]at hs;split at hs
  ·rename_i e s n f hl;cases hs;exact Le.toArm hl
  ·cases hs
 | ae o f=>
  simp only[cvS]at hs;split at hs
  ·rename_i e s f0 hl;cases hs;exact Le.toArmE f hl
  ·cases hs
 | mgd o=>
  simp only[cvS]at hs;split at hs
  ·rename_i e s n f i j x hl;cases hs;exact Le.armData hl
  ·cases hs
theorem aDU(hG:fF P E I):∀ {l:List Cv} {st st':St},aEL I true l st=aEL I false l st->cvL I l st=some st'->Le E st st'
 | [],st,st',_,hs=>by cases hs; exact .refl
 | c::l,st,st',h,hs=>by
  simp only[aEL]at h;simp only[cvL]at hs;obtain⟨h1,h2⟩:=aO h;split at hs
  ·rename_i st1 h3;rw[h3]at h2;exact(bAZ hG h1 h3).trans (aDU hG h2 hs)
  ·cases hs
end
section
variable {P:Program} {E:Env} {I:Inf} {Q:gL} {st st':St}
theorem Ui(hG:fF P E I){L N nw:List Nat}{H':Hp}{F F':Nat->Prop}{g g':Nat->Value}{a:Act}{w w':World}{res:PV}{nt:Nat}(hpick:iO st.hp L=some Hs)(hfresh:jC st L I.N nw=true)
  (r:cL E F g st a w)(hW:nC { w0:=w,F0:=F,B0:=Own g w Hs,g0:=g,N:=N,nt:=nt } F' g' H' w')(hv:VR F' g' w' res v)(hback:jP res H' (N++nw)=true):
  ∃ g2,(∀ b,F b->F' b/\w'.heap[b]? = w.heap[b]?)/\(∀ t y,(t,y)∈st.fr->∀ o,o∈y.names->g2 o=g o)/\nC E F' g2 (H'++gP st.hp L) w'/\VR F' g2 w' res v /\
   ∀ b,Own g2 w' (H'++gP st.hp L) b->Own g' w' H' b\/Own g w st.hp b:=by
 have hHs:=jS hpick;have hext:=hW.ext;simp only[jC,cP,dQ,lU]at hfresh;obtain⟨⟨hfr,hrest⟩,hN⟩:=hfresh;simp only[jP,cP,dQ]at hback;obtain⟨hbr,hbH⟩:=hback;let g2:Nat->Value:=fun o=>if inN o nw=true then g' o else g o
 have hold:∀ o,o∉nw->g2 o=g o:=fun o ho=>aF (fun h=>ho (dE.1 h));have hnew:∀ o,o∈N++nw->g2 o=g' o:=by
  intro o ho;show (if inN o nw=true then g' o else g o)=g' o;split
  ·rfl
  ·rename_i h;rcases dZ.1 ho with ho | ho
   ·exact(hW.names o ho).symm
   ·exact absurd (dE.2 ho) h
 have hown:∀ b,Own g w Hs b->b<w.heap.size/\¬ F b:=by rintro b ⟨o,x,hx,hb⟩;exact⟨hb.block (r.w.hp.obj o x (hHs _ hx).1),(r.w.hp.own o x b (hHs _ hx).1 hb).1⟩
 have hblk:∀ b,b<w.heap.size->¬ Own g w Hs b->w'.heap[b]? = w.heap[b]?:=fun b hb hB=>hext.block b hb hB;have hFF:∀ b,F b->F' b/\w'.heap[b]? = w.heap[b]?:=fun b hb=>⟨hW.f0 b hb,hblk b (r.w.f1 b hb).1 (fun h=>(hown b h).2 hb)⟩;have hnotown:∀ o x b,(o,x)∈gP st.hp L->bG g w o x b->¬ Own g w Hs b:=by rintro o x b hx hb ⟨o',x',hx',hb'⟩;obtain⟨h1,h2⟩:=dF hx;exact r.w.hp.sep o x o' x' b h1 (hHs _ hx').1 (fun e=>h2 (e▸(hHs _ hx').2)) hb hb'
 have hrn:∀ o x,(o,x)∈gP st.hp L->o∉nw:=fun o x hx hm=>by have:=(hrest _ hx).1;rw[dE.2 hm]at this; cases this
 have ftH:∀ o x b,(o,x)∈H'->bG g2 w' o x b->bG g' w' o x b:=fun o x b hx hb=>by have hh:=hbH _ hx;exact hb.mono (hnew o (dE.1 hh.1)) (fun o' ho'=>hnew o' (nU hh.2 o' ho')) (fun _ _=>rfl)
 have ftR:∀ o x b,(o,x)∈gP st.hp L->bG g2 w' o x b->bG g w o x b:=fun o x b hx hb=>
  hb.mono (hold o (hrn o x hx)) (fun o' ho'=>hold o' (jI (hrest _ hx).2 o' ho'))
   (fun c hc=>hblk c ((r.w.hp.obj o x (dF hx).1).block hc) (hnotown o x c hx (.self hc)))
 refine⟨g2,hFF,fun t y hy o ho=>hold o (jI (hfr _ hy) o ho),?_,hv.mono (fun b hb=>⟨hb,rfl⟩) (fun o ho=>hnew o (nU hbr o ho)),?_⟩
 rotate_left
 ·rintro b ⟨o,x,hx,hb⟩;rcases dZ.1 hx with hx | hx
  ·exact .inl ⟨o,x,hx,ftH o x b hx hb⟩
  ·exact .inr ⟨o,x,(dF hx).1,ftR o x b hx hb⟩
 refine⟨⟨fun o x hx=>?_,fun o x b hx hb=>?_,fun o x o' y b hx hy hne hb hb'=>?_⟩,fun b hb=>(hFF b (r.w.f0 b hb)).1,fun b hb=>⟨(hW.f1 b hb).1,?_⟩,?_,fun o ho=>?_,r.w.b0⟩
 ·rcases dZ.1 hx with hx | hx
  ·have hh:=hbH _ hx;exact(hW.hp.obj o x hx).mono (fun b hb=>⟨hb,rfl⟩) (hnew o (dE.1 hh.1)) (fun o' ho'=>hnew o' (nU hh.2 o' ho')) (fun _ _=>rfl)
  ·exact(r.w.hp.obj o x (dF hx).1).mono hFF (hold o (hrn o x hx)) (fun o' ho'=>hold o' (jI (hrest _ hx).2 o' ho'))
    (fun b hb=>hblk b (hb.block (r.w.hp.obj o x (dF hx).1)) (hnotown o x b hx hb))
 ·rcases dZ.1 hx with hx | hx
  ·have hb:=ftH o x b hx hb;refine⟨(hW.hp.own o x b hx hb).1,?_⟩;rcases (hW.hp.own o x b hx hb).2 with⟨o',x',hx',hb'⟩ | h
   ·exact(r.w.hp.own o' x' b (hHs _ hx').1 hb').2
   ·exact .inr (gV r.w.ext.size h)
  ·have hb:=ftR o x b hx hb;have hlt:=hb.block (r.w.hp.obj o x (dF hx).1);have hh:=r.w.hp.own o x b (dF hx).1 hb;refine⟨fun hF'=>?_,hh.2⟩;rcases (hW.f1 b hF').2 with h | h | h
   ·exact hh.1 h
   ·exact hnotown o x b hx hb h
   ·exact absurd hlt (Nat.not_lt.2 h)
 ·have key:∀ o x o' y b,(o,x)∈H'->(o',y)∈gP st.hp L->bG g2 w' o x b->bG g2 w' o' y b->False:=by
   intro o x o' y b hx hy hb hb';have hb:=ftH o x b hx hb;have hb':=ftR o' y b hy hb';rcases (hW.hp.own o x b hx hb).2 with h | h
   ·exact hnotown o' y b hy hb' h
   ·exact absurd (hb'.block (r.w.hp.obj o' y (dF hy).1)) (Nat.not_lt.2 h)
  rcases dZ.1 hx with hx | hx
  ·rcases dZ.1 hy with hy | hy
   ·exact hW.hp.sep o x o' y b hx hy hne (ftH o x b hx hb) (ftH o' y b hy hb')
   ·exact key o x o' y b hx hy hb hb'
  ·rcases dZ.1 hy with hy | hy
   ·exact key o' y o x b hy hx hb' hb
   ·exact r.w.hp.sep o x o' y b (dF hx).1 (dF hy).1 hne (ftR o x b hx hb) (ftR o' y b hy hb')
 ·rcases (hW.f1 b hb).2 with h | h | h
  ·exact(r.w.f1 b h).2
  ·obtain⟨o',x',hx',hb'⟩:=h;rcases (r.w.hp.own o' x' b (hHs _ hx').1 hb').2 with h | h
   ·exact .inr (.inl h)
   ·exact .inr (.inr h)
  ·exact .inr (.inr (gV r.w.ext.size h))
 ·refine r.w.ext.trans hext.os hext.tape hext.output hext.size (fun b hb hB=>hblk b (by have:=r.w.ext.size; omega) ?_);rintro⟨o',x',hx',hb'⟩;rcases (r.w.hp.own o' x' b (hHs _ hx').1 hb').2 with h | h
  ·exact hB h
  ·exact absurd hb (Nat.not_lt.2 h)
 ·rw[hold o (fun hm=>jI hN o (by rw[<-hG.N]; exact ho) hm)];exact r.w.names o ho
def vV(t:TypeId):List PanicEntry:=[{ v:=.iface t (.agg #[]),recovered:=false }]
def zC(P:Program)(k:FuncId)(args:List PV)(H:Hp)(N:List Nat)(Q:PV->Hp->Prop)(tr:TypeId)(pan:Prop):Prop:=
 ∀ (F:Nat->Prop) (g:Nat->Value) (w:World) (vs:Array Value),vs.size=args.length->(∀ (j:Nat) x v,args[j]? = some x->vs[j]? = some v->VR F g w x v) ->
  HpR F g w (fun _=>True) H->(∀ b,F b->b<w.heap.size)->GLP P F w ->
  Calls P k vs w fun e w'=>(∃ v r H' F' g',e = .returned v/\Q r H'/\VR F' g' w' r v/\nC { w0:=w,F0:=F,B0:=Own g w H,g0:=g,N:=N,nt:=0 } F' g' H' w') \/
   (pan/\e = .panicked (vV tr)/\∃ F' g',nC { w0:=w,F0:=F,B0:=Own g w H,g0:=g,N:=N,nt:=0 } F' g' [] w')
theorem aFO(hG:fF P E I){ops:List Oper}{o:Oper}{c:Call}{f:Operand}{k d nf:Nat}{caps aps bps:List PV}{Qc:PV->Hp->Prop}(L N nw:List Nat)
  (hop:o.op = .call c)(hcal:c.callee = .value f)(hd:o.dst=some d)(hw:cQ ops o st=some true)(hnt:Nat.blt d I.nt=true)
  (hf:ev st f=some (.fn (.func k) nf caps))(hargs:hU st c.args.toList=some aps)(hk:fQ P k)(has:jT st [] (caps.take nf++aps++caps.drop nf) bps)
  (hpick:iO st.hp L=some Hs)(hfresh:jC st L I.N nw=true)(hcall:zC P k bps Hs N Qc tr pan)
  {K:Act->World->Prop}{a:Act}{w:World}(r:Rel E st a w)(hpan:pan->∃ t,Le E { fr:=st.fr,hp:=gP st.hp L } t/\Q (.panic (vV tr)) t)
  (hres:∀ r H',Qc r H'->jP r H' (N++nw)=true/\∀ a' w',Rel E (({ fr:=st.fr,hp:=H'++gP st.hp L }:St).put d r) a' w'->K a' w'):
  if Region.wanted o (yielded ops.toArray a.tmps) then o.wp P a w K (nH E Q) else K (a.put o.dst undef) w:=by
 obtain⟨F,g,r⟩:=r;have hwt:=fU (ops:=ops.toArray) r (by simpa using hw);obtain⟨hl1,hr1⟩:=oC r _ _ hargs;have hfv:=bW r hf;obtain⟨fv,hfe⟩:∃ u,a.eval f=u:=⟨_,rfl⟩;rw[hfe]at hfv;have hHs:=jS hpick;cases hfv with
 | @fn _ _ _ us vs hn hs hr=>
  subst hn;rw[aA hwt];unfold Oper.wp;have hrun:(execOp a.eval o).run P w = .ok (.enter k (us++(c.args.map a.eval)++vs)) w:=by unfold execOp;simp[hop,resolve,hcal,hfe,Deferred.ofValue,invoke,oQ hk]
  rw[hrun];have hcallW:=hcall F g w (us++c.args.map a.eval++vs) (by
    have:=has.get.1;simp only[cZ,dM,fI]at this;have h2:c.args.size=aps.length:=by simpa using hl1.symm
    simp only[jO]at hs;simp only[jO,Array.size_map]; omega) (fun j q v hq hv=>by
    obtain⟨p,hp,hpq⟩:=has.get.2 j q hq;have hpv:VR F g w p v:=by
     have h2:c.args.size=aps.length:=by simpa using hl1.symm
     have hus:us.size<=caps.length:=by simp at hs; omega
     have htk:(caps.take us.size).length=us.size:=by simp; omega
     by_cases hi:j<us.size
     ·rw[gX,eT (by omega),Cc hi]at hp;rw[sH,kO hi]at hv;exact hr j p v hp (by rw[kO hi]; exact hv)
     rw[gX,eH (by omega),htk]at hp;rw[sH,qS (by omega)]at hv;by_cases hj:j-us.size<aps.length
     ·rw[eT hj]at hp;rw[kO (by simp; omega)]at hv;exact hr1 _ p v hp (by simpa using hv)
     ·rw[eH (by omega),iD]at hp;rw[qS (by simp; omega)]at hv;refine hr (us.size+(j-us.size-aps.length)) p v hp ?_;rw[qS (by omega)];simpa[h2] using hv
    cases hpq with
    | same=>exact hpv
    | nil hx=>cases hpv; exact .t (.nil hx)
    | imp h=>exact h _ _ _ _ hpv
    | lend ho=>simp at ho
    | lendA ho=>simp at ho)
   ⟨fun o x hx=>r.w.hp.obj o x (hHs _ hx).1,fun o x b hx hb=>⟨(r.w.hp.own o x b (hHs _ hx).1 hb).1,trivial⟩,
    fun o x o' y b hx hy=>r.w.hp.sep o x o' y b (hHs _ hx).1 (hHs _ hy).1⟩ (fun b hb=>(r.w.f1 b hb).1) (hG.glw r.w)
  simp only[Oper.upon];refine hcallW.mono ?_;rintro e w' (⟨v,res,H',F',g',rfl,hQ,hv,hW⟩ | ⟨hp,rfl,F',g',hW⟩)
  ·obtain⟨hback,hgo⟩:=hres res H' hQ;refine hgo _ _ ?_;rw[hd];obtain⟨g2,hFF,hnm,hR,hv2,-⟩:=Ui hG hpick hfresh r hW hv hback;exact⟨F',g2,r.putW (st':={ fr:=st.fr,hp:=H'++gP st.hp L }) (by rw[hG.nt]; simpa[fE] using hnt) hFF (fun t y hy=>⟨hy,hnm t y hy⟩) hR hv2⟩
  ·obtain⟨g2,hFF,hnm,hR,-,-⟩:=Ui hG (res:=.np) (v:=.pointer none) hpick hfresh r hW .np rfl;obtain⟨t,ht,hq⟩:=hpan hp;exact⟨t,hq,nofun,ht _ _ ⟨F',g2,r.nt,r.df.mono hFF,fun t x hx=>(r.fr t x hx).mono hFF fun o ho=>hnm t x hx o ho,hR⟩⟩
theorem Qv(hG:fF P E I){ops l:List Oper}{o:Oper}{rest:List Oper}{c:Call}{f:Operand}{k d nf:Nat}{caps aps bps:List PV}{Qc:PV->Hp->Prop}(L N nw:List Nat)
  (hl:l=o::rest)(hop:o.op = .call c)(hcal:c.callee = .value f)(hd:o.dst=some d)(hw:cQ ops o st=some true)(hnt:Nat.blt d I.nt=true)
  (hf:ev st f=some (.fn (.func k) nf caps))(hargs:hU st c.args.toList=some aps)(hk:fQ P k)(has:jT st [] (caps.take nf++aps++caps.drop nf) bps)
  (hpick:iO st.hp L=some Hs)(hfresh:jC st L I.N nw=true)(hcall:zC P k bps Hs N Qc tr pan)(hpan:pan->∃ t,Le E { fr:=st.fr,hp:=gP st.hp L } t/\Q (.panic (vV tr)) t)
  (hres:∀ r H',Qc r H'->jP r H' (N++nw)=true/\fR P E ops Q rest (({ fr:=st.fr,hp:=H'++gP st.hp L }:St).put d r)):fR P E ops Q l st:=by
 subst hl;intro a w r;refine wpList_step fun K hK=>aFO hG L N nw hop hcal hd hw hnt hf hargs hk has hpick hfresh hcall r hpan fun r H' hq=>⟨(hres r H' hq).1,fun a' w' r'=>hK _ _ ((hres r H' hq).2 a' w' r')⟩
def bAF(I:Inf)(rs:List ResultVar)(Q:PV->Hp->Prop)(tr:TypeId)(pan:Prop):gL:=fun e st=>((e = .normal\/e = .ret)/\∃ r L H,yC I rs st=some r/\iO st.hp L=some H/\Q r H)\/(pan/\e = .panic (vV tr))
theorem Zp{k:FuncId}{fn:Func}{c:Code}{args:List PV}{H:Hp}{Q:PV->Hp->Prop}(hf:P.funcs[k]? = some fn)(hb:fn.body=some c)(hI:kL P I.ti)(hnt:fn.ntmps=I.nt)(htop:I.top=false)(hx:∀ F g w B,I.fx F g w B)
  (hl:args.length<=I.nt)(h:∀ E,fF P E I->pwp P E c (bAF I fn.results.toList Q tr pan) ⟨fL args 0,H⟩):zC P k args H I.N Q tr pan:=by
 intro F g w vs hs hvs hH hF hgl;refine(callsIn_wide (n:=0)).1 (callsIn_of_wp_marks (F:=Fence.wide) hf hb trivial ?_);have hG:fF P { w0:=w,F0:=F,B0:=Own g w H,g0:=g,N:=I.N,nt:=I.nt,mkA:=false } I:=
  ⟨fun e=>(by rw[htop]at e; cases e),hI,rfl,rfl,hgl,fun b hb=>⟨fun⟨o,x,h1,h2⟩=>(hH.own o x b h1 h2).1 hb,hF b hb⟩,hx _ _ _ _,fun e=>(by rw[htop]at e; cases e),fun _ _ h=>h⟩
 refine wpIn_mono (h _ hG (.inl rfl) _ _ ⟨F,g,?_,⟨fun d hd=>by simp at hd,.nil,fun _ h=>h.elim⟩,?_,⟨⟨hH.obj,fun o x b hx hb=>⟨(hH.own o x b hx hb).1,.inl ⟨o,x,hx,hb⟩⟩,hH.sep⟩,fun _ h=>h,fun b hb=>⟨hF b hb,.inl hb⟩,
  ⟨rfl,rfl,rfl,fK _,fun _ _ _=>rfl⟩,fun _ _=>rfl,fun b ⟨o,x,hx,hb⟩=>hb.block (hH.obj o x hx)⟩⟩) ?_
 ·simp only[jO,Kj]; omega
 ·intro t x hx;obtain⟨j,rfl,hj⟩:=oX hx;have hlt:j<vs.size:=by rw[hs]; exact(eK.1 hj).1
  have:(vs++Array.replicate (fn.ntmps-vs.size) undef).getD (0+j) undef=vs[j]:=by simp[Array.getD,hlt];omega
  rw[this];exact hvs j x vs[j] hj (by simp[hlt])
 ·rintro e a' w' ⟨st,hfin,_,F',g',hrel⟩;have hd0:a'.defers=[]:=by
   refine Ij.2 fun d hd=>?_;rcases hrel.df.ok d hd with h | ⟨h,_⟩
   ·exact h
   ·cases h
  rcases hfin with⟨he,r,L,H1,hr,hL,hq⟩ | ⟨hp,rfl⟩
  ·obtain⟨v,hv1,hv2⟩:=Em hI hrel hr;have:LeavesInM Fence.wide 0 P fn a'.tmps (fun (e:Ending) w'=>(∃ v r H' F' g',e = .returned v/\Q r H'/\VR F' g' w' r v/\nC { w0:=w,F0:=F,B0:=Own g w H,g0:=g,N:=I.N,nt:=0 } F' g' H' w') \/
     (pan/\e = .panicked (vV tr)/\∃ F' g',nC { w0:=w,F0:=F,B0:=Own g w H,g0:=g,N:=I.N,nt:=0 } F' g' [] w')) a'.defers .returning w':=by
    rw[hd0];exact⟨v,hv1,.inl ⟨v,r,H1,F',g',rfl,hq,hv2,⟨hrel.w.hp.sub fun e he=>(jS hL e he).1,hrel.w.f0,hrel.w.f1,hrel.w.ext,hrel.w.names,hrel.w.b0⟩⟩⟩
   rcases he with rfl | rfl
   ·exact this
   ·exact this
  ·show LeavesInM Fence.wide 0 P fn a'.tmps _ a'.defers (.panicking (vV tr)) w';rw[hd0];exact .inr ⟨hp,rfl,F',g',⟨hrel.w.hp.sub fun e he=>(by cases he),hrel.w.f0,hrel.w.f1,hrel.w.ext,hrel.w.names,hrel.w.b0⟩⟩
end
structure Con (P:Program)(k:Nat)(args:List PV){R:Type}(x:Option R)(ret:R->PV):Prop where
 c:fQ P k
 h:∀ y,x=some y->fV P k args [] [] (Ret (ret y))
structure cO (P:Program)(k:Nat)(args:List PV)(Hs:Hp)(N:List Nat){R:Type}(x:Option R)(ret:R->PV)(Ht:R->Hp):Prop where
 c:fQ P k
 h:∀ y,x=some y->fV P k args Hs N (pY (ret y) (Ht y))
structure oL (P:Program)(k:Nat)(args:List PV)(Hs:Hp)(N:List Nat){R:Type}(x:Option (Option R))(ret:R->PV)(Ht:R->Hp)(tr:TypeId):Prop where
 c:fQ P k
 h:∀ y,x=some y->zC P k args Hs N (fun r H'=>∃ z,y=some z/\r=ret z/\H'=Ht z) tr (y=none)
def eA(s:ByteArray):List Int:=s.data.toList.map fun b=>(b.toNat:Int)
inductive Tr (P:Program):Type->Type 1 where
 | ret {Y:Type} (n:Nat) (y:Y):Tr P Y
 | ite {Y:Type} (n:Nat) (c:Bool) (t e:Tr P Y):Tr P Y
 | grd {Y:Type} (n:Nat) (p:Prop) [Decidable p] (t:Tr P Y):Tr P Y
 | gd {Y:Type} (n:Nat) (p:Prop) (h:p) (t:Tr P Y):Tr P Y
 | cv {Y:Type} (n:Nat) (l:List Cv) (t:Tr P Y):Tr P Y
 | no {Y:Type}:Tr P Y
 | ca {Y R:Type} (n:Nat) {k:Nat} {bps:List PV} {x:Option R} {ret:R->PV} (h:Con P k bps x ret) (B:R->Tr P Y):Tr P Y
 | ch {Y R:Type} [Cur R] (n:Nat) {k:Nat} {bps:List PV} {Hs:Hp} {N:List Nat} {x:Option R} {ret:R->PV} {Ht:R->Hp} (nw:List Nat) (h:cO P k bps Hs N x ret Ht) (B:R->Tr P Y):Tr P Y
 | jn {Y S:Type} [Cur S] (n m:Nat) (tm:S->St) (A:Tr P S) (B:S->Tr P Y):Tr P Y
 | cz {Y R:Type} [Cur R] (n:Nat) {k:Nat} {bps:List PV} {Hs:Hp} {N:List Nat} {x:Option (Option R)} {ret:R->PV} {Ht:R->Hp} {tr:TypeId} (nw:List Nat) (h:oL P k bps Hs N x ret Ht tr) (z:Y) (B:R->Tr P Y):Tr P Y
 | hk {Y A:Type} [Cur A] (n m:Nat) (I0:Inf) (g0:Cfg) (st1:St) {x:Option A} (st2:A->St) (h:∀ y,x=some y->∀ E,fF P E I0->cwp P E g0 (fun e s=>e = .normal/\Le E s (st2 y)) st1) (B:A->Tr P Y):Tr P Y
 | pc {Y S:Type} [Cur S] (n m:Nat) (tm:S->St) (A:Tr P (S⊕Y)) (B:S->Tr P Y):Tr P Y
 | lp {Y S R:Type} [Cur S] [Cur R] (n:Nat) (tm:S->St) (bt:R->St) (ex:Nat) (s0:S) (L:S->Tr P (S⊕(R⊕Y))) (B:R->Tr P Y):Tr P Y
 | sp {Y:Type} (n:Nat) (t:Nat) (r m:Int) (a e:Tr P Y):Tr P Y
 | spc {Y:Type} (n o j:Nat) (r m:Int) (a e:Tr P Y):Tr P Y
 | slc {Y α:Type} [Inhabited α] (n:Nat) (t:Nat) (c:α->List T) (xs:List α) (lo hi:Int) (k:Tr P Y):Tr P Y
 | sto {Y α:Type} [Inhabited α] (n:Nat) (o:Nat) (c:α->List T) (xs:List α) (l:List (Nat×α)) (k:Tr P Y):Tr P Y
 | cut {Y α:Type} [Inhabited α] (n:Nat) (c:α->List T) (xs:List α) (hi:Int) (k:Tr P Y):Tr P Y
 | apz {Y α:Type} [Inhabited α] (n:Nat) (c:α->List T) (byt:Nat) (m:Int) (k:Tr P Y):Tr P Y
 | abl {Y:Type} (n:Nat) (e:Nat) (k:Tr P Y):Tr P Y
 | bs {Y α:Type} [Inhabited α] (n:Nat) (own:Bool) (c:α->List T) (xs:List α) (t:Tr P Y):Tr P Y
 | cb {Y:Type} (n:Nat) (s:ByteArray) (k:Tr P Y):Tr P Y
 | dfr {Y:Type} (n:Nat) {f:Nat} (h:∀ cap,lS P { target:=.fn (.func f) cap,args:=#[] }) (k:Tr P Y):Tr P Y
 | ndb {Y:Type} (n m:Nat) (a e:Tr P Y):Tr P Y
 | dc {Y R:Type} (j:Nat) (as:List PV) {k:Nat} {bps:List PV} {x:Option R} {ret:R->PV} (h:Con P k bps x ret) (B:R->Tr P Y):Tr P Y
 | dch {Y R:Type} (j:Nat) (as:List PV) {k:Nat} {bps:List PV} {Hs:Hp} {N:List Nat} {x:Option R} {ret:R->PV} {Ht:R->Hp} (h:cO P k bps Hs N x ret Ht) (ch:R->Option (Nat×bA)) (B:R->Tr P Y):Tr P Y
 | dl {Y:Type} (j:Nat) (c:Bool) (t e:Tr P Y):Tr P Y
 | dg {Y:Type} (j:Nat) (p:Prop) [Decidable p] (t:Tr P Y):Tr P Y
 | dr {Y:Type} (n e:Nat) (ol:OL) (ts:List Nat) (t:Tr P Y):Tr P Y
 | mk {Y K V:Type} [MKey K] (n:Nat) (enc:V->Mem) (t:Tr P Y):Tr P Y
 | foc {Y α:Type} [Inhabited α] (n o q i j:Nat) (c:α->List Cel) (xs:List α) (t:Tr P Y):Tr P Y
 | dcn {Y R:Type} (j d:Nat) (as:List PV) {k:Nat} {bps:List PV} {Hs:Hp} {N:List Nat} {x:Option R} {ret:R->PV} {Ht:R->Hp} (h:cO P k bps Hs N x ret Ht) (B:R->Tr P Y):Tr P Y
 | dap {Y:Type} (j:Nat) {n:Nat} {f:Nat->List T} {x:T} (h:∀ F g w v,VR F g w (.t (.sl n f)) v->VR F g w (.t x) v) (t:Tr P Y):Tr P Y
 | upd {Y K V:Type} [MKey K] (n:Nat) (enc:V->Mem) (v:List (K×V)) (k:K) (t:Tr P Y):Tr P Y
def sel{S Y β:Type _}(f:S->β)(g:Y->β):S⊕Y->β
 | .inl v=>f v
 | .inr y=>g y
def zX{R β:Type _}(z:β)(f:R->β):Option R->β
 | none=>z
 | some r=>f r
namespace Tr
variable {P:Program}
variable {R S Y:Type}
noncomputable def den:{Y:Type}->Tr P Y->Option Y
 | _,.ret _ y=>some y
 | _,.ite _ c t e=>if c=true then t.den else e.den
 | _,@grd _ _ _ p _ t=>if p then t.den else none
 | _,.gd _ _ _ t=>t.den
 | _,.cv _ _ t=>t.den
 | _,.no=>none
 | _,@ca _ _ _ _ _ _ x _ _ B=>x.bind fun r=>(B r).den
 | _,@hk _ _ _ _ _ _ _ _ _ x _ _ B=>x.bind fun r=>(B r).den
 | _,@cz _ _ _ _ _ _ _ _ _ x _ _ _ _ _ z B=>x.bind (zX (some z) fun r=>(B r).den)
 | _,@ch _ _ _ _ _ _ _ _ _ x _ _ _ _ B=>x.bind fun r=>(B r).den
 | _,@jn _ _ _ _ _ _ _ A B=>A.den.bind fun v=>(B v).den
 | _,@pc _ _ _ _ _ _ _ A B=>A.den.bind (sel (fun v=>(B v).den) some)
 | _,@lp _ _ _ _ _ _ _ _ _ _ s0 L B=>(cB (fun s=>(L s).den) s0).bind (sel (fun r=>(B r).den) some)
 | _,.sp _ _ r m a e=>if r=m then a.den else e.den
 | _,.spc _ _ _ r m a e=>if r=m then a.den else e.den
 | _,@slc _ _ _ _ _ _ _ xs lo hi k=>if 0<=lo/\lo<=hi/\hi<=(xs.length:Int) then k.den else none
 | _,@sto _ _ _ _ _ _ _ xs l k=>if (l.all fun p=>decide (p.1<xs.length))=true then k.den else none
 | _,@cut _ _ _ _ _ _ xs hi k=>if 0<=hi/\hi<=(xs.length:Int) then k.den else none
 | _,@apz _ _ _ _ _ _ byt m k=>if 0<=m/\m.toNat*byt<=140737488355328 then k.den else none
 | _,.abl _ _ k=>k.den
 | _,@bs _ _ _ _ _ _ _ _ t=>t.den
 | _,.cb _ _ k=>k.den
 | _,.dfr _ _ k=>k.den
 | _,.ndb _ _ _ _=>none
 | _,@dc _ _ _ _ _ _ _ x _ _ B=>x.bind fun r=>(B r).den
 | _,@dch _ _ _ _ _ _ _ _ _ x _ _ _ _ B=>x.bind fun r=>(B r).den
 | _,.dl _ c t e=>if c=true then t.den else e.den
 | _,@dg _ _ _ p _ t=>if p then t.den else none
 | _,.dr _ _ _ _ t=>t.den
 | _,@mk _ _ _ _ _ _ _ t=>t.den
 | _,@foc _ _ _ _ _ _ _ i _ _ xs t=>if i<xs.length then t.den else none
 | _,@dcn _ _ _ _ _ _ _ _ _ _ x _ _ _ B=>x.bind fun r=>(B r).den
 | _,.dap _ _ t=>t.den
 | _,@upd _ _ _ _ _ _ _ _ _ t=>t.den
def LoopT(b:S->(S⊕R->Prop)->Prop)(Q:R->Prop)(s:S):Prop:=∀ X:S->Prop,(∀ s,b s (sel X Q)->X s)->X s
def wpT:{Y:Type}->Tr P Y->(Y->Prop)->Prop
 | _,.ret _ y,Q=>Q y
 | _,.ite _ c t e,Q=>if c=true then t.wpT Q else e.wpT Q
 | _,@grd _ _ _ p _ t,Q=>p/\t.wpT Q
 | _,.gd _ _ _ t,Q=>t.wpT Q
 | _,.cv _ _ t,Q=>t.wpT Q
 | _,.no,_=>False
 | _,@ca _ _ _ _ _ _ x _ _ B,Q=>∃ r,x=some r/\(B r).wpT Q
 | _,@hk _ _ _ _ _ _ _ _ _ x _ _ B,Q=>∃ r,x=some r/\(B r).wpT Q
 | _,@cz _ _ _ _ _ _ _ _ _ x _ _ _ _ _ z B,Q=>∃ r,x=some r/\zX (Q z) (fun r=>(B r).wpT Q) r
 | _,@ch _ _ _ _ _ _ _ _ _ x _ _ _ _ B,Q=>∃ r,x=some r/\(B r).wpT Q
 | _,@jn _ _ _ _ _ _ _ A B,Q=>A.wpT fun v=>(B v).wpT Q
 | _,@pc _ _ _ _ _ _ _ A B,Q=>A.wpT (sel (fun v=>(B v).wpT Q) Q)
 | _,@lp _ _ _ _ _ _ _ _ _ _ s0 L B,Q=>LoopT (fun s Z=>(L s).wpT Z) (sel (fun r=>(B r).wpT Q) Q) s0
 | _,.sp _ _ r m a e,Q=>if r=m then a.wpT Q else e.wpT Q
 | _,.spc _ _ _ r m a e,Q=>if r=m then a.wpT Q else e.wpT Q
 | _,@slc _ _ _ _ _ _ _ xs lo hi k,Q=>(0<=lo/\lo<=hi/\hi<=(xs.length:Int))/\k.wpT Q
 | _,@sto _ _ _ _ _ _ _ xs l k,Q=>(l.all fun p=>decide (p.1<xs.length))=true/\k.wpT Q
 | _,@cut _ _ _ _ _ _ xs hi k,Q=>(0<=hi/\hi<=(xs.length:Int))/\k.wpT Q
 | _,@apz _ _ _ _ _ _ byt m k,Q=>(0<=m/\m.toNat*byt<=140737488355328)/\k.wpT Q
 | _,.abl _ _ k,Q=>k.wpT Q
 | _,@bs _ _ _ _ _ _ _ _ t,Q=>t.wpT Q
 | _,.cb _ _ k,Q=>k.wpT Q
 | _,.dfr _ _ k,Q=>k.wpT Q
 | _,.ndb _ m a e,Q=>(m=0->a.wpT Q)/\e.wpT Q
 | _,@dc _ _ _ _ _ _ _ x _ _ B,Q=>∃ r,x=some r/\(B r).wpT Q
 | _,@dch _ _ _ _ _ _ _ _ _ x _ _ _ _ B,Q=>∃ r,x=some r/\(B r).wpT Q
 | _,.dl _ c t e,Q=>if c=true then t.wpT Q else e.wpT Q
 | _,@dg _ _ _ p _ t,Q=>p/\t.wpT Q
 | _,.dr _ _ _ _ t,Q=>t.wpT Q
 | _,@mk _ _ _ _ _ _ _ t,Q=>t.wpT Q
 | _,@foc _ _ _ _ _ _ _ i _ _ xs t,Q=>i<xs.length/\t.wpT Q
 | _,@dcn _ _ _ _ _ _ _ _ _ _ x _ _ _ B,Q=>∃ r,x=some r/\(B r).wpT Q
 | _,.dap _ _ t,Q=>t.wpT Q
 | _,@upd _ _ _ _ _ _ _ _ _ t,Q=>t.wpT Q
theorem LoopT.mono{b:S->(S⊕R->Prop)->Prop}(hb:∀ s {Q Q':S⊕R->Prop},(∀ z,Q z->Q' z)->b s Q->b s Q'){Q Q':R->Prop}(hq:∀ r,Q r->Q' r){s:S}(h:LoopT b Q s):LoopT b Q' s:=by intro X hX;exact h X fun s hs=>hX s (hb s (fun z hz=>by cases z with | inl s'=>exact hz | inr r=>exact hq _ hz) hs)
theorem LoopT.unfold{b:S->(S⊕R->Prop)->Prop}(hb:∀ s {Q Q':S⊕R->Prop},(∀ z,Q z->Q' z)->b s Q->b s Q'){Q:R->Prop}{s:S}:
  LoopT b Q s↔b s (sel (LoopT b Q) Q):=by
 have h1:∀ s,b s (sel (LoopT b Q) Q)->LoopT b Q s:=by intro s h X hX;exact hX s (hb s (fun z hz=>by cases z with | inl s'=>exact hz X hX | inr r=>exact hz) h)
 refine⟨fun h=>h (fun s=>b s (sel (LoopT b Q) Q)) fun s hs=>?_,h1 s⟩;exact hb s (fun z hz=>by cases z with | inl s'=>exact h1 _ hz | inr r=>exact hz) hs
theorem uJ(t:Tr P Y):∀ {Q Q':Y->Prop},(∀ y,Q y->Q' y)->t.wpT Q->t.wpT Q':=by
 induction t with
 | ret n y=>exact fun hq h=>hq _ h
 | ite n c t e iht ihe=>intro Q Q' hq h; simp only[wpT]at h ⊢; split <;> simp_all <;> first | exact iht hq h | exact ihe hq h
 | grd n p t ih=>exact fun hq h=>⟨h.1,ih hq h.2⟩
 | gd n p h t ih=>exact fun hq h=>ih hq h
 | cv n l t ih=>exact fun hq h=>ih hq h
 | no=>exact fun _ h=>h
 | ca n h B ih=>rintro Q Q' hq ⟨r,h1,h2⟩; exact⟨r,h1,ih r hq h2⟩
 | hk n m I0 g0 s1 s2 h B ih=>rintro Q Q' hq ⟨r,h1,h2⟩; exact⟨r,h1,ih r hq h2⟩
 | cz n nw h z B ih=>
  rintro Q Q' hq ⟨r,h1,h2⟩;refine⟨r,h1,?_⟩;cases r with
  | none=>exact hq _ h2
  | some r=>exact ih r hq h2
 | ch n nw h B ih=>rintro Q Q' hq ⟨r,h1,h2⟩; exact⟨r,h1,ih r hq h2⟩
 | jn n m tm A B ihA ihB=>exact fun hq h=>ihA (fun v hv=>ihB v hq hv) h
 | pc n m tm A B ihA ihB=>exact fun hq h=>ihA (fun z hz=>by cases z with | inl v=>exact ihB v hq hz | inr y=>exact hq _ hz) h
 | lp n tm bt ex s0 L B ihL ihB=>exact fun hq h=>LoopT.mono (fun s _ _ hz=>ihL s hz) (fun z hz=>by cases z with | inl v=>exact ihB v hq hz | inr y=>exact hq _ hz) h
 | sp n t r m a e iha ihe=>intro Q Q' hq h; simp only[wpT]at h ⊢; split <;> simp_all <;> first | exact iha hq h | exact ihe hq h
 | spc n o j r m a e iha ihe=>intro Q Q' hq h; simp only[wpT]at h ⊢; split <;> simp_all <;> first | exact iha hq h | exact ihe hq h
 | slc n t c xs lo hi k ih=>exact fun hq h=>⟨h.1,ih hq h.2⟩
 | sto n o c xs l k ih=>exact fun hq h=>⟨h.1,ih hq h.2⟩
 | cut n c xs hi k ih=>exact fun hq h=>⟨h.1,ih hq h.2⟩
 | apz n c byt m k ih=>exact fun hq h=>⟨h.1,ih hq h.2⟩
 | abl n e k ih=>exact fun hq h=>ih hq h
 | bs n own c xs t ih=>exact fun hq h=>ih hq h
 | cb n s k ih=>exact fun hq h=>ih hq h
 | dfr n h k ih=>exact fun hq h=>ih hq h
 | ndb n m a e iha ihe=>exact fun hq h=>⟨fun hm=>iha hq (h.1 hm),ihe hq h.2⟩
 | dc j as h B ih=>rintro Q Q' hq ⟨r,h1,h2⟩; exact⟨r,h1,ih r hq h2⟩
 | dch j as h ch B ih=>rintro Q Q' hq ⟨r,h1,h2⟩; exact⟨r,h1,ih r hq h2⟩
 | dl n c t e iht ihe=>intro Q Q' hq h; simp only[wpT]at h ⊢; split <;> simp_all <;> first | exact iht hq h | exact ihe hq h
 | dg n p t ih=>exact fun hq h=>⟨h.1,ih hq h.2⟩
 | dr n e ol ts t ih=>exact fun hq h=>ih hq h
 | mk n enc t ih=>exact fun hq h=>ih hq h
 | foc n o q i j c xs t ih=>exact fun hq h=>⟨h.1,ih hq h.2⟩
 | dcn j d as h B ih=>rintro Q Q' hq ⟨r,h1,h2⟩; exact⟨r,h1,ih r hq h2⟩
 | dap j h0 t ih=>exact fun hq h=>ih hq h
 | upd n enc v k t ih=>exact fun hq h=>ih hq h
theorem LoopT.of_while{b:S->(S⊕R->Prop)->Prop}{f:S->Option (S⊕R)}(hf:∀ s z,f s=some z->∀ Q:S⊕R->Prop,Q z->b s Q){s:S}{r:R}(h:cB f s=some r){Q:R->Prop}(hq:Q r):LoopT b Q s:=by
 obtain⟨n,hn⟩:=(lY f s).run h
 induction n generalizing s with
 | zero=>simp[lH]at hn
 | succ n ih=>
  simp only[lH]at hn;cases hs:f s with
  | none=>simp[hs]at hn
  | some z=>
   simp only[hs]at hn;cases z with
   | inl s'=>exact fun X hX=>hX s (hf s _ hs _ (ih (Hj hn) hn X hX))
   | inr r'=>cases hn; exact fun X hX=>hX s (hf s _ hs _ hq)
theorem of_den(t:Tr P Y):∀ {y:Y} {Q:Y->Prop},t.den=some y->Q y->t.wpT Q:=by
 induction t with
 | ret n y=>intro y' Q h hq; cases h; exact hq
 | ite n c t e iht ihe=>intro y Q h hq; simp only[den,wpT]at h ⊢; split <;> simp_all <;> first | exact iht h hq | exact ihe h hq
 | grd n p t ih=>intro y Q h hq; simp only[den]at h; split at h <;> first | exact⟨by assumption,ih h hq⟩ | cases h
 | gd n p h t ih=>exact fun h hq=>ih h hq
 | cv n l t ih=>exact fun h hq=>ih h hq
 | no=>intro y Q h; cases h
 | ca n h B ih=>intro y Q hd hq; obtain⟨r,h1,h2⟩:=bnd hd; exact⟨r,h1,ih r h2 hq⟩
 | hk n m I0 g0 s1 s2 h B ih=>intro y Q hd hq; obtain⟨r,h1,h2⟩:=bnd hd; exact⟨r,h1,ih r h2 hq⟩
 | cz n nw h z B ih=>
  intro y Q hd hq;obtain⟨r,h1,h2⟩:=bnd hd;refine⟨r,h1,?_⟩;cases r with
  | none=>cases h2; exact hq
  | some r=>exact ih r h2 hq
 | ch n nw h B ih=>intro y Q hd hq; obtain⟨r,h1,h2⟩:=bnd hd; exact⟨r,h1,ih r h2 hq⟩
 | jn n m tm A B ihA ihB=>intro y Q hd hq; obtain⟨r,h1,h2⟩:=bnd hd; exact ihA h1 (ihB r h2 hq)
 | pc n m tm A B ihA ihB=>
  intro y Q hd hq; obtain⟨r,h1,h2⟩:=bnd hd;refine ihA h1 ?_;cases r with
  | inl v=>exact ihB v h2 hq
  | inr y'=>cases h2; exact hq
 | lp n tm bt ex s0 L B ihL ihB=>
  intro y Q hd hq; obtain⟨r,h1,h2⟩:=bnd hd;refine LoopT.of_while (f:=fun s=>(L s).den) (fun s z hz Q hQ=>ihL s hz hQ) h1 ?_;cases r with
  | inl v=>exact ihB v h2 hq
  | inr y'=>cases h2; exact hq
 | sp n t r m a e iha ihe=>intro y Q h hq; simp only[den,wpT]at h ⊢; split <;> simp_all <;> first | exact iha h hq | exact ihe h hq
 | spc n o j r m a e iha ihe=>intro y Q h hq; simp only[den,wpT]at h ⊢; split <;> simp_all <;> first | exact iha h hq | exact ihe h hq
 | slc n t c xs lo hi k ih=>intro y Q h hq; simp only[den]at h; split at h <;> first | exact⟨by assumption,ih h hq⟩ | cases h
 | sto n o c xs l k ih=>intro y Q h hq; simp only[den]at h; split at h <;> first | exact⟨by assumption,ih h hq⟩ | cases h
 | cut n c xs hi k ih=>intro y Q h hq; simp only[den]at h; split at h <;> first | exact⟨by assumption,ih h hq⟩ | cases h
 | apz n c byt m k ih=>intro y Q h hq; simp only[den]at h; split at h <;> first | exact⟨by assumption,ih h hq⟩ | cases h
 | abl n e k ih=>exact fun h hq=>ih h hq
 | bs n own c xs t ih=>exact fun h hq=>ih h hq
 | cb n s k ih=>exact fun h hq=>ih h hq
 | dfr n h k ih=>exact fun h hq=>ih h hq
 | ndb=>intro y Q h; cases h
 | dc j as h B ih=>intro y Q hd hq; obtain⟨r,h1,h2⟩:=bnd hd; exact⟨r,h1,ih r h2 hq⟩
 | dch j as h ch B ih=>intro y Q hd hq; obtain⟨r,h1,h2⟩:=bnd hd; exact⟨r,h1,ih r h2 hq⟩
 | dl n c t e iht ihe=>intro y Q h hq; simp only[den,wpT]at h ⊢; split <;> simp_all <;> first | exact iht h hq | exact ihe h hq
 | dg n p t ih=>intro y Q h hq; simp only[den]at h; split at h <;> first | exact⟨by assumption,ih h hq⟩ | cases h
 | dr n e ol ts t ih=>exact fun h hq=>ih h hq
 | mk n enc t ih=>exact fun h hq=>ih h hq
 | foc n o q i j c xs t ih=>intro y Q h hq; simp only[den]at h; split at h <;> first | exact⟨by assumption,ih h hq⟩ | cases h
 | dcn j d as h B ih=>intro y Q hd hq; obtain⟨r,h1,h2⟩:=bnd hd; exact⟨r,h1,ih r h2 hq⟩
 | dap j h0 t ih=>exact fun h hq=>ih h hq
 | upd n enc v k t ih=>exact fun h hq=>ih h hq
theorem LoopT.and{b:S->(S⊕R->Prop)->Prop}(hb:∀ s {Q Q':S⊕R->Prop},(∀ z,Q z->Q' z)->b s Q->b s Q')(ha:∀ s (Q Q':S⊕R->Prop),b s Q->b s Q'->b s (fun z=>Q z/\Q' z))
  {Q Q':R->Prop}{s:S}(h:LoopT b Q s)(h':LoopT b Q' s):LoopT b (fun z=>Q z/\Q' z) s:=by
 refine h (fun s=>LoopT b Q' s->LoopT b (fun z=>Q z/\Q' z) s) (fun s hs hs'=>?_) h';rw[LoopT.unfold hb]at hs' ⊢;refine hb s (fun z hz=>?_) (ha s _ _ hs hs');cases z with
 | inl s'=>exact hz.1 hz.2
 | inr r=>exact hz
theorem LoopT.ex{b:S->(S⊕R->Prop)->Prop}(he:∀ s (Q:S⊕R->Prop),b s Q->∃ z,Q z){Q:R->Prop}{s:S}(h:LoopT b Q s):∃ r,Q r:=by
 refine h (fun _=>∃ r,Q r) fun s hs=>?_;obtain⟨z,hz⟩:=he s _ hs;cases z with
 | inl s'=>exact hz
 | inr r=>exact⟨r,hz⟩
theorem wpT_and(t:Tr P Y):∀ {Q Q':Y->Prop},t.wpT Q->t.wpT Q'->t.wpT (fun y=>Q y/\Q' y):=by
 induction t with
 | ret n y=>exact fun h h'=>⟨h,h'⟩
 | ite n c t e iht ihe=>intro Q Q' h h'; simp only[wpT]at h h' ⊢; split <;> simp_all
 | grd n p t ih=>exact fun h h'=>⟨h.1,ih h.2 h'.2⟩
 | gd n p h t ih=>exact fun h h'=>ih h h'
 | cv n l t ih=>exact fun h h'=>ih h h'
 | no=>exact fun h _=>h
 | ca n h B ih=>rintro Q Q' ⟨r,h1,h2⟩ ⟨r',h1',h2'⟩; rw[h1]at h1'; cases h1'; exact⟨r,h1,ih r h2 h2'⟩
 | hk n m I0 g0 s1 s2 h B ih=>rintro Q Q' ⟨r,h1,h2⟩ ⟨r',h1',h2'⟩; rw[h1]at h1'; cases h1'; exact⟨r,h1,ih r h2 h2'⟩
 | cz n nw h z B ih=>
  rintro Q Q' ⟨r,h1,h2⟩ ⟨r',h1',h2'⟩;rw[h1]at h1'; cases h1';refine⟨r,h1,?_⟩;cases r with
  | none=>exact⟨h2,h2'⟩
  | some r=>exact ih r h2 h2'
 | ch n nw h B ih=>rintro Q Q' ⟨r,h1,h2⟩ ⟨r',h1',h2'⟩; rw[h1]at h1'; cases h1'; exact⟨r,h1,ih r h2 h2'⟩
 | jn n m tm A B ihA ihB=>exact fun h h'=>uJ A (fun v hv=>ihB v hv.1 hv.2) (ihA h h')
 | pc n m tm A B ihA ihB=>exact fun h h'=>uJ A (fun z hz=>by cases z with | inl v=>exact ihB v hz.1 hz.2 | inr y=>exact hz) (ihA h h')
 | lp n tm bt ex s0 L B ihL ihB=>
  intro Q Q' h h';simp only[wpT]at h h' ⊢;have h3:=LoopT.and (b:=fun s Z=>(L s).wpT Z) (fun s _ _ hz=>uJ (L s) hz) (fun s _ _ h1 h2=>ihL s h1 h2) h h';refine LoopT.mono (b:=fun s Z=>(L s).wpT Z) (fun s _ _ hz=>uJ (L s) hz) (fun z hz=>?_) h3;cases z with
  | inl v=>exact ihB v hz.1 hz.2
  | inr y=>exact hz
 | sp n t r m a e iha ihe=>intro Q Q' h h'; simp only[wpT]at h h' ⊢; split <;> simp_all
 | spc n o j r m a e iha ihe=>intro Q Q' h h'; simp only[wpT]at h h' ⊢; split <;> simp_all
 | slc n t c xs lo hi k ih=>exact fun h h'=>⟨h.1,ih h.2 h'.2⟩
 | sto n o c xs l k ih=>exact fun h h'=>⟨h.1,ih h.2 h'.2⟩
 | cut n c xs hi k ih=>exact fun h h'=>⟨h.1,ih h.2 h'.2⟩
 | apz n c byt m k ih=>exact fun h h'=>⟨h.1,ih h.2 h'.2⟩
 | abl n e k ih=>exact fun h h'=>ih h h'
 | bs n own c xs t ih=>exact fun h h'=>ih h h'
 | cb n s k ih=>exact fun h h'=>ih h h'
 | dfr n h k ih=>exact fun h h'=>ih h h'
 | ndb n m a e iha ihe=>exact fun h h'=>⟨fun hm=>iha (h.1 hm) (h'.1 hm),ihe h.2 h'.2⟩
 | dc j as h B ih=>rintro Q Q' ⟨r,h1,h2⟩ ⟨r',h1',h2'⟩; rw[h1]at h1'; cases h1'; exact⟨r,h1,ih r h2 h2'⟩
 | dch j as h ch B ih=>rintro Q Q' ⟨r,h1,h2⟩ ⟨r',h1',h2'⟩; rw[h1]at h1'; cases h1'; exact⟨r,h1,ih r h2 h2'⟩
 | dl n c t e iht ihe=>intro Q Q' h h'; simp only[wpT]at h h' ⊢; split <;> simp_all
 | dg n p t ih=>exact fun h h'=>⟨h.1,ih h.2 h'.2⟩
 | dr n e ol ts t ih=>exact fun h h'=>ih h h'
 | mk n enc t ih=>exact fun h h'=>ih h h'
 | foc n o q i j c xs t ih=>exact fun h h'=>⟨h.1,ih h.2 h'.2⟩
 | dcn j d as h B ih=>rintro Q Q' ⟨r,h1,h2⟩ ⟨r',h1',h2'⟩; rw[h1]at h1'; cases h1'; exact⟨r,h1,ih r h2 h2'⟩
 | dap j h0 t ih=>exact fun h h'=>ih h h'
 | upd n enc v k t ih=>exact fun h h'=>ih h h'
theorem wpT_ex(t:Tr P Y):∀ {Q:Y->Prop},t.wpT Q->∃ y,Q y:=by
 induction t with
 | ret n y=>exact fun h=>⟨y,h⟩
 | ite n c t e iht ihe=>intro Q h; simp only[wpT]at h; split at h <;> first | exact iht h | exact ihe h
 | grd n p t ih=>exact fun h=>ih h.2
 | gd n p h t ih=>exact fun h=>ih h
 | cv n l t ih=>exact fun h=>ih h
 | no=>exact fun h=>h.elim
 | ca n h B ih=>rintro Q ⟨r,h1,h2⟩; exact ih r h2
 | hk n m I0 g0 s1 s2 h B ih=>rintro Q ⟨r,h1,h2⟩; exact ih r h2
 | cz n nw h z B ih=>
  rintro Q ⟨r,h1,h2⟩;cases r with
  | none=>exact⟨z,h2⟩
  | some r=>exact ih r h2
 | ch n nw h B ih=>rintro Q ⟨r,h1,h2⟩; exact ih r h2
 | jn n m tm A B ihA ihB=>intro Q h; obtain⟨v,hv⟩:=ihA h; exact ihB v hv
 | pc n m tm A B ihA ihB=>
  intro Q h;obtain⟨z,hz⟩:=ihA h;cases z with
  | inl v=>exact ihB v hz
  | inr y=>exact⟨y,hz⟩
 | lp n tm bt ex s0 L B ihL ihB=>
  intro Q h;obtain⟨z,hz⟩:=LoopT.ex (fun s _ hs=>ihL s hs) h;cases z with
  | inl v=>exact ihB v hz
  | inr y=>exact⟨y,hz⟩
 | sp n t r m a e iha ihe=>intro Q h; simp only[wpT]at h; split at h <;> first | exact iha h | exact ihe h
 | spc n o j r m a e iha ihe=>intro Q h; simp only[wpT]at h; split at h <;> first | exact iha h | exact ihe h
 | slc n t c xs lo hi k ih=>exact fun h=>ih h.2
 | sto n o c xs l k ih=>exact fun h=>ih h.2
 | cut n c xs hi k ih=>exact fun h=>ih h.2
 | apz n c byt m k ih=>exact fun h=>ih h.2
 | abl n e k ih=>exact fun h=>ih h
 | bs n own c xs t ih=>exact fun h=>ih h
 | cb n s k ih=>exact fun h=>ih h
 | dfr n h k ih=>exact fun h=>ih h
 | ndb n m a e iha ihe=>exact fun h=>ihe h.2
 | dc j as h B ih=>rintro Q ⟨r,h1,h2⟩; exact ih r h2
 | dch j as h ch B ih=>rintro Q ⟨r,h1,h2⟩; exact ih r h2
 | dl n c t e iht ihe=>intro Q h; simp only[wpT]at h; split at h <;> first | exact iht h | exact ihe h
 | dg n p t ih=>exact fun h=>ih h.2
 | dr n e ol ts t ih=>exact fun h=>ih h
 | mk n enc t ih=>exact fun h=>ih h
 | foc n o q i j c xs t ih=>exact fun h=>ih h.2
 | dcn j d as h B ih=>rintro Q ⟨r,h1,h2⟩; exact ih r h2
 | dap j h0 t ih=>exact fun h=>ih h
 | upd n enc v k t ih=>exact fun h=>ih h
end Tr
open Classical in
noncomputable def Det {P:Program}{Y:Type}(t:Tr P Y):Option Y:=if h:∃ y,t.wpT (·=y) then some h.choose else none
theorem Det.ok{P:Program}{Y:Type}{t:Tr P Y}{y:Y}(h:Det t=some y):t.wpT (·=y):=by
 unfold Det at h;split at h
 ·rename_i hh; cases h; exact hh.choose_spec
 ·cases h
theorem Det.eq{P:Program}{Y:Type}{t:Tr P Y}{y:Y}(h:t.wpT (·=y)):Det t=some y:=by have hh:∃ y,t.wpT (·=y):=⟨y,h⟩;unfold Det;rw[dif_pos hh];obtain⟨z,h1,h2⟩:=t.wpT_ex (t.wpT_and h hh.choose_spec);rw[<-h1,h2]
structure Acc where
 calls:List (Nat×(Nat×List PV×PV×Hp×Option (Nat×bA)))
 lits:List (Nat×(Bool×Bool))
 conds:List (Nat×List Prop)
def kR:Acc:=⟨[],[],[]⟩
structure bBK (P:Program)(a:Acc):Prop where
 c:Ic P a.calls
 l:xM a.lits
 p:qO a.conds
def aYO(fs:List (Nat->Bool)):List (Nat->Bool):=fs.map fun _ _=>true
def asks(b:Bool)(C:List Prop)(fs:List (Nat->Bool))(p:Prop):VT:=.and (vt b (All C) p) (vt b fs (aYO fs))
def Di{S:Type}(b:Bool)(tm:S->St)(v:S)(e:Exit)(s:St):VT:=
 match e with | .normal=>vt b (s.keep (dK (tm v).fr) (dK (tm v).hp)) (some (tm v)) | _=>bad b
def qU{Y:Type}(b:Bool)(lf:Y->Exit->St->VT)(ks:List Kf)(y:Y)(e:Exit)(s:St):VT:=
 match e with
 | .normal=>bad b
 | e=>match nrm 300 (.x e ks) with | .x e' []=>lf y e' s | _=>bad b
def aXO{S Y:Type}(b:Bool)(tm:S->St)(lf:Y->Exit->St->VT)(ks:List Kf):S⊕Y->Exit->St->VT
 | .inl v=>Di b tm v
 | .inr y=>qU b lf ks y
def aLG{R:Type}(b:Bool)(bt:R->St)(ex:Nat)(r:R)(e:Exit)(s:St):VT:=
 match e with
 | .exit i=>match Nat.beq i ex with | true=>vt b (s.keep (dK (bt r).fr) (dK (bt r).hp)) (some (bt r)) | false=>bad b
 | _=>bad b
def bAN{S R Y:Type}(b:Bool)(tm:S->St)(bt:R->St)(ex:Nat)(lf:Y->Exit->St->VT)(ks:List Kf):S⊕(R⊕Y)->Exit->St->VT
 | .inl v=>Di b tm v
 | .inr (.inl r)=>aLG b bt ex r
 | .inr (.inr y)=>qU b lf ks y
def Pe(m:Nat):Cfg->Cfg
 | .c x ks=>.c x (ks.take m)
 | .o all l ks=>.o all l (ks.take m)
 | .x e ks=>.x e (ks.take m)
def Dv(m:Nat):Cfg->List Kf
 | .c _ ks=>ks.drop m
 | .o _ _ ks=>ks.drop m
 | .x _ ks=>ks.drop m
def xP(I:Inf)(all:List Oper)(op:Oper)(st:St):Option (Nat×Nat×List PV):=
 match op.op,op.dst,cQ all op st with
 | .call c,some d,some true=>match c.callee,Nat.blt d I.nt with
  | .value f,true=>match ev st f,hU st c.args.toList with
   | some (.fn (.func k) nf caps),some aps=>some (d,k,caps.take nf++aps++caps.drop nf)
   | _,_=>none
  | _,_=>none
 | _,_,_=>none
def aEO:Op->Option (TypeId×Operand×Operand×Operand)
 | .mapUpdate t m k x=>some (t,m,k,x)
 | .insert t m k x=>some (t,m,k,x)
 | _=>none
theorem aEX{o:Op}{t:TypeId}{m k x:Operand}(h:aEO o=some (t,m,k,x)):o = .mapUpdate t m k x\/o = .insert t m k x:=by unfold aEO at h;split at h <;> first | (cases h; exact .inl rfl) | (cases h; exact .inr rfl) | cases h
def aWL(b:Bool)(st:St)(p q:PV):VT:=
 match p,q with
 | .nil,.t x=>vt b (Qi x) (some 0)
 | .own o,.t x=>match bK st.hp o with | some (.arr _ _ n f)=>vt b (some (n,f)) x.view | some (.arm _ _ n f none)=>(match x.view with | some (m,gf)=>.and (vt b n m) (vt b (fun i=>(f i).map Qa) (fun i=>(gf i).map some)) | none=>bad b) | _=>bad b
 | .t (.sl n f),.t (.sl m g)=>.and (vt b n m) (vt b ((List.range n).map f) ((List.range m).map g))
 | .agg l,.t (.agg r)=>gK b l r
 | p,q=>vt b p q
def oF(b:Bool)(st:St):List PV->List PV->VT
 | [],[]=>.ok
 | p::l,q::r=>.and (aWL b st p q) (oF b st l r)
 | _,_=>bad b
def mG:List PV->List PV->List Nat
 | .own o::l,.t _::r=>o::mG l r
 | _::l,_::r=>mG l r
 | _,_=>[]
def ch1:Option (Nat×bA)->Hp->Bool
 | none,_=>true
 | some (o,_),Hs=>inN o (dK Hs)
def bsI(I:Inf)(all:List Oper)(op:Oper)(st:St):Option (Nat×Nat×eG×Nat×List PV):=
 match op.op,op.dst,cQ all op st with
 | .buildSlice t len parts,some d,some true=>match I.ti t,gM st parts.toList,Nat.blt d I.nt with
  | some i,some ps,true=>match i.und with
   | .sl e=>match I.ti e with
    | some j=>match Nat.ble (len*j.size) 16777216,Nat.ble 1 j.size,Nat.beq j.zero.length j.size,mJ (fun i=>some (i*j.size,j.size)) (iA j (len*j.size)) ps with
     | true,true,true,some c=>match Nat.beq c.length (len*j.size) with | true=>some (d,e,j,len,c) | false=>none
     | _,_,_,_=>none
    | none=>none
   | _=>none
  | _,_,_=>none
 | _,_,_=>none
def dfI(all:List Oper)(op:Oper)(st:St):Option Nat:=
 match op.op,op.dst,cQ all op st with
 | .defer c,none,some true=>match c.callee,c.args.toList with
  | .value x,[]=>match ev st x with
   | some (.fn (.func f) 0 _)=>some f
   | _=>none
  | _,_=>none
 | _,_,_=>none
def cbI(I:Inf)(all:List Oper)(op:Oper)(st:St):Option (Nat×ByteArray):=
 match op.op,op.dst,cQ all op st with
 | .convert s t x,some d,some true=>match I.ti s,I.ti t,ev st x,Nat.blt d I.nt with
  | some i,some j,some (.t (.str y)),true=>match i.und,j.und with
   | .str,.sl e=>match I.ti e with
    | some k=>match k.und with
     | .int .u8=>some (d,y)
     | _=>none
    | none=>none
   | _,_=>none
  | _,_,_,_=>none
 | _,_,_=>none
def aFQ(I:Inf)(all:List Oper)(op:Oper)(st:St):Option (Nat×Bool×Nat):=
 match op.op,op.dst,cQ all op st with
 | .binOp o t x y _,some d,some true=>match o,I.ti t,ev st x,ev st y,Nat.blt d I.nt with
  | .eql,some i,some (.t (.sl m _)),some .nil,true=>match i.und with | .sl _=>some (d,true,m) | _=>none
  | .neq,some i,some (.t (.sl m _)),some .nil,true=>match i.und with | .sl _=>some (d,false,m) | _=>none
  | .eql,some i,some (.t (.lz z)),some .nil,true=>match i.und with | .sl _=>some (d,true,z.len) | _=>none
  | .neq,some i,some (.t (.lz z)),some .nil,true=>match i.und with | .sl _=>some (d,false,z.len) | _=>none
  | .eql,some i,some (.own _),some .nil,true=>match i.und with | .sl _=>some (d,true,0) | _=>none
  | .neq,some i,some (.own _),some .nil,true=>match i.und with | .sl _=>some (d,false,0) | _=>none
  | _,_,_,_,_=>none
 | _,_,_=>none
def Lh(I:Inf)(t:Nat):Option eG:=match I.ti t with | some i=>(match i.und with | .sl e=>I.ti e | _=>none) | none=>none
def aKI(I:Inf)(all:List Oper)(op:Oper)(st:St):Option (Nat×Nat×eG×Int):=
 match op.op,op.dst,cQ all op st with
 | .call c,some d,some true=>match c.callee,c.args.toList,c.argTypes.toList with
  | .builtin .append,[s,x],[t,t']=>match I.ti t,I.ti t',ev st s,ev st x with
   | some i,some i',some .nil,some (.t (.int .i64 k))=>match i.und,i'.und with
    | .sl e,.int _=>match I.ti e with
     | some j=>match Nat.ble 1 j.size&&(Nat.ble 1 j.bytes&&Nat.beq j.zero.length j.size) with
      | true=>some (d,e,j,k)
      | false=>none
     | none=>none
    | _,_=>none
   | _,_,_,_=>none
  | _,_,_=>none
 | _,_,_=>none
def aCZ(all:List Oper)(op:Oper):Option Nat:=
 match op.guard with
 | some (j,_)=>match all[j]? with | some oj=>oj.dst | none=>none
 | none=>none
def aRJ(st:St)(d:Nat)(v:Bool):St:={ st with fr:=(d,.t (.bool v))::del d st.fr }
def drS(I:Inf)(L l:List Oper)(acc:Acc)(st:St)(ts:List Nat)(ol:OL):St:=
 stP st (iC st.fr ts) L (Ml I L l acc.calls acc.lits st ts ol) ol (fun j=>Nat.blt j l.length)
def drV(P:Program)(I:Inf)(b:Bool)(L l tl:List Oper)(acc:Acc)(st:St)(ts:List Nat)(ol:OL):VT:=
 let lo:=Ml I L l acc.calls acc.lits st ts ol
 .and (vt b (wfL L l tl (Ju (Ri l) []) st ts (iC st.fr ts) lo ol&&aHE acc.lits lo) true) (.and (vt b (P.follows .mixedOrders) true)
  (vt b (Ya I L acc.calls st (iC st.fr ts) lo ol (Ju (Ri l) []) 0 l) (aBE L acc.calls acc.lits acc.conds st (iC st.fr ts) lo ol (Ju (Ri l) []) 0 l)))
def chk(P:Program)(I:Inf)(b:Bool):{Y:Type}->Tr P Y->(Y->Exit->St->VT)->Acc->Cfg->St->VT
 | _,.ret n y,lf,_,g,st=>match run I n g st with
  | some (.x e [],st',C,fs)=>.and (asks b C fs True) (lf y e st')
  | _=>bad b
 | _,.ite n c t e,lf,acc,g,st=>match run I n g st with
  | some (.c (.cond x u v) ks,st',C,fs)=>.and (asks b C fs True) (.and (vt b (ev st' x) (some (.t (.bool c)))) (.and (chk P I b t lf acc (.c u ks) st') (chk P I b e lf acc (.c v ks) st')))
  | some (.o all (op::l) ks,st',C,fs)=>match aCZ all op with
   | some d=>.and (asks b C fs True) (.and (vt b (bK st'.fr d) (some (.t (.bool c)))) (.and (chk P I b t lf acc (.o all (op::l) ks) (aRJ st' d true)) (chk P I b e lf acc (.o all (op::l) ks) (aRJ st' d false))))
   | none=>bad b
  | _=>bad b
 | _,@Tr.grd _ _ n p _ t,lf,acc,g,st=>match run I n g st with
  | some (g',st',C,fs)=>.and (asks b C fs p) (chk P I b t lf acc g' st')
  | none=>bad b
 | _,.gd n p _ t,lf,acc,g,st=>match run I n g st with
  | some (g',st',C,fs)=>.and (asks b C fs p) (chk P I b t lf acc g' st')
  | none=>bad b
 | _,.cv n l t,lf,acc,g,st=>match run I n g st with
  | some (g',st',C,fs)=>.and (asks b C fs True) (.and (aEL I b l st') (match cvL I l st' with | some st''=>chk P I b t lf acc g' st'' | none=>bad b))
  | none=>bad b
 | _,@Tr.foc _ _ _ inh n o q i j c xs t,lf,acc,g,st=>match run I n g st with
  | some (g',st',C,fs)=>.and (asks b C fs True) (match bK st'.hp o with
   | some (.arm e s n' f none)=>.and (vt b (n',f) (xs.length,@iT _ inh c xs)) (match (c (xs.getD i default))[j]? with
    | some (.row e' s' m f')=>match Bd I.N o q (.arm e s xs.length (lD (@iT _ inh c xs) i j .any) (some (i,j,.own q))) (.arr e' s' m f') st' with
     | some s2=>chk P I b t lf acc g' s2
     | none=>bad b
    | _=>bad b)
   | _=>bad b)
  | none=>bad b
 | _,.no,_,_,_,_=>.ok
 | _,@Tr.ca _ _ _ n k bps _ ret _ B,lf,acc,g,st=>match run I n g st with
  | some (.o all (op::l) ks,st',C,fs)=>match xP I all op st' with
   | some (d,k',as)=>.and (asks b C fs True) (.and (vt b k' k) (.and (oF b st' as bps) (.all fun r=>.and (vt b (aXP (mG as bps) (ret r)) true) (chk P I b (B r) lf acc (.o all l ks) (st'.put d (ret r))))))
   | none=>bad b
  | _=>bad b
 | _,@Tr.ch _ _ _ cur n k bps Hs N _ ret Ht nw _ B,lf,acc,g,st=>match run I n g st with
  | some (.o all (op::l) ks,st',C,fs)=>match xP I all op st' with
   | some (d,k',as)=>.and (asks b C fs True) (.and (vt b k' k) (.and (oF b ⟨st'.fr,[]⟩ as bps) (.and (vt b (iO st'.hp (dK Hs)) (some Hs)) (.and (vt b (jC st' (dK Hs) I.N nw) true)
     (cur.all fun r=>.and (vt b (jP (ret r) (Ht r) (N++nw)) true) (chk P I b (B r) lf acc (.o all l ks) (({ fr:=st'.fr,hp:=Ht r++gP st'.hp (dK Hs) }:St).put d (ret r))))))))
   | none=>bad b
  | _=>bad b
 | _,@Tr.cz _ _ _ cur n k bps Hs N _ ret Ht tr nw _ z B,lf,acc,g,st=>match run I n g st with
  | some (.o all (op::l) ks,st',C,fs)=>match xP I all op st' with
   | some (d,k',as)=>.and (asks b C fs True) (.and (vt b k' k) (.and (oF b ⟨st'.fr,[]⟩ as bps) (.and (vt b (iO st'.hp (dK Hs)) (some Hs)) (.and (vt b (jC st' (dK Hs) I.N nw) true)
     (.and (qU b lf ks z (.panic (vV tr)) { fr:=st'.fr,hp:=gP st'.hp (dK Hs) }) (cur.all fun r=>.and (vt b (jP (ret r) (Ht r) (N++nw)) true) (chk P I b (B r) lf acc (.o all l ks) (({ fr:=st'.fr,hp:=Ht r++gP st'.hp (dK Hs) }:St).put d (ret r)))))))))
   | none=>bad b
  | _=>bad b
 | _,@Tr.hk _ _ _ cur n m I0 g0 st1 _ st2 _ B,lf,acc,g,st=>match run I n g st with
  | some (g',st',C,fs)=>.and (asks b C fs True) (.and (vt b I I0) (.and (vt b (Pe m g') g0) (.and (vt b (st'.keep (dK st1.fr) (dK st1.hp)) (some st1)) (cur.all fun v=>chk P I b (B v) lf acc (.x .normal (Dv m g')) (st2 v)))))
  | none=>bad b
 | _,@Tr.jn _ _ _ cur n m tm A B,lf,acc,g,st=>match run I n g st with
  | some (g',st',C,fs)=>.and (asks b C fs True) (.and (chk P I b A (Di b tm) kR (Pe m g') st') (cur.all fun v=>chk P I b (B v) lf acc (.x .normal (Dv m g')) (tm v)))
  | none=>bad b
 | _,@Tr.pc _ _ _ cur n m tm A B,lf,acc,g,st=>match run I n g st with
  | some (g',st',C,fs)=>.and (asks b C fs True) (.and (chk P I b A (aXO b tm lf (Dv m g')) kR (Pe m g') st') (cur.all fun v=>chk P I b (B v) lf acc (.x .normal (Dv m g')) (tm v)))
  | none=>bad b
 | _,@Tr.lp _ _ _ _ curS curR n tm bt ex s0 L B,lf,acc,g,st=>match run I n g st with
  | some (.c (.loop c) ks,st',C,fs)=>.and (asks b C fs True) (.and (vt b (st'.keep (dK (tm s0).fr) (dK (tm s0).hp)) (some (tm s0)))
    (.and (curS.all fun s=>chk P I b (L s) (bAN b tm bt ex lf ks) kR (.c c []) (tm s)) (curR.all fun r=>chk P I b (B r) lf acc (.x (.exit ex) ks) (bt r))))
  | _=>bad b
 | _,.spc n o j r m a e,lf,acc,g,st=>match run I n g st with
  | some (g',st',C,fs)=>match bK st'.hp o with
   | some (.box cs)=>.and (asks b C fs True) (.and (vt b (cs[j]?) (some (.t (.int .i64 r)))) (.and (chk P I b a lf acc g' { st' with hp:=(o,.box (cs.set j (.t (.int .i64 m))))::del o st'.hp }) (chk P I b e lf acc g' st')))
   | _=>bad b
  | none=>bad b
 | _,.sp n t r m a e,lf,acc,g,st=>match run I n g st with
  | some (g',st',C,fs)=>.and (asks b C fs True) (.and (vt b (bK st'.fr t) (some (.t (.int .i64 r)))) (.and (chk P I b a lf acc g' { st' with fr:=(t,.t (.int .i64 m))::del t st'.fr }) (chk P I b e lf acc g' st')))
  | none=>bad b
 | _,@Tr.slc _ _ _ i n t c xs lo hi k,lf,acc,g,st=>match run I n g st with
  | some (g',st',C,fs)=>.and (match n with | 0=>asks b C fs True | _=>asks b C fs (0<=lo/\lo<=hi/\hi<=(xs.length:Int))) (.and (vt b (bK st'.fr t) (some (.t (.sl (hi-lo).toNat (fun j=>@eF _ i c xs (lo.toNat+j))))))
    (chk P I b k lf acc g' { st' with fr:=(t,.t (@eL _ i c ((xs.drop lo.toNat).take (hi-lo).toNat)))::del t st'.fr }))
  | none=>bad b
 | _,@Tr.sto _ _ _ i n o c xs l k,lf,acc,g,st=>match run I n g st with
  | some (g',st',C,fs)=>match bK st'.hp o with
   | some (.arr e s n' f)=>.and (asks b C fs True) (.and (vt b (n',f) (xs.length,l.foldl (fun f p=>rY f p.1 (c p.2)) (@eF _ i c xs)))
    (chk P I b k lf acc g' { st' with hp:=(o,.arr e s (l.foldl (fun xs p=>xs.set p.1 p.2) xs).length (@eF _ i c (l.foldl (fun xs p=>xs.set p.1 p.2) xs)))::del o st'.hp }))
   | _=>bad b
  | none=>bad b
 | _,@Tr.cut _ _ _ i n c xs hi k,lf,acc,g,st=>match run I n g st with
  | some (.o all (op::l) ks,st',C,fs)=>match op.op,op.dst,cQ all op st' with
   | .slice t x lo hx none,some d,some true=>match ev st' x with
    | some (.own q)=>match bK st'.hp q,st'.erase q,Lh I t with
     | some (.arr e s n' f),some st1,some _=>match fW I st1 d (.arr e s hi.toNat f) (.own d) with
      | some s2=>.and (asks b C fs True) (.and (vt b (n',f) (xs.length,@eF _ i c xs)) (.and (vt b (eY st' 0 lo) (some 0)) (.and (vt b (eY st' n' hx) (some hi))
        (chk P I b k lf acc (.o all l ks) { s2 with hp:=(d,.arr e s (xs.take hi.toNat).length (@eF _ i c (xs.take hi.toNat)))::del d s2.hp }))))
      | none=>bad b
     | _,_,_=>bad b
    | _=>bad b
   | _,_,_=>bad b
  | _=>bad b
 | _,@Tr.apz _ _ _ i n c byt m k,lf,acc,g,st=>match run I n g st with
  | some (.o all (op::l) ks,st',C,fs)=>match aKI I all op st' with
   | some (d,e,j,k')=>match fW I st' d (.arr e j.size m.toNat (fun _=>c i.default)) (.own d) with
    | some s2=>.and (asks b C fs True) (.and (vt b (k',j.bytes) (m,byt)) (.and (gK b j.zero (c i.default))
      (chk P I b k lf acc (.o all l ks) { s2 with hp:=(d,.arr e j.size (List.replicate m.toNat i.default).length (@eF _ i c (List.replicate m.toNat i.default)))::del d s2.hp })))
    | none=>bad b
   | none=>bad b
  | _=>bad b
 | _,.abl n e k,lf,acc,g,st=>match run I n g st with
  | some (.o all (op::l) ks,st',C,fs)=>match op.op,op.dst,cQ all op st' with
   | .alloc t,some d,some true=>match Nat.blt d I.nt,oR d I.N,st'.erase d,I.ti t with
    | true,true,some st1,some i=>.and (asks b C fs True) (.and (vt b i.zero [.np,.nil]) (chk P I b k lf acc (.o all l ks) (({ st1 with hp:=(d,.bld t e ⟨#[]⟩)::st1.hp }:St).put d (.ptr d 0))))
    | _,_,_,_=>bad b
   | _,_,_=>bad b
  | _=>bad b
 | _,@Tr.bs _ _ _ i n own c xs t,lf,acc,g,st=>match run I n g st with
  | some (.o all (op::l) ks,st',C,fs)=>match bsI I all op st' with
   | some (d,e,j,len,cs)=>.and (asks b C fs True) (.and (gK b cs (xs.flatMap c)) (.and (vt b len xs.length) (.and (vt b ((List.range len).map (dT (xs.flatMap c) j.size)) ((List.range len).map (@eF _ i c xs)))
     (match own with
      | false=>chk P I b t lf acc (.o all l ks) (st'.put d (.t (@eL _ i c xs)))
      | true=>match fW I st' d (.arr e j.size len (dT (xs.flatMap c) j.size)) (.own d) with
       | some s2=>chk P I b t lf acc (.o all l ks) { s2 with hp:=(d,.arr e j.size xs.length (@eF _ i c xs))::del d s2.hp }
       | none=>bad b))))
   | none=>bad b
  | _=>bad b
 | _,@Tr.dfr _ _ n f _h t,lf,acc,g,st=>match run I n g st with
  | some (.o all (op::l) ks,st',C,fs)=>match dfI all op st' with
   | some f'=>.and (asks b C fs True) (.and (vt b (f',I.top) (f,true)) (chk P I b t lf acc (.o all l ks) st'))
   | none=>bad b
  | _=>bad b
 | _,.cb n s t,lf,acc,g,st=>match run I n g st with
  | some (.o all (op::l) ks,st',C,fs)=>match cbI I all op st' with
   | some (d,y)=>.and (asks b C fs True) (.and (vt b y s) (chk P I b t lf acc (.o all l ks) (st'.put d (.t (eL cU8 (eA s))))))
   | none=>bad b
  | _=>bad b
 | _,.ndb n m a e,lf,acc,g,st=>match run I n g st with
  | some (.o all (op::l) ks,st',C,fs)=>match aFQ I all op st' with
   | some (d,o,m')=>.and (asks b C fs True) (.and (vt b m' m) (.and (chk P I b a lf acc (.o all l ks) (st'.put d (.t (.bool o)))) (chk P I b e lf acc (.o all l ks) (st'.put d (.t (.bool (!o)))))))
   | none=>bad b
  | _=>bad b
 | _,@Tr.dc _ _ _ j as k bps _ ret _ B,lf,acc,g,st=>.and (oF b ⟨[],[]⟩ as bps) (.and (vt b (Nat.blt k cN) true) (.all fun r=>.and (vt b (ret r).pure true) (chk P I b (B r) lf { acc with calls:=(j,k,as,ret r,[],none)::acc.calls } g st)))
 | _,@Tr.dch _ _ _ j as k bps Hs N _ ret Ht _ ch B,lf,acc,g,st=>.and (oF b ⟨[],[]⟩ as bps) (.and (vt b (Nat.blt k cN) true) (.all fun r=>.and (vt b (ret r).pure true) (.and (vt b (Ht r) (aLS Hs (ch r))) (.and (vt b (jP (ret r) (aLS Hs (ch r)) N) true)
   (.and (vt b (ch1 (ch r) Hs) true) (chk P I b (B r) lf { acc with calls:=(j,k,as,ret r,Hs,ch r)::acc.calls } g st))))))
 | _,@Tr.dcn _ _ _ j d as k bps Hs N _ ret Ht _ B,lf,acc,g,st=>.and (oF b ⟨[],[]⟩ as bps) (.and (vt b (Nat.blt k cN) true) (.and (vt b Hs []) (.and (vt b N []) (.all fun r=>match Ht r,ret r with
   | [(o,.arr e s n f)],.own o'=>.and (vt b o o') (chk P I b (B r) lf { acc with calls:=(j,k,as,.own d,[],some (d,.arr e s n f))::acc.calls } g st)
   | [(o,.arr e s n f)],.agg l=>.and (vt b ((PV.agg l).mentions d) false) (.and (vt b (Cr ((PV.agg l).rn o d)) (some d)) (.and (vt b (jP ((PV.agg l).rn o d) [(d,.arr e s n f)] [d]) true)
    (chk P I b (B r) lf { acc with calls:=(j,k,as,(PV.agg l).rn o d,[],some (d,.arr e s n f))::acc.calls } g st)))
   | _,_=>bad b))))
 | _,@Tr.dap _ _ j n f x _ t,lf,acc,g,st=>chk P I b t lf { acc with calls:=(j,fzN,[.t (.sl n f)],.t x,[],none)::acc.calls } g st
 | _,.dl j c t e,lf,acc,g,st=>.and (chk P I b t lf { acc with lits:=(j,c,true)::acc.lits } g st) (chk P I b e lf { acc with lits:=(j,c,false)::acc.lits } g st)
 | _,@Tr.dg _ _ j p _ t,lf,acc,g,st=>chk P I b t lf { acc with conds:=(j,[p])::acc.conds } g st
 | _,.dr n e ol ts t,lf,acc,g,st=>match run I n g st with
  | some (.c (.region _ ops true) ks,st',C,fs)=>.and (asks b C fs True) (.and (drV P I b ops.toList (ops.toList.take (ops.toList.length-e)) (ops.toList.drop (ops.toList.length-e)) acc st' ts ol)
    (match (drS I ops.toList (ops.toList.take (ops.toList.length-e)) acc st' ts ol).keep (dK (drS I ops.toList (ops.toList.take (ops.toList.length-e)) acc st' ts ol).fr) (dK (drS I ops.toList (ops.toList.take (ops.toList.length-e)) acc st' ts ol).hp) with
     | some s=>chk P I b t lf kR (.o ops.toList (ops.toList.drop (ops.toList.length-e)) ks) s
     | none=>bad b))
  | _=>bad b
 | _,@Tr.mk _ _ K V mk n enc t,lf,acc,g,st=>match run I n g st with
  | some (.o all (op::l) ks,st',C,fs)=>match op.op,op.dst,cQ all op st' with
   | .makeMap _ none,some d,some true=>match Nat.blt d I.nt,oR d I.N,st'.erase d with
    | true,true,some st1=>.and (asks b C fs True) (chk P I b t lf acc (.o all l ks) (({ st1 with hp:=(d,.mp none (@eM K V mk enc []) none)::st1.hp }:St).put d (.map d)))
    | _,_,_=>bad b
   | _,_,_=>bad b
  | _=>bad b
 | _,@Tr.upd _ _ K V mk n enc v k t,lf,acc,g,st=>match run I n g st with
  | some (.o all (op::l) ks,st',C,fs)=>match aEO op.op,op.dst,cQ all op st' with
   | some (ty,x,kx,vx),none,some true=>match ev st' x,ev st' kx,ev st' vx with
    | some (.map ob),some kp,some p=>match bK st'.hp ob,Ti I.ti ty (MKey.kT k) with
     | some (.mp it m ho),some _=>.and (asks b C fs True) (.and (vt b kp (.t (MKey.kT k))) (.and (vt b (m,ho) (@eM K V mk enc v,some (MKey.kT k,none))) (.and (match it with | none=>.ok | some i=>vt b i.cur (some (MKey.kT k)))
       (chk P I b t lf acc (.o all l ks) { st' with hp:=(ob,.mp it (@eM K V mk enc v) (some (MKey.kT k,some p)))::del ob st'.hp }))))
     | _,_=>bad b
    | _,_,_=>bad b
   | _,_,_=>bad b
  | _=>bad b
section
variable {P:Program} {E:Env} {I:Inf} {Q:gL} {st st':St}
theorem dC{C:List Prop}{fs:List (Nat->Bool)}{p:Prop}(h:asks true C fs p=asks false C fs p)(hp:p):All C/\∀ f,f∈fs->∀ i,f i=true:=by obtain⟨h1,h2⟩:=aO h;have h1:=bH h1;have h2:=bH h2;refine⟨h1.symm▸hp,fun f hf i=>?_⟩;rw[h2]at hf;obtain⟨_,_,rfl⟩:=dW.1 hf;rfl
theorem vA{c:Code}{Q1 Q2:gL}(h:pwp P E c Q1 st)(hq:∀ e s,Q1 e s->∃ t,Le E s t/\Q2 e t):pwp P E c Q2 st:=
 fun hn a w r=>wpIn_mono (h hn a w r) fun e _ _ ⟨s,hs,ho,hr⟩=>let ⟨t,h1,h2⟩:=hq e s hs; ⟨t,h2,ho,h1 _ _ hr⟩
theorem aHQ{o:Oper}{a:Act}{w:World}{K K':Act->World->Prop}{Q Q':Exit->Act->World->Prop}(hk:∀ a w,K a w->K' a w)(hq:∀ e a w,Q e a w->Q' e a w)
  (hh:o.wp P a w K Q):o.wp P a w K' Q':=by
 unfold Oper.wp at *
 generalize (execOp a.eval o).run P w=r at *
 have hl:LetsOut Q->LetsOut Q':=fun⟨a,w,h⟩=>⟨a,w,hq _ _ _ h⟩;cases r with
 | ok n w'=>
  cases n <;> simp only[Oper.upon]at hh ⊢ <;>
   first
    | exact hk _ _ hh
    | exact Calls.mono hh (fun e w'' he=>by cases e <;> first | exact hk _ _ he | exact hq _ _ _ he | exact hl he)
    | exact Rows.mono hh (fun _ _ he=>hk _ _ he)
 | halt x w'=>cases x <;> simp only[Oper.upon]at hh ⊢ <;> first | exact hq _ _ _ hh | exact hh
theorem qN{ops:Array Oper}{Q Q':Exit->Act->World->Prop}(hq:∀ e a w,Q e a w->Q' e a w):∀ {l:List Oper} {a:Act} {w:World},wpList P ops Q l a w->wpList P ops Q' l a w
 | [],a,w,h=>hq _ _ _ h
 | o::rest,a,w,h=>by
  simp only[wpList]at h ⊢;split
  ·rename_i hw;rw[aA hw]at h;rcases h with h | ⟨h1,⟨a',w',h2⟩⟩
   ·exact .inl (aHQ (fun _ _ h=>qN hq h) hq h)
   ·exact .inr ⟨h1,⟨a',w',hq _ _ _ h2⟩⟩
  ·rename_i hw;rw[aF hw]at h;exact qN hq h
theorem xJ{Q1 Q2:gL}(hq:∀ e s,Q1 e s->∃ t,Le E s t/\Q2 e t):∀ {ks:List Kf} {e:Exit} {s:St},kQ P E ks Q1 e s->∃ t,Le E s t/\kQ P E ks Q2 e t
 | [],e,s,h=>hq e s h
 | .s y::ks,e,s,h=>by
  unfold kQ at h ⊢;unfold xT at h ⊢;cases e with
  | normal=>exact⟨s,.refl,vA h fun e s h=>xJ hq h⟩
  | _=>exact xJ hq (ks:=ks) h
 | .b id::ks,e,s,h=>by
  unfold kQ at h ⊢;unfold kU at h ⊢;cases e with
  | exit i=>
   simp only at h ⊢;split at h
   ·rename_i hi; simp only[aA hi]; exact xJ hq h
   ·rename_i hi; simp only[aF hi]; exact xJ hq h
  | _=>exact xJ hq (ks:=ks) h
theorem An:∀ (m:Nat) (ks:List Kf),kQ P E ks Q=kQ P E (ks.take m) (kQ P E (ks.drop m) Q)
 | 0,ks=>by simp[kQ]
 | m+1,[]=>by simp[kQ]
 | m+1,.s y::ks=>by simp only[List.take_succ_cons,List.drop_succ_cons,kQ]; rw[An m ks]
 | m+1,.b id::ks=>by simp only[List.take_succ_cons,List.drop_succ_cons,kQ]; rw[An m ks]
theorem Lv{m:Nat}{g:Cfg}{Q1:gL}(h:cwp P E (Pe m g) Q1 st)(hq:∀ e s,Q1 e s->∃ t,Le E s t/\kQ P E (Dv m g) Q e t):cwp P E g Q st:=by
 cases g with
 | c x ks=>show pwp P E x (kQ P E ks Q) st;rw[An m ks];exact vA h fun e s h=>xJ hq h
 | o all l ks=>show fR P E all (kQ P E ks Q) l st;rw[An m ks];exact fun a w r=>qN (fun e a w ⟨s,hs,ho,hr⟩=>let ⟨t,h1,h2⟩:=xJ hq hs; ⟨t,h2,ho,h1 _ _ hr⟩) (h a w r)
 | x e ks=>obtain⟨t,h1,h2⟩:=h;show ∃ t,Le E st t/\kQ P E ks Q e t;rw[An m ks];obtain⟨u,h3,h4⟩:=xJ hq h2;exact⟨u,h1.trans h3,h4⟩
def xK(F:Fence)(P:Program)(c:Code)(Q:Exit->Act->World->Prop)(a:Act)(w:World):Prop:=
 ∀ (b:Frame) k cs,b.roundOf=F.round->F.fn b.fn->F.room (cs.length+1+0)->∃ e a' w',Q e a' w'/\ArrivesIn (Machine.fenced P F) P (lone (b.atR a (.code c :: .inLoop c::k)) cs w) b k cs e a' w'
theorem xK.of{F:Fence}{c:Code}{Q:Exit->Act->World->Prop}{a:Act}{w:World}(h:c.wpIn F 0 P (Exit.then (xK F P c Q) Q) a w):xK F P c Q a w:=by
 intro b k cs hro hb hr;obtain⟨e,a₁,w₁,hq,harr⟩:=h b (.inLoop c::k) cs hro hb hr;cases e with
 | normal=>obtain⟨e₂,a₂,w₂,hq₂,harr₂⟩:=hq b k cs hro hb hr;exact⟨e₂,a₂,w₂,hq₂,.of_steps (StepsIn.trans harr (.one (fenced_calm hb hr rfl) stepR_inLoop)) harr₂⟩
 | exit id=>exact⟨_,a₁,w₁,hq,.pass (x:=.inLoop c) rfl (fun _ _=>.inl (by simp)) harr⟩
 | goto l=>exact⟨_,a₁,w₁,hq,.pass (x:=.inLoop c) rfl (fun _ _=>.inl (by simp)) harr⟩
 | ret=>exact⟨_,a₁,w₁,hq,.pass (x:=.inLoop c) rfl (fun _ _=>.inl (by simp)) harr⟩
 | panic ch=>exact⟨_,a₁,w₁,hq,.pass (x:=.inLoop c) rfl (fun _ _=>.inl (by simp)) harr⟩
 | outgrown=>exact⟨_,a₁,w₁,hq,.pass (x:=.inLoop c) rfl (fun _ _=>.inl (by simp)) harr⟩
theorem xK.loop{F:Fence}{c:Code}{Q:Exit->Act->World->Prop}{a:Act}{w:World}(h:xK F P c Q a w):(Code.loop c).wpIn F 0 P Q a w:=by intro b k cs hro hb hr;obtain⟨e,a',w',hq,harr⟩:=h b k cs hro hb hr;exact⟨e,a',w',hq,.of_steps (.one (fenced_calm hb hr rfl) stepR_loop) harr⟩
def aFA{S R:Type}(E:Env)(tm:S->St)(Out:R->gL):S⊕R->gL
 | .inl s',e,s=>e = .normal/\Le E s (tm s')
 | .inr r,e,s=>e ≠ .normal/\Out r e s
theorem Ye{c:Code}{S R:Type}{b:S->(S⊕R->Prop)->Prop}{tm:S->St}{Out:R->gL}{Q':R->Prop}(hb:∀ s (Z:S⊕R->Prop),b s Z->pwp P E c (fun e st=>∃ z,Z z/\aFA E tm Out z e st) (tm s))
  {s0:S}(h:Tr.LoopT b Q' s0)(hq:∀ r e st,Q' r->Out r e st->∃ t,Le E st t/\Q e t):pwp P E (.loop c) Q (tm s0):=by
 intro hn a w r;refine xK.loop ?_;refine h (fun s=>∀ a w,Rel E (tm s) a w->xK (Fz E.rd) P c (nH E Q) a w) (fun s hs a w r=>xK.of (wpIn_mono (hb s _ hs hn.loop a w r) fun e a' w' ⟨st',⟨z,hz,hm⟩,ho,hr⟩=>?_)) a w r;cases z with
 | inl s'=>obtain⟨rfl,hle⟩:=hm; exact hz a' w' (hle _ _ hr)
 | inr r'=>
  obtain⟨hne,hm⟩:=hm;obtain⟨t,h1,h2⟩:=hq r' e st' hz hm;cases e with
  | normal=>exact absurd rfl hne
  | outgrown=>exact absurd rfl ho
  | _=>exact⟨t,h2,nofun,h1 _ _ hr⟩
theorem yG{t s:St}(h:s.keep (dK t.fr) (dK t.hp)=some t):Le E s t:=Le.keep h
theorem oE{S:Type}{tm:S->St}{v:S}{e:Exit}{s:St}(h:Di true tm v e s=Di false tm v e s):e = .normal/\Le E s (tm v):=by
 unfold Di at h;split at h
 ·exact⟨rfl,yG (bH h)⟩
 ·exact(aP h).elim
theorem wU{Y:Type}{lt lf:Y->Exit->St->VT}{ks:List Kf}{y:Y}{e:Exit}{s:St}(h:qU true lt ks y e s=qU false lf ks y e s)(hl:∀ e s,lt y e s=lf y e s->∃ u,Le E s u/\Q e u):
  e ≠ .normal/\∃ t,Le E s t/\kQ P E ks Q e t:=by
 unfold qU at h;cases e with
 | normal=>exact(aP h).elim
 | _=>
  refine⟨by simp,?_⟩;simp only at h;split at h
  ·rename_i e' hn;obtain⟨u,h1,h2⟩:=hl _ _ h;show cwp P E (.x _ ks) Q s;refine At (n:=300) ?_;rw[hn];exact⟨u,h1,h2⟩
  ·exact(aP h).elim
theorem aJZ{R:Type}{bt:R->St}{ex:Nat}{r:R}{e:Exit}{s:St}(h:aLG true bt ex r e s=aLG false bt ex r e s):e = .exit ex/\Le E s (bt r):=by
 unfold aLG at h;split at h
 ·split at h
  ·rename_i hi;have:=cJ hi;subst this;exact⟨rfl,yG (bH h)⟩
  ·exact(aP h).elim
 ·exact(aP h).elim
theorem Az{all:List Oper}{op:Oper}{d k:Nat}{as:List PV}(h:xP I all op st=some (d,k,as)):∃ c f nf caps aps,op.op = .call c/\c.callee = .value f/\op.dst=some d/\cQ all op st=some true/\Nat.blt d I.nt=true /\
  ev st f=some (.fn (.func k) nf caps)/\hU st c.args.toList=some aps/\as=caps.take nf++aps++caps.drop nf:=by
 unfold xP at h;split at h
 ·rename_i c d' h1 h2 h3;split at h
  ·rename_i f h4 h5;split at h
   ·rename_i k' nf caps aps h6 h7;cases h;exact⟨c,f,nf,caps,aps,h1,h4,h2,h3,h5,h6,h7,rfl⟩
   ·cases h
  ·cases h
 ·cases h
theorem aIH:∀ {as bps:List PV},oF true st as bps=oF false st as bps->jT st (mG as bps) as bps:=by
 have key:∀ {as bps:List PV},oF true st as bps=oF false st as bps->∀ L,(∀ o,o∈mG as bps->o∈L)->jT st L as bps:=by
  intro as
  induction as with
  | nil=>intro bps h L _; cases bps with | nil=>exact .nil | cons q r=>exact(aP h).elim
  | cons p l ih=>
   intro bps h L hL;cases bps with
   | nil=>exact(aP h).elim
   | cons q r=>
    obtain⟨h1,h2⟩:=aO h;have hsame:∀ {p q:PV},vt true p q=vt false p q->Iu st L p q:=fun h=>by have h:=bH h; subst h; exact .same _
    have h2':(∀ o,o∈mG l r->o∈L)->jT st L l r:=fun hh=>ih h2 L hh;unfold aWL at h1;split at h1
    ·rename_i x;refine .cons ?_ (h2' fun o ho=>hL o (by simpa[mG] using ho));have h1:=bH h1;unfold Qi at h1;split at h1
     ·rename_i n f hv; cases h1; exact .nil hv
     ·cases h1
    ·rename_i o x;refine .cons ?_ (h2' fun o ho=>hL o (by simp[mG,ho]));split at h1
     ·rename_i e s n f hl;exact .lend (hL _ (by simp[mG])) hl (bH h1).symm
     ·rename_i e s n f hl;split at h1
      ·rename_i m gf hv;obtain⟨h3,h4⟩:=aO h1;have h3:=bH h3;subst h3;have h4:=bH h4;exact .lendA (hL _ (by simp[mG])) hl (fun i _=>congrFun h4 i) hv
      ·exact(aP h1).elim
     ·exact(aP h1).elim
    ·rename_i n f m g;obtain⟨h3,h4⟩:=aO h1;have h3:=bH h3;subst h3;refine .cons (.imp (sE rfl rfl (iI (bH h4)))) (h2' fun o' ho'=>hL o' (by simp[mG,ho']))
    ·rename_i l' r';exact .cons (.imp (Ae (fZ h1))) (h2' fun o' ho'=>hL o' (by simp[mG,ho']))
    ·rename_i hn ho hsl;refine .cons (hsame h1) (h2' fun o' ho'=>hL o' ?_);cases p <;> simp[mG,ho']
 intro as bps h;exact key h _ fun _ h=>h
theorem lE{fr:Fr}:∀ {as bps:List PV},oF true ⟨fr,[]⟩ as bps=oF false ⟨fr,[]⟩ as bps->∀ st,jT st [] as bps:=by
 intro as
 induction as with
 | nil=>intro bps h st; cases bps with | nil=>exact .nil | cons q r=>exact(aP h).elim
 | cons p l ih=>
  intro bps h st;cases bps with
  | nil=>exact(aP h).elim
  | cons q r=>
   obtain⟨h1,h2⟩:=aO h;refine .cons ?_ (ih h2 st);unfold aWL at h1;split at h1
   ·rename_i x;have h1:=bH h1;unfold Qi at h1;split at h1
    ·rename_i n f hv; cases h1; exact .nil hv
    ·cases h1
   ·simp[bK]at h1; exact(aP h1).elim
   ·rename_i n f m g;obtain⟨h3,h4⟩:=aO h1;have h3:=bH h3;subst h3;exact .imp (sE rfl rfl (iI (bH h4)))
   ·exact .imp (Ae (fZ h1))
   ·have h1:=bH h1; subst h1; exact .same _
theorem aFN{all:List Oper}{op:Oper}{d e len:Nat}{j:eG}{c:List PV}(h:bsI I all op st=some (d,e,j,len,c)):∃ t parts i ps,op.op = .buildSlice t len parts/\op.dst=some d/\cQ all op st=some true/\Nat.blt d I.nt=true /\
  I.ti t=some i/\i.und = .sl e/\I.ti e=some j/\gM st parts.toList=some ps/\len*j.size<=16777216/\1<=j.size/\j.zero.length=j.size/\mJ (fun i=>some (i*j.size,j.size)) (iA j (len*j.size)) ps=some c/\c.length=len*j.size:=by
 unfold bsI at h;split at h
 case h_2=>cases h
 rename_i t len' parts d' h1 h2 h3;split at h
 case h_2=>cases h
 rename_i i ps h4 h5 h6;split at h
 case h_2=>cases h
 rename_i e' h7;split at h
 case h_2=>cases h
 rename_i j' h8;split at h
 case h_2=>cases h
 rename_i c' h9 h10 h11 h12;split at h
 ·rename_i h13;cases h;exact⟨t,parts,i,ps,h1,h2,h3,h6,h4,h7,h8,h5,fH h9,fH h10,cJ h11,h12,cJ h13⟩
 ·cases h
theorem aYD{c:Option (Nat×bA)}{Hs:Hp}(h:ch1 c Hs=true):∀ d,c=some d->d.1∈dK Hs:=by rintro⟨o,x⟩ rfl;exact dE.1 h
theorem aKX{all:List Oper}{op:Oper}{d m:Nat}{ng:Bool}(h:aFQ I all op st=some (d,ng,m)):∃ o t x y z i p,op.op = .binOp o t x y z/\((o = .eql/\ng=true)\/(o = .neq/\ng=false))/\op.dst=some d/\cQ all op st=some true/\Nat.blt d I.nt=true/\I.ti t=some i/\(∃ e,i.und = .sl e) /\
  ev st x=some p/\((∃ q f,p = .t q/\q.view=some (m,f))\/(m=0/\∃ o,p = .own o))/\ev st y=some .nil:=by
 unfold aFQ at h;split at h
 case h_2=>cases h
 rename_i o t x y z d' h1 h2 h3;split at h
 case h_7=>cases h
 all_goals
  rename_i h4 h5 h6 h7;split at h
  ·rename_i e h8;cases h
   first
    | exact⟨_,t,x,y,z,_,_,h1,.inl ⟨rfl,rfl⟩,h2,h3,h7,h4,⟨e,h8⟩,h5,.inl ⟨_,_,rfl,rfl⟩,h6⟩
    | exact⟨_,t,x,y,z,_,_,h1,.inr ⟨rfl,rfl⟩,h2,h3,h7,h4,⟨e,h8⟩,h5,.inl ⟨_,_,rfl,rfl⟩,h6⟩
    | exact⟨_,t,x,y,z,_,_,h1,.inl ⟨rfl,rfl⟩,h2,h3,h7,h4,⟨e,h8⟩,h5,.inr ⟨rfl,_,rfl⟩,h6⟩
    | exact⟨_,t,x,y,z,_,_,h1,.inr ⟨rfl,rfl⟩,h2,h3,h7,h4,⟨e,h8⟩,h5,.inr ⟨rfl,_,rfl⟩,h6⟩
  ·cases h
theorem aHH(hG:fF P E I){all l:List Oper}{op:Oper}{d e len:Nat}{j:eG}{c:List PV}{ts:List T}(h:bsI I all op st=some (d,e,j,len,c))(hts:wJ c ts)
  (hk:fR P E all Q l (st.put d (.t (.sl len (dT ts j.size))))):fR P E all Q (op::l) st:=by
 obtain⟨t,parts,i,ps,h1,h2,h3,h4,h5,h6,h7,h8,h9,h10,h11,h12,h13⟩:=aFN h;refine iL rfl h3 fun F g a w r=>?_;have hte:=(hG.ti _ _ h5).und;rw[h6]at hte;obtain⟨u,w',F',e1,e2⟩:=pO (P:=P) (d:=d) hG.nt r hte (hG.ti _ _ h7) h8 h9 h10 h11 h12 hts h13 (by simpa[fE] using h4);exact⟨_,u,w',_,by unfold execOp; simp[h1,e1],.inl rfl,by rw[h2]; exact⟨F',g,e2⟩,hk⟩
theorem aHG(hG:fF P E I)(htop:I.top=true){all l:List Oper}{op:Oper}{f:Nat}(h:dfI all op st=some f)(hh:∀ cap,lS P { target:=.fn (.func f) cap,args:=#[] })(hk:fR P E all Q l st):fR P E all Q (op::l) st:=by
 unfold dfI at h;split at h
 case h_2=>cases h
 rename_i c hop hd hw;split at h
 case h_2=>cases h
 rename_i x hc ha;split at h
 case h_2=>cases h
 rename_i f' cs hx;cases h;intro a w r;refine wpList_step fun K hK=>?_;obtain⟨F,g,r⟩:=r;have hwt:=fU (ops:=all.toArray) r (by simpa using hw);rw[aA hwt];have hv:=bW r hx;have ha:c.args=#[]:=by cases hq:c.args with | mk l=>rw[hq]at ha; simp at ha; rw[ha]
 obtain⟨u,hu⟩:∃ u,a.eval x=u:=⟨_,rfl⟩;rw[hu]at hv;cases hv with
 | @fn _ _ _ us vs hn hs hr=>
  have hus:us=#[]:=xU hn;subst hus;unfold Oper.wp;have hrun:(execOp a.eval op).run P w = .ok (.defer { target:=.fn (.func f) vs,args:=#[] }) w:=by unfold execOp;simp[hop,resolve,hc,ha,hu,Deferred.ofValue]
  rw[hrun];show K _ w;refine hK _ _ (hk _ _ ⟨F,g,?_,?_,?_,r.w⟩)
  ·rw[hd]; exact r.nt
  ·rw[hd];refine⟨fun d hd'=>?_,List.pairwise_cons.2 ⟨fun d hd' D e=>(by cases e),r.df.one⟩,fun d h=>cV _ (r.df.mu d h)⟩;rcases aX.1 hd' with rfl | hd'
   ·exact .inl (hG.dk htop _ (hh vs))
   ·exact r.df.ok d hd'
  ·rw[hd]; exact r.fr
theorem aQK(hG:fF P E I){all l:List Oper}{op:Oper}{d:Nat}{s:ByteArray}(h:cbI I all op st=some (d,s))(hk:fR P E all Q l (st.put d (.t (eL cU8 (eA s))))):fR P E all Q (op::l) st:=by
 unfold cbI at h;split at h
 case h_2=>cases h
 rename_i t1 t2 x d' hop hd hw;split at h
 case h_2=>cases h
 rename_i i j y hi hj hx hlt;split at h
 case h_2=>cases h
 rename_i e hui huj;split at h
 case h_2=>cases h
 rename_i k hk';split at h
 case h_2=>cases h
 rename_i huk;cases h;refine iL rfl hw fun F g a w r=>?_;have hs:=(hG.ti _ _ hi).und; rw[hui]at hs;have hd':=(hG.ti _ _ hj).und; rw[huj]at hd';have he:=(hG.ti _ _ hk').und; rw[huk]at he;have hv:=(bW r hx).inv_str;have hrun:=run_bytes_of_string (P:=P) w t1 t2 e s hs hd' he;have hcap:=grownCap_ge w s.size 0 e;have hl:(eA s).length=s.size:=by simp[eA]
 refine⟨.value (.slice (some ⟨w.heap.size,0,none⟩) s.size (grownCap w s.size 0 e)),.slice (some ⟨w.heap.size,0,none⟩) s.size (grownCap w s.size 0 e),w.drew.alloc (.cells (bytesRow s (grownCap w s.size 0 e)) e ((bytesRow s (grownCap w s.size 0 e)).size,(bytesRow s (grownCap w s.size 0 e)).size+1)),_,by unfold execOp; simp[hop,hv,hrun],.inl rfl,?_,hk⟩;rw[hd];refine⟨_,g,r.fresh (ob:=(.cells (bytesRow s (grownCap w s.size 0 e)) e ((bytesRow s (grownCap w s.size 0 e)).size,(bytesRow s (grownCap w s.size 0 e)).size+1))) (w':=w.drew.alloc (.cells (bytesRow s (grownCap w s.size 0 e)) e ((bytesRow s (grownCap w s.size 0 e)).size,(bytesRow s (grownCap w s.size 0 e)).size+1))) rfl rfl rfl rfl (by rw[hG.nt]; simpa[fE] using hlt) (.t (.sl (t:=eL cU8 (eA s)) (n:=s.size) (f:=eF cU8 (eA s)) ⟨w.heap.size,0,none⟩ _ 1 (fun i _=>.int .u8 ((eA s).getD i default)) (by simp only[eL,T.view,hl]; rfl) hcap (fun _=>.inr rfl) (fun _ _=>rfl) (fun i k hi hk=>?_) (fun i k x hi hx=>?_)))⟩
 ·have hk0:k=0:=by omega
  subst hk0;rw[Addr.add_none];have hsz:i<s.data.size:=hi;have hnew:=heap_alloc_new w.drew (.cells (bytesRow s (grownCap w s.size 0 e)) e ((bytesRow s (grownCap w s.size 0 e)).size,(bytesRow s (grownCap w s.size 0 e)).size+1));simp only[World.cell?];have hnew:(w.drew.alloc (.cells (bytesRow s (grownCap w s.size 0 e)) e ((bytesRow s (grownCap w s.size 0 e)).size,(bytesRow s (grownCap w s.size 0 e)).size+1))).heap[w.heap.size]? = _:=hnew;rw[hnew];simp only[Nat.mul_one,tV,eW];rw[show (bytesRow s (grownCap w s.size 0 e))[i]? = some (.int .u8 (s.data[i].toNat:Int)) from bytesRow_at s _ i hsz];have:(eA s).getD i default=(s.data[i].toNat:Int):=by simp[eA,uN hsz]
  rw[this];rfl
 ·have hx:(cU8 ((eA s).getD i default))[k]? = some x:=hx;unfold cU8 at hx;have hk0:k=0:=by have:=(eK.1 hx).1; simp at this; omega
  subst hk0;simp at hx;subst hx;have e:(eA s)[i]?.getD default=(eA s).getD i default:=by simp
  first | exact .int _ _ | (rw[e]; exact .int _ _)
theorem aJQ(hG:fF P E I){all l:List Oper}{op:Oper}{d e len:Nat}{j:eG}{c:List PV}{ts:List T}(h:bsI I all op st=some (d,e,j,len,c))(hts:wJ c ts)
  (hn:fW I st d (.arr e j.size len (dT ts j.size)) (.own d)=some st')(hk:fR P E all Q l st'):fR P E all Q (op::l) st:=by
 obtain⟨t,parts,i,ps,h1,h2,h3,h4,h5,h6,h7,h8,h9,h10,h11,h12,h13⟩:=aFN h;refine iL rfl h3 fun F g a w r=>?_;have hte:=(hG.ti _ _ h5).und;rw[h6]at hte;obtain⟨u,w',e1,e2⟩:=nJ (P:=P) (d:=d) hG.N hG.nt r hte (hG.ti _ _ h7) h8 h9 h10 h11 h12 hts h13 hn;exact⟨_,u,w',_,by unfold execOp; simp[h1,e1],.inl rfl,by rw[h2]; exact e2,hk⟩
theorem Yx(hG:fF P E I){all l:List Oper}{op:Oper}{d m:Nat}{ng:Bool}(h:aFQ I all op st=some (d,ng,m))(h1:m=0->fR P E all Q l (st.put d (.t (.bool ng))))(h0:fR P E all Q l (st.put d (.t (.bool (!ng))))):fR P E all Q (op::l) st:=by
 obtain⟨o,t,x,y,z,i,p,e1,e2,e3,e4,e5,e6,⟨e,e7⟩,e8,e9,e10⟩:=aKX h;refine iL rfl e4 fun F g a w r=>?_;have hd':d<E.nt:=by rw[hG.nt]; simpa[fE] using e5
 have hte:=(hG.ti _ _ e6).und;rw[e7]at hte;have hx:=bW r e8;have hy:=bW r e10;obtain⟨u,hu⟩:∃ u,a.eval x=u:=⟨_,rfl⟩;obtain⟨v,hv⟩:∃ u,a.eval y=u:=⟨_,rfl⟩;rw[hu]at hx; rw[hv]at hy;have hs:∃ ad n c,u = .slice ad n c/\(ad.isNone=true->m=0):=by
  rcases e9 with⟨q,f,rfl,hvw⟩ | ⟨h00,o,rfl⟩
  ·cases hx with
   | t hx=>cases hx with
    | nil hv=>exact⟨_,_,_,rfl,fun _=>by rw[hvw]at hv; injection hv with hv; injection hv⟩
    | sl=>exact⟨_,_,_,rfl,fun hn=>by simp at hn⟩
    | _=>cases hvw
  ·cases hx with
   | own=>exact⟨_,_,_,rfl,fun _=>h00⟩
 obtain⟨ad,n,c,rfl,hm⟩:=hs;cases hy;have hq:=run_equal_slice_nil (P:=P) w t e ad n c hte;have hres:(binOp o t (.slice ad n c) (.slice none 0 0)).run P w = .ok (.bool (if ad.isNone then ng else !ng)) w:=by
  rcases e2 with⟨rfl,rfl⟩ | ⟨rfl,rfl⟩
  ·cases ad <;> simp[binOp,hq]
  ·cases ad <;> simp[binOp,hq]
 have hg:(eqGuard o t x y (.slice ad n c) (.slice none 0 0)).run P w = .ok () w:=by unfold eqGuard; cases o <;> simp
 have hex:(execOp a.eval op).run P w = .ok (.value (.bool (if ad.isNone then ng else !ng))) w:=by unfold execOp;simp[e1,hu,hv,hg,hres]
 cases had:ad.isNone with
 | true=>rw[had]at hex;exact⟨_,_,w,_,hex,.inl rfl,by rw[e3]; exact⟨F,g,r.put hd' (.t (.bool _))⟩,h1 (hm had)⟩
 | false=>rw[had]at hex;exact⟨_,_,w,_,hex,.inl rfl,by rw[e3]; exact⟨F,g,r.put hd' (.t (.bool _))⟩,h0⟩
end
section
variable {P:Program} {E:Env} {I:Inf} {Q:gL} {st st':St} {F:Nat->Prop} {g:Nat->Value} {a:Act} {w:World}
theorem Bv(r:cL E F g st a w){t e:TypeId}{j:eG}(ht:P.underlying t=some (.slice e))(hj:TOk P e j){ad:Option Addr}{n cap:Nat}(hcap:n<=cap)
  {lo hi:Option Operand}{l h:Int}(hl:eY st 0 lo=some l)(hh:eY st n hi=some h)(hc:0<=l/\l<=h/\h<=(n:Int)):
  (Instr.sliceAt t (.slice ad n cap) (lo.map a.eval) (hi.map a.eval) none).run P w = .ok (.slice (if cap=l.toNat then ad else ad.map (·.add (l.toNat*j.size))) (h.toNat-l.toNat) (cap-l.toNat)) w:=by
 obtain⟨h1,h2,h3⟩:=hc;have e:(Instr.sliceAt t (.slice ad n cap) (lo.map a.eval) (hi.map a.eval) none).run P w=(Instr.slice t (.slice ad n cap) (lo.map a.eval) (hi.map a.eval) none).run P w:=by simp[Instr.sliceAt,run_underlying ht]
 have hb:(Instr.sliceBounds true n cap (lo.map a.eval) (hi.map a.eval) none).run P w = .ok (l.toNat,h.toNat,cap) w:=by
  unfold Instr.sliceBounds;rcases gT r hl with⟨rfl,rfl⟩ | ⟨y,k,rfl,hy⟩ <;> rcases gT r hh with⟨rfl,rfl⟩ | ⟨y',k',rfl,hy'⟩
  ·simp
  ·simp[hy',bX (P:=P) (w:=w) (k:=k') (n:=h) (y:=cap) ⟨by omega,by omega⟩]
  ·simp[hy,bX (P:=P) (w:=w) (k:=k) (n:=l) (y:=n) ⟨h1,by omega⟩]
  ·simp[hy,hy',bX (P:=P) (w:=w) (k:=k') (n:=h) (y:=cap) ⟨by omega,by omega⟩,bX (P:=P) (w:=w) (k:=k) (n:=l) (y:=h.toNat) ⟨h1,by omega⟩]
 rw[e];simp[Instr.slice,run_underlying ht,hb,run_sizeOf hj]
theorem cL.erase(r:cL E F g st a w){o:Nat}{st1:St}(he:st.erase o=some st1):cL E F g st1 a w:=
 ⟨r.nt,r.df,fun t y hy=>r.fr t y (St.erase_fr he t y hy).1,⟨⟨fun k y hy=>by
   obtain⟨x,h1,_,_,h4,_⟩:=St.erase_hp he k y hy; exact h4 _ _ _ (r.w.hp.obj k x h1),fun k y b hy hb=>by
   obtain⟨x,h1,_,_,_,h5⟩:=St.erase_hp he k y hy; exact r.w.hp.own k x b h1 (h5 _ _ _ hb),fun k y k' y' b hy hy' hne hb hb'=>by
   obtain⟨x,h1,_,_,_,h5⟩:=St.erase_hp he k y hy; obtain⟨x',h1',_,_,_,h5'⟩:=St.erase_hp he k' y' hy'; exact r.w.hp.sep k x k' x' b h1 h1' hne (h5 _ _ _ hb) (h5' _ _ _ hb')⟩,
   r.w.f0,r.w.f1,r.w.ext,r.w.names,r.w.b0⟩⟩
theorem aJB(hG:fF P E I){ops l:List Oper}{o:Oper}{rest:List Oper}{t:TypeId}{x:Operand}{lo hi:Option Operand}{d q e e' s n:Nat}{f:Nat->List T}{h:Int}{i j:eG}(hl:l=o::rest)(hop:o.op = .slice t x lo hi none)
  (hd:o.dst=some d)(hw:cQ ops o st=some true)(hx:ev st x=some (.own q))(hq:bK st.hp q=some (.arr e s n f))(hlo:eY st 0 lo=some 0)(hhi:eY st n hi=some h)(hi:I.ti t=some i)(hu:i.und = .sl e')(hj:I.ti e'=some j)
  (hc:0<=h/\h<=(n:Int)){st1:St}(he:st.erase q=some st1)(hn:fW I st1 d (.arr e s h.toNat f) (.own d)=some st')(hk:fR P E ops Q rest st'):fR P E ops Q l st:=by
 refine iL hl hw fun F g a w r=>?_;have hte:=(hG.ti _ _ hi).und;rw[hu]at hte;have hxv:=bW r hx;obtain⟨u,hue⟩:∃ u,a.eval x=u:=⟨_,rfl⟩;rw[hue]at hxv;have hob:=r.w.hp.obj _ _ (aU hq);cases hxv with
 | @own _ n' cap ad hg=>
  have hcap:n'=n/\n<=cap:=by
   rcases hob with⟨h1,h2⟩ | ⟨b,cap',cur,h1,_,h3,_⟩
   ·rw[hg]at h1; cases h1; omega
   ·rw[hg]at h1; cases h1; exact⟨rfl,h3⟩
  obtain⟨rfl,hcap⟩:=hcap;have hrun:=Bv (P:=P) r hte (hG.ti _ _ hj) (ad:=ad) hcap hlo hhi ⟨by omega,by omega,hc.2⟩;have had:(if cap=(0:Int).toNat then ad else ad.map (·.add ((0:Int).toNat*j.size)))=ad:=by
   split
   ·rfl
   ·cases ad with
    | none=>rfl
    | some ad=>simp[Addr.add]
  rw[had]at hrun;simp only[tD,Nat.sub_zero]at hrun;have hex:(execOp a.eval o).run P w = .ok (.value (.slice ad h.toNat cap)) w:=by unfold execOp;simp[hop,hue,hrun]
  refine⟨_,_,w,st',hex,.inl rfl,?_,hk⟩;rw[hd];have r1:=r.erase he;unfold fW at hn;split at hn
  ·rename_i st2 g1 g2 g3;cases hn;have hd':d<E.nt:=by rw[hG.nt]; simpa[fE] using g1
   have hlm:=aU hq;have hblk:∀ b,blk (.slice ad h.toNat cap)=some b->blk (g q)=some b:=by
    intro b hb;rw[hg];cases ad with
    | none=>cases hb
    | some ad=>exact hb
   refine⟨F,upd g d (.slice ad h.toNat cap),r1.putW hd' (fun b hb=>⟨hb,rfl⟩) (fun t y hy=>?_) ?_ (.own (bM ..))⟩
   ·obtain⟨e1,e2⟩:=St.erase_fr g3 t y hy;exact⟨e1,fun o ho=>bR g _ (e2 o ho)⟩
   ·have hdis:∀ k y b,(k,y)∈st1.hp->bG g w k y b->blk (.slice ad h.toNat cap)=some b->False:=by intro k y b hy hb hb';obtain⟨x,hx1,hx2,_,_,hx5⟩:=St.erase_hp he k y hy;exact r.w.hp.sep k x q _ b hx1 hlm hx2 (hx5 _ _ _ hb) (.self (hblk b hb'))
    have hself:∀ b,bG (upd g d (.slice ad h.toNat cap)) w d (.arr e s h.toNat f) b->blk (.slice ad h.toNat cap)=some b:=by
     intro b hb;have:=hb.toBlk rfl
     rwa [bM]at this
    refine⟨HpR.change r1.w.hp g3 (fun o ho=>bR g _ ho) (fun b hb=>⟨hb,rfl⟩) (fun _ h=>h) (fun _ _ _ _ _ _=>rfl) ?_ (fun b hb=>?_) (fun k y b hk hne hb hb'=>hdis k y b hk hb (hself b hb')),r.w.f0,r.w.f1,r.w.ext,fun k hk=>?_,r.w.b0⟩
    ·simp only[dD,bM];rcases hob with⟨h1,h2⟩ | ⟨b,cap',cur,h1,h2,h3,h4,h5,h6,h7⟩
     ·rw[hg]at h1;injection h1 with h1 h8 h9;subst h1;have:h.toNat=0:=by omega
      rw[this,h9];exact .inl ⟨rfl,rfl⟩
     ·rw[hg]at h1;injection h1 with h1 h8 h9;subst h1 h9;exact .inr ⟨b,cap,cur,rfl,h2,by omega,h4,h5,fun i hi=>h6 i (by omega),fun i k x hi hx=>h7 i k x (by omega) hx⟩
    ·exact r.w.hp.own q _ b hlm (.self (hblk b (hself b hb)))
    ·have hne:k≠d:=by intro e1;have:=fJ g2;rw[<-hG.N]at this;exact this (e1▸hk)
     rw[bR g _ hne];exact r.w.names k hk
  ·cases hn
theorem aKD{all:List Oper}{op:Oper}{d e:Nat}{j:eG}{k:Int}(h:aKI I all op st=some (d,e,j,k)):
  ∃ s x t t' i i' kk,op.op = .call ⟨.builtin .append,#[s,x],#[t,t']⟩/\op.dst=some d/\cQ all op st=some true/\I.ti t=some i/\I.ti t'=some i'/\i.und = .sl e/\i'.und = .int kk/\I.ti e=some j /\
   ev st s=some .nil/\ev st x=some (.t (.int .i64 k))/\1<=j.size/\1<=j.bytes/\j.zero.length=j.size:=by
 unfold aKI at h;split at h
 case h_2=>cases h
 rename_i c d' e1 e2 e3;split at h
 case h_2=>cases h
 rename_i s x t t' e4 e5 e6;split at h
 case h_2=>cases h
 rename_i i i' k' e7 e8 e9 e10;split at h
 case h_2=>cases h
 rename_i e' kk e11 e12;split at h
 case h_2=>cases h
 rename_i j' e13;split at h
 case h_2=>cases h
 rename_i e14;cases h;obtain⟨cal,args,ats⟩:=c;simp only at e4 e5 e6;have ha':args=#[s,x]:=by rw[<-mS (xs:=args),e5]
 have ht':ats=#[t,t']:=by rw[<-mS (xs:=ats),e6]
 subst ha'; subst ht'; subst e4;simp only[cP]at e14;exact⟨s,x,t,t',i,i',kk,e1,e2,e3,e7,e8,e11,e12,e13,e9,e10,fH e14.1,fH e14.2.1,cJ e14.2.2⟩
theorem aFX(hG:fF P E I){all l:List Oper}{op:Oper}{d e:Nat}{j:eG}{k:Int}{ts:List T}(h:aKI I all op st=some (d,e,j,k))(hts:wJ j.zero ts)(hk0:0<=k)(hb:k.toNat*j.bytes<=140737488355328)
  (hn:fW I st d (.arr e j.size k.toNat (fun _=>ts)) (.own d)=some st')(hk:fR P E all Q l st'):fR P E all Q (op::l) st:=by
 obtain⟨s,x,t,t',i,i',kk,h1,h2,h3,h4,h5,h6,h7,h8,h9,h10,h11,h12,h13⟩:=aKD h;refine iL rfl h3 fun F g a w r=>?_;have hte:=(hG.ti _ _ h4).und;rw[h6]at hte;have hti:=(hG.ti _ _ h5).und;rw[h7]at hti;obtain⟨info,z,hi1,hi2,hi3,hi4,hi5⟩:=rV (hG.ti _ _ h8) (k.toNat*j.size) h13 h11;obtain⟨info',hi1',hi6,hi7,_⟩:=(hG.ti _ _ h8).info;rw[hi1]at hi1'; cases hi1';obtain⟨u,hu⟩:∃ u,a.eval s=u:=⟨_,rfl⟩;have hv:=bW r h9;rw[hu]at hv;cases hv;have hx:=(bW r h10).inv_int;have hm63:k.toNat<=140737488355328:=gV (Cd k.toNat h12) hb;have hwr:IntKind.i64.wrap k=k:=by simp only[IntKind.wrap,IntKind.bits,IntKind.signed]; simp; omega
 have hzc:z.cells.size=j.size:=hi4
 suffices hmain:∃ u w',(Builtin.append_ #[t,t'] op.type #[a.eval s,a.eval x]).run P w = .ok u w'/\Rel E st' (a.put (some d) u) w' by obtain⟨u,w',e1,e2⟩:=hmain;exact⟨_,u,w',_,by unfold execOp; simp[h1,resolve,invoke,builtin,e1],.inl rfl,by rw[h2]; exact e2,hk⟩
 by_cases h0:k.toNat=0
 ·have hk00:k=0:=by omega
  subst hk00;have hrun:(Builtin.append_ #[t,t'] op.type #[a.eval s,a.eval x]).run P w = .ok (.slice none 0 0) w:=by rw[hu,hx];have e0:IntKind.i64.wrap 0=0:=hwr;clear hwr hx hu;simp[Builtin.append_,run_underlying hte,run_underlying hti,sizeOf,typeInfo,hi1,asInt,asIntOf,e0]
  refine⟨.slice none 0 0,w,hrun,?_⟩;unfold fW at hn;split at hn
  ·rename_i st1 g1 g2 g3;cases hn;have hd':d<E.nt:=by rw[hG.nt]; simpa[fE] using g1
   refine⟨F,upd g d (.slice none 0 0),r.putW hd' (fun b hb=>⟨hb,rfl⟩) (fun t y hy=>?_) ?_ (.own (bM ..))⟩
   ·obtain⟨e1,e2⟩:=St.erase_fr g3 t y hy;exact⟨e1,fun o ho=>bR g _ (e2 o ho)⟩
   ·refine⟨HpR.change r.w.hp g3 (fun o ho=>bR g _ ho) (fun b hb=>⟨hb,rfl⟩) (fun _ h=>h) (fun _ _ _ _ _ _=>rfl) (.inl ⟨bM ..,rfl⟩)
     (fun b hb=>by have hb:=hb.toBlk rfl; rw[bM]at hb; simp[blk]at hb) (fun o y b _ _ _ hb=>by have hb:=hb.toBlk rfl; rw[bM]at hb; simp[blk]at hb),r.w.f0,r.w.f1,r.w.ext,fun o ho=>?_,r.w.b0⟩
    rw[bR g _ (fun e:o=d=>fJ g2 (hG.N▸e▸ho))];exact r.w.names o ho
  ·cases hn
 ·have hb1:1<=k.toNat:=by omega
  have hneg:¬ k<0:=by omega
  have h48:¬ (281474976710656<k*(info.bytes:Int)):=by
   have:(k.toNat:Int)=k:=by omega
   rw[hi7,<-this];have h':((k.toNat*j.bytes:Nat):Int)<=((140737488355328:Nat):Int):=Int.ofNat_le.2 hb;rw[Int.natCast_mul]at h';generalize (k.toNat:Int)*(j.bytes:Int)=q at h' ⊢;omega
  have hsz0:¬ (k.toNat*j.size=0):=by
   intro h;rcases Nat.mul_eq_zero.1 h with h | h
   ·exact h0 h
   ·omega
  have h63:¬ (9223372036854775807<(k.toNat:Int)):=by omega
  have h60:¬ k<=0:=by omega
  have h61:¬ (9223372036854775807<max k 0):=by omega
  have h48':¬ (281474976710656<Builtin.nextslicecap k.toNat 0*info.bytes):=by rw[nextslicecap_zero hb1,hi7]; omega
  have hrun:(Builtin.append_ #[t,t'] op.type #[a.eval s,a.eval x]).run P w = .ok (.slice (some ⟨w.heap.size,0,none⟩) k.toNat (grownCap w k.toNat 0 e))
    (w.drew.alloc (.cells (Builtin.zeroCells z.cells k.toNat++Builtin.zeroCells z.cells (grownCap w k.toNat 0 e-k.toNat)) e)):=by
   rw[hu,hx];simp[Builtin.append_,run_underlying hte,run_underlying hti,sizeOf,typeInfo,zeroValue,hi1,hi2,asInt,asIntOf,hwr,hneg,h48,hsz0,h60,h61,h48',Question.forced,newRow,grownCap,Builtin.firstCells,hi6]
  have hcap:=grownCap_ge w k.toNat 0 e;have hcapm:=grownCap_le_maxLen w k.toNat 0 e (by simp only[maxLen]; omega);have hrel:Rel E st' (a.put (some d) (.slice (some ⟨w.heap.size,0,none⟩) k.toNat (grownCap w k.toNat 0 e))) (w.drew.alloc (.cells (Builtin.zeroCells z.cells k.toNat++Builtin.zeroCells z.cells (grownCap w k.toNat 0 e-k.toNat)) e)):=by
   refine pE hG.N hG.nt r hn rfl rfl rfl rfl rfl (fun g' _ hv=>?_) (fun g' hv=>.own hv);refine RowR.obj ⟨fun i hi=>by rw[hts.1,h13],fun i q y hi hy=>?_⟩ hv (heap_alloc_new w.drew _) hcap hcapm ?_
   ·have hq:q<j.size:=by rw[<-h13,<-hts.1]; exact(eK.1 hy).1
    have hlt:i*j.size+q<k.toNat*j.size:=by have:(i+1)*j.size<=k.toNat*j.size:=iN _ hi;rw[gW,mW]at this;omega
    have hmod:(i*j.size+q) % j.size=q:=by rw[Nat.mul_comm,Nat.mul_add_mod,Nat.mod_eq_of_lt hq]
    have hlz:q<z.cells.size:=by omega
    refine⟨z.cells[q],?_,?_⟩
    ·rw[kO (by simp only[size_zeroCells,hzc]; exact hlt)];simp only[Builtin.zeroCells,hzc,Array.getElem?_map];rw[Array.getElem?_range];simp[hlt,hmod,hlz]
    ·have h2:=hi5 F g w (i*j.size+q) (j.zero[q]'(by omega)) z.cells[q] (by
      simp only[iA,fD,h13];rw[List.getElem?_range hlt];simp[hmod,show q<j.zero.length by omega]) (by
      simp only[Array.getElem?_map,hzc];rw[Array.getElem?_range];simp[hlt,hmod,hlz])
     have h3:=hts.2 q (j.zero[q]'(by omega)) y (by simp[show q<j.zero.length by omega]) hy _ _ _ _ h2;have hh:∀ b,F b->F b/\(w.drew.alloc (.cells (Builtin.zeroCells z.cells k.toNat++Builtin.zeroCells z.cells (grownCap w k.toNat 0 e-k.toNat)) e)).heap[b]? = w.heap[b]?:=fun b hb=>⟨hb,heap_alloc_old w.drew _ (r.w.f1 b hb).1⟩;exact(h3.cells_t rfl).mono hh
   ·simp only[jO,size_zeroCells,hzc,<-gW]
    congr 1; omega
  exact⟨_,_,hrun,hrel⟩
theorem aIO(hG:fF P E I){all l:List Oper}{op:Oper}{t d e:Nat}{i:eG}{st1:St}(hop:op.op = .alloc t)(hd:op.dst=some d)(hw:cQ all op st=some true)(hnt:Nat.blt d I.nt=true)(hn:oR d I.N=true)
  (hi:I.ti t=some i)(hz:i.zero=[.np,.nil])(he:st.erase d=some st1)(hk:fR P E all Q l ({ st1 with hp:=(d,.bld t e ⟨#[]⟩)::st1.hp }.put d (.ptr d 0))):fR P E all Q (op::l) st:=by
 refine iL rfl hw fun F g a w r=>?_;have hd':d<E.nt:=by rw[hG.nt]; simpa[fE] using hnt
 obtain⟨info,z,h1,h2,h3,h4⟩:=mH (F:=F) (g:=g) (w:=w) (hG.ti _ _ hi);rw[hz]at h3 h4;have h3:z.cells.size=2:=h3;have hc:z.cells=#[.pointer none,.slice none 0 0]:=by
  have e0:z.cells[0]'(by omega) = .pointer none:=by have:=h4 0 .np (z.cells[0]'(by omega)) rfl (by simp);generalize z.cells[0]'(by omega)=u at this;cases this; rfl
  have e1:z.cells[1]'(by omega) = .slice none 0 0:=by have:=h4 1 .nil (z.cells[1]'(by omega)) rfl (by simp);generalize z.cells[1]'(by omega)=u at this;cases this; rfl
  apply Array.ext
  ·simp[h3]
  ·intro q hq _
   match q,hq with
   | 0,_=>simpa using e0
   | 1,_=>simpa using e1
   | q+2,hq=>omega
 have hnew:(w.alloc (.cells z.cells t)).heap[w.heap.size]? = some (.cells z.cells t (0,0)):=heap_alloc_new w _;rw[hc]at hnew;obtain⟨g',hg'⟩:=r.allocF (x:=.bld t e ⟨#[]⟩) (v:=.pointer (some ⟨w.heap.size,0,none⟩)) (w':=w.alloc (.cells z.cells t)) (ob:=.cells z.cells t (0,0)) hd' (by rw[hG.N]; exact fJ hn) he rfl rfl rfl rfl rfl
  (fun g' b hg hb=>by
   cases hb with
   | self h=>rw[hg]at h; exact h
   | bld k1 k2 k3=>rw[hg]at k1; injection k1 with k1; injection k1 with k1; injection k1 with k1; subst k1;rw[hc,hnew]at k2; injection k2 with k2; injection k2 with k2; injection k2 with k2; injection k2 with k2 k4; injection k4 with k4; subst k4;simp[blk]at k3)
  (fun g' _ hg=>⟨w.heap.size,.pointer none,.slice none 0 0,hg,by rw[hc]; exact hnew,.inl rfl,.inl ⟨rfl,rfl⟩⟩)
  (.ptr d 0) (fun g' hg=>.ptr hg)
 have hex:(Instr.alloc t true (.tuple #[])).run P w = .ok (.pointer (some ⟨w.heap.size,0,none⟩)) (w.alloc (.cells z.cells t)):=by simp[Instr.alloc,iZ h1 h2,newVar,newRow]
 exact⟨_,.pointer (some ⟨w.heap.size,0,none⟩),w.alloc (.cells z.cells t),_,by unfold execOp; simp[hop,hex],.inl rfl,by rw[hd]; exact⟨F,g',hg'⟩,hk⟩
end
section
variable {P:Program} {E:Env} {I:Inf}
theorem Ry{st:St}{t:Nat}{x y:PV}(h:bK st.fr t=some x)(hx:∀ F g w v,VR F g w x v->VR F g w y v):Le E st { st with fr:=(t,y)::del t st.fr }:=fun _ _ r=>r.slot h hx
theorem Jr{α:Type}:∀ (l:List (Nat×α)) (xs:List α),(l.foldl (fun xs p=>xs.set p.1 p.2) xs).length=xs.length
 | [],xs=>rfl
 | p::l,xs=>by simp only[Ix]; rw[Jr l]; simp
theorem xX{α:Type}(c:α->List T):∀ (l:List (Nat×α)) {f g:Nat->List T},(∀ q,f q=g q)->∀ q,l.foldl (fun f p=>rY f p.1 (c p.2)) f q=l.foldl (fun f p=>rY f p.1 (c p.2)) g q
 | [],_,_,h,q=>h q
 | p::l,f,g,h,q=>by simp only[Ix];exact xX c l (fun q=>by simp only[rY]; rw[h q]) q
theorem Jb{α:Type}[Inhabited α](c:α->List T):∀ (l:List (Nat×α)) (xs:List α),(l.all fun p=>decide (p.1<xs.length))=true->∀ q,l.foldl (fun f p=>rY f p.1 (c p.2)) (eF c xs) q=eF c (l.foldl (fun xs p=>xs.set p.1 p.2) xs) q
 | [],xs,_,q=>rfl
 | p::l,xs,h,q=>by
  simp only[List.all_cons,cP,pQ]at h;simp only[Ix];rw[<-Jb c l (xs.set p.1 p.2) (by simpa using h.2) q];refine xX c l (fun q=>?_) q;simp only[rY,eF];split
  ·rename_i e; subst e; simp[h.1]
  ·rename_i e; rw[cI,cI,pV,aF (fun e'=>e e'.symm)]
theorem Xz{t:Nat}{j:eG}(h:Lh I t=some j):∃ i e,I.ti t=some i/\i.und = .sl e/\I.ti e=some j:=by
 unfold Lh at h;split at h
 ·rename_i i hi;split at h
  ·rename_i e he; exact⟨i,e,hi,he,h⟩
  ·cases h
 ·cases h
theorem Tr.sound(hG:fF P E I){Y:Type}(t:Tr P Y):∀ {lt lf:Y->Exit->St->VT} {acc:Acc} {g:Cfg} {st:St} {Q:gL} {R:Y->Prop},bBK P acc->chk P I true t lt acc g st=chk P I false t lf acc g st->t.wpT R ->
  (∀ y e s,R y->lt y e s=lf y e s->∃ u,Le E s u/\Q e u)->cwp P E g Q st:=by
 induction t with
 | ret n y=>
  intro lt lf acc g st Q R ha h hw hl;rcases hr:run I n g st with _ | ⟨g',st',C,fs⟩
  ·simp only[chk,hr]at h; exact(aP h).elim
  ·cases g' with
   | x e ks=>
    cases ks with
    | nil=>simp only[chk,hr]at h;obtain⟨h1,h2⟩:=aO h;obtain⟨hC,hf⟩:=dC h1 trivial;exact dV hG hr hC hf (hl y e st' hw h2)
    | cons=>simp only[chk,hr]at h; exact(aP h).elim
   | _=>simp only[chk,hr]at h; exact(aP h).elim
 | ite n c t e iht ihe=>
  intro lt lf acc g st Q R ha h hw hl;have hw1:c=true->t.wpT R:=fun hc=>by simp only[Tr.wpT,hc,bU]at hw; exact hw
  have hw0:c=false->e.wpT R:=fun hc=>by simp only[Tr.wpT,hc]at hw; exact hw
  rcases hr:run I n g st with _ | ⟨g',st',C,fs⟩
  ·simp only[chk,hr]at h; exact(aP h).elim
  ·cases g' with
   | c x ks=>
    cases x with
    | cond o u v=>simp only[chk,hr]at h;obtain⟨h1,h2⟩:=aO h;obtain⟨h3,h4⟩:=aO h2;obtain⟨h5,h6⟩:=aO h4;obtain⟨hC,hf⟩:=dC h1 trivial;exact dV hG hr hC hf (zH (bH h3) (fun hc=>iht ha h5 (hw1 hc) hl) (fun hc=>ihe ha h6 (hw0 hc) hl))
    | _=>simp only[chk,hr]at h; exact(aP h).elim
   | o all l ks=>
    cases l with
    | nil=>simp only[chk,hr]at h; exact(aP h).elim
    | cons op l=>
     simp only[chk,hr]at h;cases hg:aCZ all op with
     | none=>rw[hg]at h; exact(aP h).elim
     | some d=>rw[hg]at h;obtain⟨h1,h2⟩:=aO h;obtain⟨h3,h4⟩:=aO h2;obtain⟨h5,h6⟩:=aO h4;obtain⟨hC,hf⟩:=dC h1 trivial;exact dV hG hr hC hf (Xp (bH h3) (fun hc=>iht ha h5 (hw1 hc) hl) (fun hc=>ihe ha h6 (hw0 hc) hl))
   | x=>simp only[chk,hr]at h; exact(aP h).elim
 | grd n p t ih=>
  intro lt lf acc g st Q R ha h hw hl;rcases hr:run I n g st with _ | ⟨g',st',C,fs⟩
  ·simp only[chk,hr]at h; exact(aP h).elim
  ·simp only[chk,hr]at h;obtain⟨h1,h2⟩:=aO h;obtain⟨hC,hf⟩:=dC h1 hw.1;exact dV hG hr hC hf (ih ha h2 hw.2 hl)
 | gd n p hp t ih=>
  intro lt lf acc g st Q R ha h hw hl;rcases hr:run I n g st with _ | ⟨g',st',C,fs⟩
  ·simp only[chk,hr]at h; exact(aP h).elim
  ·simp only[chk,hr]at h;obtain⟨h1,h2⟩:=aO h;obtain⟨hC,hf⟩:=dC h1 hp;exact dV hG hr hC hf (ih ha h2 hw hl)
 | cv n l t ih=>
  intro lt lf acc g st Q R ha h hw hl;rcases hr:run I n g st with _ | ⟨g',st',C,fs⟩
  ·simp only[chk,hr]at h; exact(aP h).elim
  ·simp only[chk,hr]at h;obtain⟨h1,h2⟩:=aO h;obtain⟨h3,h4⟩:=aO h2;obtain⟨hC,hf⟩:=dC h1 trivial;cases hc:cvL I l st' with
   | none=>rw[hc]at h4; exact(aP h4).elim
   | some st''=>rw[hc]at h4;exact dV hG hr hC hf (kP (aDU hG h3 hc) (ih ha h4 hw hl))
 | no=>intro lt lf acc g st Q R ha h hw hl; exact hw.elim
 | @foc Y α inh n o q i j c xs t ih=>
  intro lt lf acc g st Q R ha h hw hl;rcases hr:run I n g st with _ | ⟨g',st',C,fs⟩
  ·simp only[chk,hr]at h; exact(aP h).elim
  ·simp only[chk,hr]at h;obtain⟨h1,h2⟩:=aO h;obtain⟨hC,hf⟩:=dC h1 trivial;split at h2
   ·rename_i e s n' f hlk;obtain⟨h3,h4⟩:=aO h2;have h3:=bH h3;cases h3;split at h4
    ·rename_i e' s' m f' hx;split at h4
     ·rename_i s2 hs;exact dV hG hr hC hf (kP (fun _ _ r=>Rel.armFocus hG.N hlk hw.1 hx hs r) (ih ha h4 hw.2 hl))
     ·exact(aP h4).elim
    ·exact(aP h4).elim
   ·exact(aP h2).elim
 | @ca Y R' n k bps x ret hcon B ih=>
  intro lt lf acc g st Q R ha h hw hl;rcases hr:run I n g st with _ | ⟨g',st',C,fs⟩
  ·simp only[chk,hr]at h; exact(aP h).elim
  ·cases g' with
   | o all l ks=>
    cases l with
    | nil=>simp only[chk,hr]at h; exact(aP h).elim
    | cons op l=>
     simp only[chk,hr]at h;rcases hc:xP I all op st' with _ | ⟨d,k',as⟩
     ·rw[hc]at h; exact(aP h).elim
     ·rw[hc]at h;obtain⟨h1,h2⟩:=aO h;obtain⟨h3,h4⟩:=aO h2;obtain⟨h5,h6⟩:=aO h4;obtain⟨hC,hf⟩:=dC h1 trivial;have h3:=bH h3;subst h3;obtain⟨c,f,nf,caps,aps,e1,e2,e3,e4,e5,e6,e7,rfl⟩:=Az hc;obtain⟨r,hx,hB⟩:=hw;obtain⟨h7,h8⟩:=aO (tJ h6 r);have h7:=bH h7;have h5:=aIH h5;obtain⟨L,hL⟩:∃ L,L=mG (List.take nf caps++aps++List.drop nf caps) bps:=⟨_,rfl⟩;rw[<-hL]at h5 h7;refine dV hG hr hC hf (Yg hG L rfl e1 e2 e3 e4 e5 e6 e7 hcon.c h5 (hcon.h r hx) fun r' H' hr'=>?_);unfold Ret at hr'; subst hr';exact⟨by cases L <;> exact h7,ih r ha h8 hB hl⟩
   | _=>simp only[chk,hr]at h; exact(aP h).elim
 | @ch Y R' cur n k bps Hs N x ret Ht nw hcon B ih=>
  intro lt lf acc g st Q R ha h hw hl;rcases hr:run I n g st with _ | ⟨g',st',C,fs⟩
  ·simp only[chk,hr]at h; exact(aP h).elim
  ·cases g' with
   | o all l ks=>
    cases l with
    | nil=>simp only[chk,hr]at h; exact(aP h).elim
    | cons op l=>
     simp only[chk,hr]at h;rcases hc:xP I all op st' with _ | ⟨d,k',as⟩
     ·rw[hc]at h; exact(aP h).elim
     ·rw[hc]at h;obtain⟨h1,h2⟩:=aO h;obtain⟨h3,h4⟩:=aO h2;obtain⟨h5,h6⟩:=aO h4;obtain⟨h7,h8⟩:=aO h6;obtain⟨h9,h10⟩:=aO h8;obtain⟨hC,hf⟩:=dC h1 trivial;have h3:=bH h3;subst h3;obtain⟨c,f,nf,caps,aps,e1,e2,e3,e4,e5,e6,e7,rfl⟩:=Az hc;obtain⟨r,hx,hB⟩:=hw;obtain⟨h11,h12⟩:=aO (cur.ok _ _ h10 r);refine dV hG hr hC hf (Oz hG (dK Hs) N nw rfl e1 e2 e3 e4 e5 e6 e7 hcon.c (lE h5 _) (bH h7) (bH h9) (hcon.h r hx) fun r' H' hr'=>?_);unfold pY at hr'; obtain⟨rfl,rfl⟩:=hr';exact⟨bH h11,ih r ha h12 hB hl⟩
   | _=>simp only[chk,hr]at h; exact(aP h).elim
 | @cz Y R1 cur n k bps Hs N x ret Ht tr nw hc z B ih=>
  intro lt lf acc g st Q R ha h hw hl;obtain⟨y,hy,hw⟩:=hw;rcases hr:run I n g st with _ | ⟨g',st',C,fs⟩
  ·simp only[chk,hr]at h; exact(aP h).elim
  ·cases g' with
   | o all l ks=>
    cases l with
    | nil=>simp only[chk,hr]at h; exact(aP h).elim
    | cons op l=>
     simp only[chk,hr]at h;rcases hci:xP I all op st' with _ | ⟨d,k',as⟩
     ·rw[hci]at h; exact(aP h).elim
     ·rw[hci]at h;obtain⟨h1,h2⟩:=aO h;obtain⟨h3,h4⟩:=aO h2;obtain⟨h5,h6⟩:=aO h4;obtain⟨h7,h8⟩:=aO h6;obtain⟨h9,h10⟩:=aO h8;obtain⟨h11,h12⟩:=aO h10;obtain⟨hC,hf⟩:=dC h1 trivial;have h3:=bH h3;subst h3;obtain⟨c,f,nf,caps,aps,e1,e2,e3,e4,e5,e6,e7,rfl⟩:=Az hci;refine dV hG hr hC hf (Qv hG (dK Hs) N nw rfl e1 e2 e3 e4 e5 e6 e7 hc.c (lE h5 _) (bH h7) (bH h9) (hc.h y hy) (fun e=>?_) fun r' H' hr'=>?_)
      ·subst e;exact(wU h11 fun e s he=>hl z e s hw he).2
      ·obtain⟨q,rfl,rfl,rfl⟩:=hr';obtain⟨h13,h14⟩:=aO (cur.ok _ _ h12 q);exact⟨bH h13,ih q ha h14 hw hl⟩
   | _=>simp only[chk,hr]at h; exact(aP h).elim
 | @hk Y A cur n m I0 g0 st1 x st2 hh B ihB=>
  intro lt lf acc g st Q R ha h hw hl;obtain⟨y,hy,hw⟩:=hw;rcases hr:run I n g st with _ | ⟨g',st',C,fs⟩
  ·simp only[chk,hr]at h; exact(aP h).elim
  ·simp only[chk,hr]at h;obtain⟨h1,h2⟩:=aO h;obtain⟨h3,h4⟩:=aO h2;obtain⟨h5,h6⟩:=aO h4;obtain⟨h7,h8⟩:=aO h6;obtain⟨hC,hf⟩:=dC h1 trivial;have e1:=bH h3;have e2:=bH h5;subst e1;refine dV hG hr hC hf ?_;have hA:cwp P E (Pe m g') (fun e s=>e = .normal/\Le E s (st2 y)) st':=by rw[e2];exact kP (yG (bH h7)) (hh y hy E hG)
   refine Lv hA fun e s he=>?_;obtain⟨rfl,hle⟩:=he;obtain⟨u,hu,hq⟩:=ihB y ha (cur.ok _ _ h8 y) hw hl;exact⟨u,hle.trans hu,hq⟩
 | @jn Y S cur n m tm A B ihA ihB=>
  intro lt lf acc g st Q R ha h hw hl;rcases hr:run I n g st with _ | ⟨g',st',C,fs⟩
  ·simp only[chk,hr]at h; exact(aP h).elim
  ·simp only[chk,hr]at h;obtain⟨h1,h2⟩:=aO h;obtain⟨h3,h4⟩:=aO h2;obtain⟨hC,hf⟩:=dC h1 trivial;refine dV hG hr hC hf ?_;have hA:cwp P E (Pe m g') (fun e s=>e = .normal/\∃ v,(B v).wpT R/\Le E s (tm v)) st':=ihA ⟨.nil,.nil,.nil⟩ h3 hw fun v e s hv hk=>⟨s,.refl,(oE (E:=E) hk).1,v,hv,(oE hk).2⟩;refine Lv hA fun e s he=>?_;obtain⟨rfl,v,hv,hle⟩:=he;obtain⟨u,hu,hq⟩:=ihB v ha (cur.ok _ _ h4 v) hv hl;exact⟨u,hle.trans hu,hq⟩
 | @pc Y S cur n m tm A B ihA ihB=>
  intro lt lf acc g st Q R ha h hw hl;rcases hr:run I n g st with _ | ⟨g',st',C,fs⟩
  ·simp only[chk,hr]at h; exact(aP h).elim
  ·simp only[chk,hr]at h;obtain⟨h1,h2⟩:=aO h;obtain⟨h3,h4⟩:=aO h2;obtain⟨hC,hf⟩:=dC h1 trivial;refine dV hG hr hC hf ?_;have hA:cwp P E (Pe m g') (fun e s=>(e = .normal/\∃ v,(B v).wpT R/\Le E s (tm v))\/∃ t,Le E s t/\kQ P E (Dv m g') Q e t) st':=ihA ⟨.nil,.nil,.nil⟩ h3 hw fun z e s hz hk=>by
    cases z with
    | inl v=>exact⟨s,.refl,.inl ⟨(oE (E:=E) hk).1,v,hz,(oE hk).2⟩⟩
    | inr y=>exact⟨s,.refl,.inr (wU (P:=P) (E:=E) (Q:=Q) hk fun e s he=>hl y e s hz he).2⟩
   refine Lv hA fun e s he=>?_;rcases he with⟨rfl,v,hv,hle⟩ | he
   ·obtain⟨u,hu,hq⟩:=ihB v ha (cur.ok _ _ h4 v) hv hl;exact⟨u,hle.trans hu,hq⟩
   ·exact he
 | @lp Y S R' curS curR n tm bt ex s0 L B ihL ihB=>
  intro lt lf acc g st Q R ha h hw hl;rcases hr:run I n g st with _ | ⟨g',st',C,fs⟩
  ·simp only[chk,hr]at h; exact(aP h).elim
  ·cases g' with
   | c c ks=>
    cases c with
    | loop c=>
     simp only[chk,hr]at h;obtain⟨h1,h2⟩:=aO h;obtain⟨h3,h4⟩:=aO h2;obtain⟨h5,h6⟩:=aO h4;obtain⟨hC,hf⟩:=dC h1 trivial;refine dV hG hr hC hf ?_;refine kP (yG (bH h3)) ?_;refine Ye (Out:=fun (z:R'⊕Y) e s=>match z with | .inl r=>e = .exit ex/\Le E s (bt r) | .inr y=>R y->∃ t,Le E s t/\kQ P E ks Q e t) (fun s Z hZ=>?_) hw fun z e s hz ho=>?_
     ·refine vA (ihL s ⟨.nil,.nil,.nil⟩ (curS.ok _ _ h5 s) hZ (Q:=fun e st=>∃ z,Z z/\aFA E tm (fun (z:R'⊕Y) e s=>match z with | .inl r=>e = .exit ex/\Le E s (bt r) | .inr y=>R y->∃ t,Le E s t/\kQ P E ks Q e t) z e st) fun z e s hz hk=>?_) fun e s he=>⟨s,.refl,he⟩
      cases z with
      | inl v=>exact⟨s,.refl,_,hz,(oE (E:=E) hk).1,(oE hk).2⟩
      | inr z=>
       cases z with
       | inl r=>obtain⟨he,hle⟩:=aJZ (E:=E) (bt:=bt) (ex:=ex) (r:=r) hk;exact⟨s,.refl,_,hz,by rw[he]; simp,he,hle⟩
       | inr y=>
        have hk:qU true lt ks y e s=qU false lf ks y e s:=hk;have hne:e ≠ .normal:=by rintro rfl; exact aP hk
        exact⟨s,.refl,_,hz,hne,fun hy=>(wU (P:=P) (E:=E) (Q:=Q) hk fun e s he=>hl y e s hy he).2⟩
     ·cases z with
      | inl r=>obtain⟨rfl,hle⟩:=ho;obtain⟨u,hu,hq⟩:=ihB r ha (curR.ok _ _ h6 r) hz hl;exact⟨u,hle.trans hu,hq⟩
      | inr y=>exact ho hz
    | _=>simp only[chk,hr]at h; exact(aP h).elim
   | _=>simp only[chk,hr]at h; exact(aP h).elim
 | spc n o j r m a e iha ihe=>
  intro lt lf acc g st Q R ha h hw hl;rcases hr:run I n g st with _ | ⟨g',st',C,fs⟩
  ·simp only[chk,hr]at h; exact(aP h).elim
  ·simp only[chk,hr]at h;rcases hlk:bK st'.hp o with _ | x
   ·rw[hlk]at h; exact(aP h).elim
   cases x with
   | box cs=>
    rw[hlk]at h;obtain⟨h1,h2⟩:=aO h;obtain⟨h3,h4⟩:=aO h2;obtain⟨h5,h6⟩:=aO h4;obtain⟨hC,hf⟩:=dC h1 trivial;refine dV hG hr hC hf ?_;have h3:=bH h3;by_cases hrm:r=m
    ·subst hrm;refine kP (fun a w=>?_) (iha ha h5 (by simpa only[Tr.wpT,bU] using hw) hl);rintro⟨F,g0,r0⟩;have hcs:cs.set j (.t (.int .i64 r))=cs:=by obtain⟨hj,he⟩:=eK.1 h3;rw[<-he]; exact List.set_getElem_self hj
     rw[hcs];refine⟨F,g0,r0.sub (fun e he=>he) (fun e he=>?_)⟩;rcases aX.1 he with rfl | he
     ·exact aU hlk
     ·exact(bD.1 he).1
    ·refine ihe ha h6 ?_ hl;simpa only[Tr.wpT,aF hrm] using hw
   | _=>rw[hlk]at h; exact(aP h).elim
 | sp n t r m a e iha ihe=>
  intro lt lf acc g st Q R ha h hw hl;rcases hr:run I n g st with _ | ⟨g',st',C,fs⟩
  ·simp only[chk,hr]at h; exact(aP h).elim
  ·simp only[chk,hr]at h;obtain⟨h1,h2⟩:=aO h;obtain⟨h3,h4⟩:=aO h2;obtain⟨h5,h6⟩:=aO h4;obtain⟨hC,hf⟩:=dC h1 trivial;refine dV hG hr hC hf ?_;have h3:=bH h3;by_cases hrm:r=m
   ·subst hrm;refine kP (Ry h3 fun _ _ _ _ h=>h) (iha ha h5 ?_ hl);simpa only[Tr.wpT,bU] using hw
   ·refine ihe ha h6 ?_ hl;simpa only[Tr.wpT,aF hrm] using hw
 | slc n t c xs lo hi k ih=>
  intro lt lf acc g st Q R ha h hw hl;rcases hr:run I n g st with _ | ⟨g',st',C,fs⟩
  ·simp only[chk,hr]at h; exact(aP h).elim
  ·simp only[chk,hr]at h;obtain⟨h1,h2⟩:=aO h;obtain⟨h3,h4⟩:=aO h2;have hCf:All C/\∀ f,f∈fs->∀ i,f i=true:=by
    cases n with
    | zero=>exact dC h1 trivial
    | succ n=>exact dC h1 hw.1
   obtain⟨hC,hf⟩:=hCf;exact dV hG hr hC hf (kP (Ry (bH h3) (Am hw.1 rfl)) (ih ha h4 hw.2 hl))
 | sto n o c xs l k ih=>
  intro lt lf acc g st Q R ha h hw hl;rcases hr:run I n g st with _ | ⟨g',st',C,fs⟩
  ·simp only[chk,hr]at h; exact(aP h).elim
  ·simp only[chk,hr]at h;rcases hx:bK st'.hp o with _ | x
   ·rw[hx]at h; exact(aP h).elim
   ·rw[hx]at h;cases x with
    | arr e s n' f=>simp only at h;obtain⟨h1,h2⟩:=aO h;obtain⟨h3,h4⟩:=aO h2;obtain⟨hC,hf⟩:=dC h1 trivial;have h3:=bH h3;cases h3;refine dV hG hr hC hf (kP (Le.obj _ hx (fun _ _ _=>dD.row (Jr l xs).symm fun q _=>Jb c l xs hw.1 q) rfl) (ih ha h4 hw.2 hl))
    | _=>exact(aP h).elim
 | cut n c xs hi k ih=>
  intro lt lf acc g st Q R ha h hw hl;rcases hr:run I n g st with _ | ⟨g',st',C,fs⟩
  ·simp only[chk,hr]at h; exact(aP h).elim
  ·cases g' with
   | o all l ks=>
    cases l with
    | nil=>simp only[chk,hr]at h; exact(aP h).elim
    | cons op l=>
     simp only[chk,hr]at h;split at h
     case h_2=>exact(aP h).elim
     rename_i t x lo hx d e1 e2 e3;split at h
     case h_2=>exact(aP h).elim
     rename_i q e4;split at h
     case h_2=>exact(aP h).elim
     rename_i e s n' f st1 j e5 e6 e7;split at h
     case h_2=>exact(aP h).elim
     rename_i s2 e8;obtain⟨h1,h2⟩:=aO h;obtain⟨h3,h4⟩:=aO h2;obtain⟨h5,h6⟩:=aO h4;obtain⟨h7,h8⟩:=aO h6;obtain⟨hC,hf⟩:=dC h1 trivial;have h3:=bH h3;cases h3;obtain⟨i,e',e9,e10,e11⟩:=Xz e7;have hlk:bK s2.hp d=some (.arr e s hi.toNat (eF c xs)):=by
      unfold fW at e8;split at e8
      ·cases e8; simp[St.put,bK]
      ·cases e8
     have hle:hi.toNat<=xs.length:=by have:=hw.1; omega
     refine dV hG hr hC hf (aJB hG rfl e1 e2 e3 e4 e5 (bH h5) (bH h7) e9 e10 e11 hw.1 e6 e8 (iK (Le.obj _ hlk (fun _ _ _=>dD.row (by simp; omega) fun q hq=>?_) rfl) (ih ha h8 hw.2 hl)));simp only[eF];rw[cI,cI,iR,aA hq]
   | _=>simp only[chk,hr]at h; exact(aP h).elim
 | apz n c byt m k ih=>
  intro lt lf acc g st Q R ha h hw hl;rcases hr:run I n g st with _ | ⟨g',st',C,fs⟩
  ·simp only[chk,hr]at h; exact(aP h).elim
  ·cases g' with
   | o all l ks=>
    cases l with
    | nil=>simp only[chk,hr]at h; exact(aP h).elim
    | cons op l=>
     simp only[chk,hr]at h;split at h
     case h_2=>exact(aP h).elim
     rename_i d e j k' e1;split at h
     case h_2=>exact(aP h).elim
     rename_i s2 e2;obtain⟨h1,h2⟩:=aO h;obtain⟨h3,h4⟩:=aO h2;obtain⟨h5,h6⟩:=aO h4;obtain⟨hC,hf⟩:=dC h1 trivial;have h3:=bH h3;injection h3 with h3 h3';subst h3; subst h3';have himp:wJ j.zero (c default):=(fZ h5).get;have hlk:bK s2.hp d=some (.arr e j.size k'.toNat (fun _=>c default)):=by
      unfold fW at e2;split at e2
      ·cases e2; simp[St.put,bK]
      ·cases e2
     refine dV hG hr hC hf (aFX hG e1 himp hw.1.1 hw.1.2 e2 (iK (Le.obj _ hlk (fun _ _ _=>dD.row (by simp) fun q hq=>?_) rfl) (ih ha h6 hw.2 hl)));simp only[eF];rw[cI,Bk,aA hq];rfl
   | _=>simp only[chk,hr]at h; exact(aP h).elim
 | abl n e k ih=>
  intro lt lf acc g st Q R ha h hw hl;rcases hr:run I n g st with _ | ⟨g',st',C,fs⟩
  ·simp only[chk,hr]at h; exact(aP h).elim
  ·cases g' with
   | o all l ks=>
    cases l with
    | nil=>simp only[chk,hr]at h; exact(aP h).elim
    | cons op l=>
     simp only[chk,hr]at h;split at h
     case h_2=>exact(aP h).elim
     rename_i t d e1 e2 e3;split at h
     case h_2=>exact(aP h).elim
     rename_i st1 i e4 e5 e6 e7;obtain⟨h1,h2⟩:=aO h;obtain⟨h3,h4⟩:=aO h2;obtain⟨hC,hf⟩:=dC h1 trivial;exact dV hG hr hC hf (aIO hG e1 e2 e3 e4 e5 e7 (bH h3) e6 (ih ha h4 hw hl))
   | _=>simp only[chk,hr]at h; exact(aP h).elim
 | dfr n hh t ih=>
  intro lt lf acc g st Q R ha h hw hl;rcases hr:run I n g st with _ | ⟨g',st',C,fs⟩
  ·simp only[chk,hr]at h; exact(aP h).elim
  ·cases g' with
   | o all l ks=>
    cases l with
    | nil=>simp only[chk,hr]at h; exact(aP h).elim
    | cons op l=>
     simp only[chk,hr]at h;rcases hb:dfI all op st' with _ | f'
     ·rw[hb]at h; exact(aP h).elim
     rw[hb]at h;obtain⟨h1,h2⟩:=aO h;obtain⟨h3,h4⟩:=aO h2;obtain⟨hC,hf⟩:=dC h1 trivial;have h3:=bH h3;injection h3 with h3 h5;subst h3;exact dV hG hr hC hf (aHG hG h5 hb hh (ih ha h4 hw hl))
   | _=>simp only[chk,hr]at h; exact(aP h).elim
 | cb n s t ih=>
  intro lt lf acc g st Q R ha h hw hl;rcases hr:run I n g st with _ | ⟨g',st',C,fs⟩
  ·simp only[chk,hr]at h; exact(aP h).elim
  ·cases g' with
   | o all l ks=>
    cases l with
    | nil=>simp only[chk,hr]at h; exact(aP h).elim
    | cons op l=>
     simp only[chk,hr]at h;rcases hb:cbI I all op st' with _ | ⟨d,y⟩
     ·rw[hb]at h; exact(aP h).elim
     rw[hb]at h;obtain⟨h1,h2⟩:=aO h;obtain⟨h3,h4⟩:=aO h2;obtain⟨hC,hf⟩:=dC h1 trivial;have h3:=bH h3;subst h3;exact dV hG hr hC hf (aQK hG hb (ih ha h4 hw hl))
   | _=>simp only[chk,hr]at h; exact(aP h).elim
 | bs n own c xs t ih=>
  intro lt lf acc g st Q R ha h hw hl;rcases hr:run I n g st with _ | ⟨g',st',C,fs⟩
  ·simp only[chk,hr]at h; exact(aP h).elim
  ·cases g' with
   | o all l ks=>
    cases l with
    | nil=>simp only[chk,hr]at h; exact(aP h).elim
    | cons op l=>
     simp only[chk,hr]at h;rcases hb:bsI I all op st' with _ | ⟨d,e,j,len,cs⟩
     ·rw[hb]at h; exact(aP h).elim
     rw[hb]at h;obtain⟨h1,h2⟩:=aO h;obtain⟨h3,h4⟩:=aO h2;obtain⟨h5,h6⟩:=aO h4;obtain⟨h7,h8⟩:=aO h6;obtain⟨hC,hf⟩:=dC h1 trivial;have h5:=bH h5;have h7:=iI (bH h7);have himp:wJ cs (xs.flatMap c):=(fZ h3).get;cases own with
     | false=>
      refine dV hG hr hC hf (aHH hG hb himp ?_);refine iK (Ry (st:=st'.put d (.t (.sl len (dT (xs.flatMap c) j.size)))) (t:=d) (y:=.t (eL c xs)) (by simp[St.put,bK]) (sE (x:=eL c xs) (n':=xs.length) (f':=eF c xs) rfl h5.symm h7)) ?_;refine iK (fun a w r=>?_) (ih ha h8 hw hl);refine r.sub (fun e he=>?_) (fun e he=>he);simp only[St.put]at he ⊢;rcases aX.1 he with rfl | he
      ·exact dJ ..
      ·refine cV _ ?_;obtain⟨k,y⟩:=e;obtain⟨h9,h10⟩:=bD.1 he;exact bD.2 ⟨cV _ (bD.2 ⟨h9,h10⟩),h10⟩
     | true=>
      simp only at h8;split at h8
      ·rename_i s2 hs2;refine dV hG hr hC hf (aJQ hG hb himp hs2 ?_);have hlk:bK s2.hp d=some (.arr e j.size len (dT (xs.flatMap c) j.size)):=by
        unfold fW at hs2;split at hs2
        ·cases hs2; simp[St.put,bK]
        ·cases hs2
       exact iK (Le.obj _ hlk (fun _ _ _=>dD.row h5 h7) rfl) (ih ha h8 hw hl)
      ·exact(aP h8).elim
   | _=>simp only[chk,hr]at h; exact(aP h).elim
 | ndb n m a e iha ihe=>
  intro lt lf acc g st Q R ha h hw hl;rcases hr:run I n g st with _ | ⟨g',st',C,fs⟩
  ·simp only[chk,hr]at h; exact(aP h).elim
  ·cases g' with
   | o all l ks=>
    cases l with
    | nil=>simp only[chk,hr]at h; exact(aP h).elim
    | cons op l=>
     simp only[chk,hr]at h;rcases hb:aFQ I all op st' with _ | ⟨d,ng,m'⟩
     ·rw[hb]at h; exact(aP h).elim
     rw[hb]at h;obtain⟨h1,h2⟩:=aO h;obtain⟨h2a,h2b⟩:=aO h2;obtain⟨h3,h4⟩:=aO h2b;have hmm:=bH h2a;subst hmm;obtain⟨hC,hf⟩:=dC h1 trivial;exact dV hG hr hC hf (Yx hG hb (fun hm=>iha ha h3 (hw.1 hm) hl) (ihe ha h4 hw.2 hl))
   | _=>simp only[chk,hr]at h; exact(aP h).elim
 | @dc Y R' j as k bps x ret hcon B ih=>intro lt lf acc g st Q R ha h hw hl;simp only[chk]at h;obtain⟨h1,h2⟩:=aO h;obtain⟨hk,h2⟩:=aO h2;obtain⟨r,hx,hB⟩:=hw;obtain⟨h3,h4⟩:=aO (tJ h2 r);exact ih r (acc:=⟨(j,k,as,ret r,[],none)::acc.calls,acc.lits,acc.conds⟩) ⟨.cons (.inr <| .call (bH hk) (xL (bH h3)) ⟨hcon.c,.inl ⟨rfl,rfl,bps,lE h1,hcon.h r hx⟩,bH h3⟩) ha.c,ha.l,ha.p⟩ h4 hB hl
 | @dch Y R' j as k bps Hs N x ret Ht hcon ch B ih=>intro lt lf acc g st Q R ha h hw hl;simp only[chk]at h;obtain⟨h1,h2⟩:=aO h;obtain⟨hk,h2⟩:=aO h2;obtain⟨r,hx,hB⟩:=hw;obtain⟨h3,h4⟩:=aO (tJ h2 r);obtain⟨h5,h6⟩:=aO h4;obtain⟨h7,h8⟩:=aO h6;obtain⟨h9,h10⟩:=aO h8;have hp:=hcon.h r hx;rw[bH h5]at hp;exact ih r (acc:=⟨(j,k,as,ret r,Hs,ch r)::acc.calls,acc.lits,acc.conds⟩) ⟨.cons (.inr <| .call (bH hk) (xL (bH h3)) ⟨hcon.c,.inr ⟨bps,N,lE h1,hp,bH h7,aYD (bH h9)⟩,bH h3⟩) ha.c,ha.l,ha.p⟩ h10 hB hl
 | @dcn Y R' j d as k bps Hs N x ret Ht hcon B ih=>
  intro lt lf acc g st Q R ha h hw hl;simp only[chk]at h;obtain⟨h1,h2⟩:=aO h;obtain⟨hk,h2⟩:=aO h2;obtain⟨hHs,h2⟩:=aO h2;obtain⟨hN,h2⟩:=aO h2;obtain⟨r,hx,hB⟩:=hw;have h3:=tJ h2 r;have hHs:=bH hHs;have hN:=bH hN;subst hHs hN;split at h3
  ·rename_i o e s n f o' e1 e2;obtain⟨h4,h5⟩:=aO h3;have h4:=bH h4;subst h4;have hp:=hcon.h r hx;rw[e1,e2]at hp;exact ih r (acc:=⟨(j,k,as,.own d,[],some (d,.arr e s n f))::acc.calls,acc.lits,acc.conds⟩) ⟨.cons (.inr <| .new (bH hk) rfl rfl rfl hcon.c (lE h1) (hp.renNew d)) ha.c,ha.l,ha.p⟩ h5 hB hl
  ·rename_i o e s n f l e1 e2;obtain⟨a1,h4⟩:=aO h3;obtain⟨a2,h4⟩:=aO h4;obtain⟨a3,h5⟩:=aO h4;have hp:=hcon.h r hx;rw[e1,e2]at hp;exact ih r (acc:=⟨(j,k,as,(PV.agg l).rn o d,[],some (d,.arr e s n f))::acc.calls,acc.lits,acc.conds⟩) ⟨.cons (.inr <| .newH (bH hk) (bH a2) rfl hcon.c (lE h1) (hp.renAgg d (bH a1)) (bH a3)) ha.c,ha.l,ha.p⟩ h5 hB hl
  ·exact(aP h3).elim
 | @dap Y j n f x himp t ih=>intro lt lf acc g st Q R ha h hw hl;simp only[chk]at h;exact ih (acc:=⟨(j,fzN,[.t (.sl n f)],.t x,[],none)::acc.calls,acc.lits,acc.conds⟩) ⟨.cons (.inl ⟨rfl,n,f,x,rfl,rfl,himp⟩) ha.c,ha.l,ha.p⟩ h hw hl
 | dl j c t e iht ihe=>
  intro lt lf acc g st Q R ha h hw hl;simp only[chk]at h;obtain⟨h1,h2⟩:=aO h;cases hc:c with
  | true=>exact iht (acc:=⟨acc.calls,(j,c,true)::acc.lits,acc.conds⟩) ⟨ha.c,.cons hc ha.l,ha.p⟩ h1 (by simp only[Tr.wpT,hc,bU]at hw; exact hw) hl
  | false=>exact ihe (acc:=⟨acc.calls,(j,c,false)::acc.lits,acc.conds⟩) ⟨ha.c,.cons hc ha.l,ha.p⟩ h2 (by simp only[Tr.wpT,hc]at hw; exact hw) hl
 | dg j p t ih=>intro lt lf acc g st Q R ha h hw hl;simp only[chk]at h;exact ih (acc:=⟨acc.calls,acc.lits,(j,[p])::acc.conds⟩) ⟨ha.c,ha.l,.cons hw.1 ha.p⟩ h hw.2 hl
 | dr n e ol ts t ih=>
  intro lt lf acc g st Q R ha h hw hl;rcases hr:run I n g st with _ | ⟨g',st',C,fs⟩
  ·simp only[chk,hr]at h; exact(aP h).elim
  ·cases g' with
   | c x ks=>
    cases x with
    | region id ops dw=>
     cases dw with
     | true=>
      simp only[chk,hr]at h;obtain⟨h1,h2⟩:=aO h;obtain⟨h3,h4⟩:=aO h2;obtain⟨hC,hf⟩:=dC h1 trivial;obtain⟨h5,h6⟩:=aO h3;obtain⟨h7,h8⟩:=aO h6;cases hk:(drS I ops.toList (ops.toList.take (ops.toList.length-e)) acc st' ts ol).keep (dK (drS I ops.toList (ops.toList.take (ops.toList.length-e)) acc st' ts ol).fr) (dK (drS I ops.toList (ops.toList.take (ops.toList.length-e)) acc st' ts ol).hp) with
      | none=>rw[hk]at h4; exact(aP h4).elim
      | some s=>
       rw[hk]at h4;have hq:=ih ⟨.nil,.nil,.nil⟩ h4 hw hl;refine dV hG hr hC hf ?_;have hops:ops=ops.toList.toArray:=by simp
       show pwp P E (.region id ops true) _ _;rw[hops];exact aQI hG (bH h7) (L:=ops.toList) (l:=ops.toList.take (ops.toList.length-e)) (tl:=ops.toList.drop (ops.toList.length-e)) (Ah _ _).symm acc.calls acc.lits acc.conds ol ts ha.c ha.l ha.p _ _ (bH h5) (bH h8) hk hq
     | false=>simp only[chk,hr]at h; exact(aP h).elim
    | _=>simp only[chk,hr]at h; exact(aP h).elim
   | _=>simp only[chk,hr]at h; exact(aP h).elim
 | @mk Y K V mk n enc t ih=>
  intro lt lf acc g st Q R ha h hw hl;rcases hr:run I n g st with _ | ⟨g',st',C,fs⟩
  ·simp only[chk,hr]at h; exact(aP h).elim
  ·cases g' with
   | o all l ks=>
    cases l with
    | nil=>simp only[chk,hr]at h; exact(aP h).elim
    | cons op l=>
     simp only[chk,hr]at h;split at h
     case h_2=>exact(aP h).elim
     rename_i ty d e1 e2 e3;split at h
     case h_2=>exact(aP h).elim
     rename_i st1 e4 e5 e6;obtain⟨h1,h2⟩:=aO h;obtain⟨hC,hf⟩:=dC h1 trivial;exact dV hG hr hC hf (Ot hG (K:=K) enc rfl e1 e2 e3 e4 e5 e6 (ih ha h2 hw hl))
   | _=>simp only[chk,hr]at h; exact(aP h).elim
 | @upd Y K V mk n enc v k t ih=>
  intro lt lf acc g st Q R ha h hw hl;rcases hr:run I n g st with _ | ⟨g',st',C,fs⟩
  ·simp only[chk,hr]at h; exact(aP h).elim
  ·cases g' with
   | o all l ks=>
    cases l with
    | nil=>simp only[chk,hr]at h; exact(aP h).elim
    | cons op l=>
     simp only[chk,hr]at h;split at h
     case h_2=>exact(aP h).elim
     rename_i ty x kx vx e1 e2 e3;split at h
     case h_2=>exact(aP h).elim
     rename_i ob kp p e4 e5 e6;split at h
     case h_2=>exact(aP h).elim
     rename_i it m ho et e7 e8;obtain⟨h1,h2⟩:=aO h;obtain⟨h3,h4⟩:=aO h2;obtain⟨h5,h6⟩:=aO h4;obtain⟨h9,h6⟩:=aO h6;obtain⟨hC,hf⟩:=dC h1 trivial;have h3:=bH h3;subst h3;have h5:=bH h5;cases h5;have hcur:aHZ it (MKey.kT k):=by intro i hi;subst hi;exact bH h9
     exact dV hG hr hC hf (aHS hG v k p rfl (aEX e1) e2 e3 e4 e5 e6 e7 e8 hcur (ih ha h6 hw hl))
   | _=>simp only[chk,hr]at h; exact(aP h).elim
end
end Go.PL
