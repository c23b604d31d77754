/-
  Parts: Arrays whose cells are rows of their own: changes of form. Own work. A row is taken out of a map for good: the entry is left, what it holds is said no more. Own work. Functions as trees: what they compute, and the walk through code that shows it. Own work. Functions as trees: the trees, what they compute, and the check against code. Own work. Functions as trees: the check of a tree against code. Own work. Functions as trees: what the check shows. Own work. Rows of ours: cut short, cleared from a place on. Own work. Functions as trees: A TREE THAT IS CHECKED TELLS WHAT THE CODE DOES. Own work. Functions as trees: functions of the program, from their trees. Own work.
-/
import Derived.Test.YtkgmkgldfjdlaaaGreatDoorMc
import Derived.Laws.IdiomStrings
import Derived.Laws.Cover3
import Derived.KernelRfl
set_option maxHeartbeats 4000000
namespace Go.PL
open Go
variable {A α:Type} {e i m o s:Nat}
def mA{α:Type}[Inhabited α](c:α->List Cel)(xs:List α):Nat->List Cel:=fun i=>c (xs.getD i default)
def zA(f:Nat->List Cel)(i:Nat):List (Nat×Cel)->Nat->List Cel
 | []=>f
 | p::l=>zA (kJ f i p.1 p.2) i l
def Jt(c:List Cel):List (Nat×Cel)->List Cel
 | []=>c
 | p::l=>Jt (c.set p.1 p.2) l
theorem Bo(i:Nat):∀ (l:List (Nat×Cel)) (f:Nat->List Cel),zA f i l i=Jt (f i) l
 | [],_=>rfl
 | p::l,f=>by rw[zA,Bo i l];rw[lO,aH rfl];rfl
theorem rA{i k:Nat}(h:k≠i):∀ (l:List (Nat×Cel)) (f:Nat->List Cel),zA f i l k=f k
 | [],_=>rfl
 | p::l,f=>by rw[zA,rA h l];rw[lO,aT h]
theorem Lx[Inhabited α]{c:α->List Cel}{xs:List α}{x:α}{l:List (Nat×Cel)}(h:Jt (c (xs.getD i default)) l=c x):∀ k,k<xs.length->zA (mA c xs) i l k=mA c (xs.set i x) k:=by
 intro k hk;by_cases hki:k=i
 ·subst hki;rw[Bo];show Jt (c (xs.getD k default)) l=c ((xs.set k x).getD k default);rw[h];simp[hk]
 ·rw[rA hki];show c (xs.getD k default)=c ((xs.set i x).getD k default);rw[bO,bO,List.getElem?_set_ne (fun h=>hki h.symm)]
theorem Nw[Inhabited α](c:α->List Cel)(xs ys:List α):∀ i,i<xs.length+ys.length->kV xs.length (mA c xs) (mA c ys) i=mA c (xs++ys) i:=by
 intro i hi;unfold kV mA;split
 ·rename_i h;rw[bO,bO,dB h]
 ·rename_i h;rw[bO,bO,dF (by omega)]
section
variable {P:Program} {E:Env} {I:Inf} {F:Nat->Prop} {g:Nat->Value} {st st2:St} {a:Act} {w:World}
theorem He.congr{u:Value}{n:Nat}{f f':Nat->List Cel}{ov:Option (Nat×Nat×PV)}(h:He F g w u e s n f ov)(hn:n=m)(hf:∀ i,i<n->f i=f' i):He F g w u e s m f' ov:=by
 subst hn;rcases h with h | ⟨b,cap,cur,h1,h2,h3,h4,h5,hC⟩
 ·exact .inl h
 ·refine .inr ⟨b,cap,cur,h1,h2,h3,h4,h5,fun i hi=>by rw[<-hf i hi]; exact hC.len i hi,fun i j x hi hx=>by rw[<-hf i hi]at hx; exact hC.cell i j x hi hx,fun i j i' j' x x' v v' c hi hi' hx hx'=>by rw[<-hf i hi]at hx; rw[<-hf i' hi']at hx';exact hC.sep i j i' j' x x' v v' c hi hi' hx hx',fun i j x v hi hx=>by rw[<-hf i hi]at hx; exact hC.own i j x v hi hx,fun i j p ho=>?_⟩;obtain⟨q1,q2,q3⟩:=hC.ov i j p ho;exact⟨q1,by rw[<-hf i q1]; exact q2,q3⟩
theorem Le.armN{n:Nat}{f f':Nat->List Cel}{ov:Option (Nat×Nat×PV)}(hl:look st.hp o=some (.arm e s n f ov))(hn:n=m)(hf:∀ i,i<n->f i=f' i):Le E st { st with hp:=(o,.arm e s m f' ov)::del o st.hp }:=by
 refine Le.objF _ hl (fun F g w h=>He.congr h hn hf) (fun g w c h=>?_);subst hn;cases h with
 | self h=>exact .self h
 | arm h1 h2 h3 h4 h5 h6 h7=>exact .arm h1 h2 h3 (by rw[hf _ h3]; exact h4) h5 h6 h7
theorem Rel.armFocus(hN:E.N=I.N){q n j e' s':Nat}{f:Nat->List Cel}{f':Nat->List T}(hl:look st.hp o=some (.arm e s n f none))(hi:i<n)(hx:(f i)[j]? = some (.row e' s' m f'))
  (hs:gU I.N o q (.arm e s n (kJ f i j .any) (some (i,j,.own q))) (.arr e' s' m f') st=some st2)(r:Rel E st a w):Rel E st2 a w:=by
 obtain⟨F,g,r⟩:=r;have hqo:q≠o:=by
  unfold gU at hs;split at hs
  ·rename_i h1 h2 h3; exact gD h2
  ·cases hs
 rcases r.w.hp.obj _ _ (aE hl) with⟨_,h2,_⟩ | ⟨b,cap,cur,h1,h2,h3,h4,h5,hC⟩
 ·omega
 obtain⟨v,hv,hR⟩:=hC.cell i j _ hi hx;have hR:mP F w v e' s' m f':=hR;have hj:j<(f i).length:=(bZ.1 hx).1;have old:∀ (k l:Nat) x,(kJ f i j .any k)[l]? = some x->x.owned=true->¬ (k=i/\l=j)/\(f k)[l]? = some x:=fun k l x hx' ho=>by
  rcases dI hx' with⟨_,_,rfl⟩ | h
  ·cases ho
  ·exact h
 refine(r.focus hN v hl hs (fun g' hg hgq=>?_) (fun g' hg hgq=>?_) (fun g' b' hg hgq hf=>?_) (fun g' b' hg hgq hf=>?_) (fun g' b' hg hgq hf hf'=>?_)).2.elim fun g' h=>⟨F,g',h.2.2⟩
 ·refine .inr ⟨b,cap,cur,by rw[hg o (fun h=>hqo h.symm)]; exact h1,h2,h3,h4,h5,fun k hk=>by rw[rB]; exact hC.len k hk,fun k l x hk hx'=>?_,fun k l k' l' x x' u u' c hk hk' hx1 hx2 ho ho'=>?_,fun k l x u hk hx' ho=>?_,fun k l p e0=>?_⟩
  ·rcases dI hx' with⟨rfl,rfl,rfl⟩ | ⟨_,hx'⟩
   ·exact⟨v,hv,True.intro⟩
   ·exact hC.cell k l x hk hx'
  ·exact hC.sep k l k' l' x x' u u' c hk hk' (old k l x hx1 ho).2 (old k' l' x' hx2 ho').2 ho ho'
  ·exact hC.own k l x u hk (old k l x hx' ho).2 ho
  ·cases e0;refine⟨hi,tO hj,fun u hu=>?_⟩;rw[hv]at hu; cases hu;rcases hR with⟨e1,_⟩ | ⟨b2,cap2,_,e1,_⟩
   ·rw[e1]at hgq ⊢; exact .own hgq
   ·rw[e1]at hgq ⊢; exact .own hgq
 ·show mP F w (g' q) e' s' m f';rw[hgq]; exact hR
 ·cases hf with
  | self h=>rw[hg o (fun h=>hqo h.symm)]at h; exact .self h
  | arm q1 q2 q3 q4 q5 q6 q7=>rw[hg o (fun h=>hqo h.symm)]at q1; exact .arm q1 q2 q3 (old _ _ _ q4 q5).2 q5 q6 q7
 ·have:=hf.toBlk rfl;rw[hgq]at this;exact .arm h1 h2 hi hx rfl hv this
 ·have hb':=hf'.toBlk rfl;rw[hgq]at hb';cases hf with
  | self h=>rw[hg o (fun h=>hqo h.symm),h1]at h;simp[blk]at h; subst h;exact hC.own i j _ v hi hx rfl hv hb'
  | arm q1 q2 q3 q4 q5 q6 q7=>rw[hg o (fun h=>hqo h.symm),h1]at q1;injection q1 with q1; injection q1 with q1; injection q1 with q1;subst q1;rw[h2]at q2; injection q2 with q2; injection q2 with q2;subst q2;obtain⟨p1,p2⟩:=old _ _ _ q4 q5;exact p1 (hC.sep _ _ i j _ _ _ v b' q3 hi p2 hx q5 rfl q6 hv q7 hb')
theorem Le.armMerge{q n j e' s':Nat}{f:Nat->List Cel}{f':Nat->List T}(hl:look st.hp o=some (.arm e s n f (some (i,j,.own q))))(hq:look st.hp q=some (.arr e' s' m f'))
  (hs:oL o q (.arm e s n (kJ f i j (.row e' s' m f')) none) st=some st2):Le E st st2:=by
 rintro a w ⟨F,g,r⟩;have hqo:q≠o:=by
  unfold oL at hs;split at hs
  ·rename_i h1 h2; exact gD h1
  ·cases hs
 have hlm:=aE hl;have hqm:=aE hq;have harr:mP F w (g q) e' s' m f':=r.w.hp.obj _ _ hqm;rcases r.w.hp.obj _ _ hlm with⟨_,_,h⟩ | ⟨b,cap,cur,h1,h2,h3,h4,h5,hC⟩
 ·cases h
 obtain⟨hi,hx,hov⟩:=hC.ov _ _ _ rfl;obtain⟨v,hv,_⟩:=hC.cell i j _ hi hx;have hvq:v=g q:=by have:=hov v hv;cases this with | own h=>exact h.symm
 have selfq:∀ c,blk v=some c->aK g w q (.arr e' s' m f') c:=fun c hc=>.self (by rw[<-hvq]; exact hc);have selfo:aK g w o (.arm e s n f (some (i,j,.own q))) b:=.self (by rw[h1]; rfl);refine⟨F,g,r.merge hl hq hs ?_ fun b' hf=>?_⟩
 ·refine .inr ⟨b,cap,cur,h1,h2,h3,h4,h5,fun k hk=>by rw[rB]; exact hC.len k hk,fun k l x hk hx'=>?_,fun k l k' l' x x' u u' c hk hk' hx1 hx2 ho ho' hu hu' hc hc'=>?_,fun k l x u hk hx' ho hu hc=>?_,fun k l p e0=>by cases e0⟩
  ·rcases dI hx' with⟨rfl,rfl,rfl⟩ | ⟨_,hx'⟩
   ·exact⟨v,hv,by rw[hvq]; exact harr⟩
   ·exact hC.cell k l x hk hx'
  ·rcases dI hx1 with⟨rfl,rfl,rfl⟩ | ⟨_,_⟩
   ·rw[hv]at hu; cases hu;rcases dI hx2 with⟨rfl,rfl,rfl⟩ | ⟨_,hx2⟩
    ·exact⟨rfl,rfl⟩
    ·exact(r.w.hp.sep o _ q _ c hlm hqm (fun h=>hqo h.symm) (.arm h1 h2 hk' hx2 ho' hu' hc') (selfq c hc)).elim
   ·rename_i hx3;rcases dI hx2 with⟨rfl,rfl,rfl⟩ | ⟨_,hx2⟩
    ·rw[hv]at hu'; cases hu';exact(r.w.hp.sep o _ q _ c hlm hqm (fun h=>hqo h.symm) (.arm h1 h2 hk hx3 ho hu hc) (selfq c hc')).elim
    ·exact hC.sep k l k' l' x x' u u' c hk hk' hx3 hx2 ho ho' hu hu' hc hc'
  ·rcases dI hx' with⟨rfl,rfl,rfl⟩ | ⟨_,hx'⟩
   ·rw[hv]at hu; cases hu;exact r.w.hp.sep o _ q _ b hlm hqm (fun h=>hqo h.symm) selfo (selfq b hc)
   ·exact hC.own k l x u hk hx' ho hu hc
 ·cases hf with
  | self h=>exact .inl (.self h)
  | arm q1 q2 q3 q4 q5 q6 q7=>
   rcases dI q4 with⟨rfl,rfl,rfl⟩ | ⟨_,q4⟩
   ·rw[h1]at q1;injection q1 with q1; injection q1 with q1; injection q1 with q1;subst q1;rw[h2]at q2; injection q2 with q2; injection q2 with q2;subst q2;rw[hv]at q6; cases q6;exact .inr (selfq b' q7)
   ·exact .inl (.arm q1 q2 q3 q4 q5 q6 q7)
theorem Rel.armFreeze{n:Nat}{f:Nat->List Cel}{gf:Nat->List T}{x:T}{st':St}(hl:look st.hp o=some (.arm e s n f none))(hx:x.view=some (n,gf))(hc:∀ i,i<n->(f i).map yW=(gf i).map some)
  (h:jP o x st=some st')(r:Rel E st a w):Rel E st' a w:=by
 obtain⟨F,g,r⟩:=r;unfold jP at h;have hlm:=aE hl;have hob:=r.w.hp.obj _ _ hlm;have hq:VR (fun b=>F b\/aK g w o (.arm e s n f none) b) g w (.t x) (g o):=.t (Gg hob hc hx);have hF:∀ b,F b->(F b\/aK g w o (.arm e s n f none) b):=fun b hb=>.inl hb;have hfr:=St.erase_fr h;have hhp:=St.erase_hp h;refine⟨fun b=>F b\/aK g w o (.arm e s n f none) b,g,r.nt,r.df,fun t x' hx'=>?_,⟨⟨fun k y hy=>?_,fun k y b hy hb=>?_,fun k y k' y' b hy hy' hne hb hb'=>?_⟩,fun b hb=>.inl (r.w.f0 b hb),fun b hb=>?_,r.w.ext,r.w.names,r.w.b0⟩⟩
 ·obtain⟨h1,_⟩:=hfr t x' hx';simp only[cE,dS]at h1;obtain⟨⟨t',y⟩,hy,rfl,rfl⟩:=h1;exact PV.fz_ok hF hq (r.fr t' y hy)
 ·obtain⟨x,h1,_,_,h4,_⟩:=hhp k y hy;simp only[cE,dS]at h1;obtain⟨⟨k',z⟩,hz,rfl,rfl⟩:=h1;exact h4 _ _ _ (vQ hF hq (r.w.hp.obj k' z (aJ.1 hz).1))
 ·obtain⟨x,h1,h2,_,_,h5⟩:=hhp k y hy;simp only[cE,dS]at h1;obtain⟨⟨k',z⟩,hz,rfl,rfl⟩:=h1;obtain⟨hz1,hz2⟩:=aJ.1 hz;have hb:=fO (h5 _ _ _ hb);refine⟨?_,(r.w.hp.own k' z b hz1 hb).2⟩;rintro (h | h)
  ·exact(r.w.hp.own k' z b hz1 hb).1 h
  ·exact r.w.hp.sep k' z o _ b hz1 hlm hz2 hb h
 ·obtain⟨x,h1,_,_,_,h5⟩:=hhp k y hy;obtain⟨x',h1',_,_,_,h5'⟩:=hhp k' y' hy';simp only[cE,dS]at h1 h1';obtain⟨⟨k2,z⟩,hz,rfl,rfl⟩:=h1;obtain⟨⟨k2',z'⟩,hz',rfl,rfl⟩:=h1';exact r.w.hp.sep k2 z k2' z' b (aJ.1 hz).1 (aJ.1 hz').1 hne (fO (h5 _ _ _ hb)) (fO (h5' _ _ _ hb'))
 ·rcases hb with hb | hb
  ·exact r.w.f1 b hb
  ·have:=(r.w.hp.own o _ b hlm hb).2;exact⟨hb.block hob,this.elim (fun h=>.inr (.inl h)) (fun h=>.inr (.inr h))⟩
def xO(N:List Nat)(t o e s:Nat)(f:Nat->List Cel)(st:St):Option St:=
 match look st.fr t,jN o N,st.erase o with
 | some .nil,true,some st1=>some { fr:=(t,.own o)::del t st1.fr,hp:=(o,.arm e s 0 f none)::st1.hp }
 | _,_,_=>none
theorem Rel.thawA(hG:cZ P E I){t:Nat}{f:Nat->List Cel}{st':St}(h:xO I.N t o e s f st=some st')(r:Rel E st a w):Rel E st' a w:=by
 obtain⟨F,g,r⟩:=r;unfold xO at h;split at h
 ·rename_i st1 hl hn he;cases h;have hnil:a.tmps.getD t undef = .slice none 0 0:=by have:=r.fr _ _ (aE hl);generalize a.tmps.getD t undef=u at this;cases this; rfl
  have hft:∀ b,aK (upd g o (.slice none 0 0)) w o (.arm e s 0 f none) b->False:=fun b hb=>by
   cases hb with
   | self h=>rw[aP]at h; simp[blk]at h
   | arm h1=>rw[aP]at h1; cases h1
  refine⟨F,upd g o (.slice none 0 0),r.nt,r.df,fun t' x hx=>?_,⟨HpR.change r.w.hp he (fun k hk=>aQ g _ hk) (fun b hb=>⟨hb,rfl⟩) (fun _ h=>h) (fun _ _ _ _ _ _=>rfl) (.inl ⟨aP ..,rfl,rfl⟩)
   (fun b hb=>(hft b hb).elim) (fun k y b _ _ _ hb=>hft b hb),r.w.f0,r.w.f1,r.w.ext,fun k hk=>?_,r.w.b0⟩⟩
  ·rcases aL.1 hx with e | hx
   ·cases e; rw[hnil]; exact .own (aP ..)
   ·obtain⟨h1,h2⟩:=St.erase_fr he t' x (aJ.1 hx).1;exact(r.fr t' x h1).mono (fun b hb=>⟨hb,rfl⟩) (fun k hk=>aQ g _ (h2 k hk))
  ·rw[aQ g _ (fun e:k=o=>cI hn (hG.N▸e▸hk))];exact r.w.names k hk
 ·cases h
end
section
variable {F:Nat->Prop} {g g':Nat->Value} {w:World} {b clock ob:Nat} {es:Array MapEntry} {it:Option dO}
theorem MpR.anyHead{m:List (T×Mem)}{kk:T}{y:Mem}{l r:List MapEntry}(h:MpR F g w b es clock it ((kk,y)::m) none l r)(hit:ItR g' w b es clock it):
  MpR F g' w b es clock it ((kk,.any)::m) none l r where
 perm:=h.perm
 ent:=by
  have:=h.ent;cases this with
  | cons h1 h2=>exact .cons ⟨h1.1,trivial⟩ h2
 hole:=h.hole
 keys:=h.keys
 born:=h.born
 old:=h.old
 sep:=by
  intro i j x z e e' c hx hz he he' hij hox hoz hb hb';cases i with
  | zero=>simp only[Ba,cV]at hx;subst hx; cases hox
  | succ i=>
   cases j with
   | zero=>simp only[Ba,cV]at hz;subst hz; cases hoz
   | succ j=>exact h.sep (i+1) (j+1) x z e e' c (by simpa using hx) (by simpa using hz) he he' hij hox hoz hb hb'
 it:=hit
theorem aK.any{m:List (T×Mem)}{kk:T}{hl:T×Option PV}{c:Nat}(h:aK g w ob (.mp it ((kk,.any)::m) none) c):aK g w ob (.mp it m (some hl)) c:=by
 cases h with
 | self h=>exact .self h
 | iter h=>exact .iter h
 | mem h1 h2 h3 h4 h5 h6 h7=>
  rcases aL.1 h4 with rfl | h4
  ·cases h6
  ·exact .mem h1 h2 h3 h4 h5 h6 h7
end
def Gd{B:Type}(e s:Nat)(nn:B->Nat)(ff:B->Nat->List T):Option B->Mem
 | none=>.any
 | some c=>.row e s (nn c) (ff c)
theorem Oj{K B:Type}[MKey K]{nn:B->Nat}{ff:B->Nat->List T}(v:List (K×B)):
  eM (Gd e s nn ff) (v.map fun p=>(p.1,some p.2))=eM (fun c=>Mem.row e s (nn c) (ff c)) v:=by
 simp only[eM,List.map_map];rfl
section
variable {P:Program} {E:Env} {I:Inf} {st:St} {K V:Type} [MKey K] {k:K}
theorem Cm(hG:cZ P E I){ops l:List Oper}{o:Oper}{rest:List Oper}{Q:dQ}{t d ob et:Nat}{x kx:Operand}{it:Option dO}{n:Nat}{f:Nat->List T}{enc:V->Mem}(v:List (K×V))(c cA:V)
  (hl:l=o::rest)(hop:o.op = .lookup t x kx false)(hd:o.dst=some d)(hw:aU ops o st=some true)(hnt:Nat.blt d I.nt=true)(hx:ev st x=some (.map ob))(hk:ev st kx=some (.t (MKey.kT k)))
  (hob:look st.hp ob=some (.mp it (eM enc v) none))(hm:gZ I.ti t (MKey.kT k)=some et)(hz:rE P et (.slice none 0 0))(hit:yD d it=true)
  (hlk:cC v k=some c)(hrow:enc c = .row e s n f)(hany:enc cA = .any){st2:St}
  (hs:gU I.N ob d (.mp it (eM enc (wO v k cA)) none) (.arr e s n f) st=some st2)
  (h1:bY P E ops Q rest (st2.put d (.own d))):bY P E ops Q l st:=by
 refine bW hl hw fun F g a w r=>?_;have hd':d<E.nt:=by rw[hG.nt]; simpa[cB] using hnt
 obtain⟨kt,kd,hT⟩:=jJ hG.ti hm;obtain⟨info,hi,hz⟩:=hz;obtain⟨b,es,clock,e1,e2,l1,r1,hM⟩:=r.w.hp.obj _ _ (aE hob);have hxv:=aR r hx;have hkv:=(aR r hk).key hT.d;obtain⟨u,hu⟩:∃ u,a.eval x=u:=⟨_,rfl⟩;obtain⟨kv,hkv'⟩:∃ u,a.eval kx=u:=⟨_,rfl⟩;rw[hu]at hxv; rw[hkv']at hkv;have hdo:=tV hs;have hno:=uE hit;cases hxv with
 | map hg=>
  rw[e1]at hg; injection hg with hg; injection hg with hg; subst hg;have hrun:=jO (P:=P) hT hkv e2 (hM.kinds (by simp) k) hi hz;have hf:=hM.found k;have hex:∀ v',(Instr.lookup t (.map (some b)) kv false).run P w = .ok v' w->(execOp a.eval o).run P w = .ok (.value v') w:=by intro v' hv';unfold execOp;simp[hop,hu,hkv',hv']
  obtain⟨hp,e0,he0,hk0⟩:=hf.2 c hlk;rcases hrun with⟨_,h2⟩ | ⟨e',he,hke,h2⟩
  ·exact absurd hk0 (h2 e0 he0)
  ·obtain⟨l2,hM2⟩:=hM.permM hp;have hmem:=(hM2.entry (x:=(MKey.kT k,enc c)) (by simp) he hke).1.2;simp only[hrow]at hmem;have hsl:∃ ad m c',e'.val = .slice ad m c':=by
    rcases hmem with⟨h1,_⟩ | ⟨bb,cap,cur,h1,_⟩
    ·exact⟨_,_,_,h1⟩
    ·exact⟨_,_,_,h1⟩
   have hgive:=hM2.give (d:=d) (ob:=ob) (p:=none) e1 e2 (by rw[hrow]; rfl) hdo hit he hke (fun g' hg' q hq=>by cases hq);have hp2:=yC (enc:=enc) v k cA;rw[hany]at hp2;have hag:∀ g':Nat->Value,(∀ q,q≠d->g' q=g q)->∀ q,q∈itN it->g' q=g q:=fun g' hg q hq=>hg q (hno q hq);obtain⟨_,g',hgd,hga,r'⟩:=r.focus hG.N e'.val hob hs
    (fun g' hg hgd=>by obtain⟨l3,hM3⟩:=(hM2.anyHead (hM.it.agree (hag g' hg))).permM hp2;exact⟨b,es,clock,by rw[hg ob (fun e=>hdo e.symm)]; exact e1,e2,l3,_,hM3⟩)
    (fun g' hg hgd=>by simp only[bL]; rw[hgd]; exact hmem)
    (fun g' c' hg hgd hc=>((hgive.2 g' hg hgd).2.1 c' (hc.perm hp2.symm).any).perm hp.symm)
    (fun g' c' hg hgd hc=>((hgive.2 g' hg hgd).2.2.1 _ c' rfl hc).perm hp.symm)
    (fun g' c' hg hgd hc hc'=>(hgive.2 g' hg hgd).2.2.2 _ c' rfl (hc.perm hp2.symm).any hc')
   obtain⟨ad,mm,cc,hsl⟩:=hsl;exact⟨_,_,w,_,hex _ h2,.inl rfl,by rw[hd]; exact⟨F,g',r'.put hd' (by rw[hsl]; exact .own (by rw[hgd,hsl]))⟩,h1⟩
end
inductive VT:Type 1 where
 | ok
 | eq {A:Type} (x:A)
 | and (x y:VT)
 | all {A:Type} (f:A->VT)
def pk(b:Bool)(x y:A):A:=match b with | true=>x | false=>y
def vt(b:Bool)(x y:A):VT:=.eq (pk b x y)
def bad(b:Bool):VT:=.eq b
theorem aI{x y:A}(h:vt true x y=vt false x y):x=y:=by injection h
theorem aA(h:bad true=bad false):False:=by injection h with _ h; cases h
theorem aB{a b c d:VT}(h:VT.and a b=VT.and c d):a=c/\b=d:=by injection h with h1 h2; exact⟨h1,h2⟩
theorem fN{f g:A->VT}(h:VT.all f=VT.all g)(s:A):f s=g s:=by injection h with _ h; exact congrFun h s
class Cur (S:Type) where
 all:(S->VT)->VT
 ok:∀ f g,all f=all g->∀ s,f s=g s
instance (S:Type):Cur S:=⟨fun f=>.all f,fun _ _ h=>fN h⟩
instance (A B:Type)[Cur B]:Cur (A×B):=⟨fun f=>.all fun a=>Cur.all fun b=>f (a,b),fun _ _ h s=>Cur.ok _ _ (fN h s.1) s.2⟩
instance (A B:Type)[Cur A][Cur B]:Cur (A⊕B):=⟨fun f=>.and (Cur.all fun a=>f (.inl a)) (Cur.all fun b=>f (.inr b)),fun _ _ h s=>by
 obtain⟨h1,h2⟩:=aB h;cases s with
 | inl a=>exact Cur.ok _ _ h1 a
 | inr b=>exact Cur.ok _ _ h2 b⟩
instance:Cur Unit:=⟨fun f=>f (),fun _ _ h _=>h⟩
def part[Inhabited α](xs:List α)(lo n:Nat):List α:=(List.range n).map fun j=>xs.getD (lo+j) default
inductive Sg (α:Type) where
 | al (xs:List α)
 | pt (xs:List α) (lo n:Nat)
def Sg.n{α:Type}:Sg α->Nat | .al xs=>xs.length | .pt _ _ n=>n
def Sg.f[Inhabited α](c:α->List T):Sg α->Nat->List T | .al xs=>eF c xs | .pt xs lo _=>fun k=>eF c xs (lo+k)
def Sg.l[Inhabited α]:Sg α->List α | .al xs=>xs | .pt xs lo n=>part xs lo n
theorem Sg.ok[Inhabited α](c:α->List T)(a:Sg α):a.n=a.l.length/\∀ i,i<a.n->a.f c i=eF c a.l i:=by
 cases a with
 | al xs=>exact⟨rfl,fun _ _=>rfl⟩
 | pt xs lo n=>refine⟨by simp[Sg.n,Sg.l,part],fun i hi=>?_⟩;simp only[Sg.n]at hi;simp[Sg.f,Sg.l,part,eF,hi]
inductive Cv:Type 1 where
 | fr (o:Nat) (x:T)
 | rn (o o':Nat)
 | th (t o e s:Nat) (f:Nat->List T)
 | thc (b j o e s:Nat) (f:Nat->List T)
 | sl (t:Nat) (x:T)
 | bx (o:Nat) (l:List T)
 | ap {α:Type} [Inhabited α] (o:Nat) (c:α->List T) (xs ys:List α)
 | apl {α:Type} [Inhabited α] (o:Nat) (c:α->List T) (xs ys:List α)
 | ni (o:Nat)
 | nc (o:Nat)
 | fz {K V:Type} [MKey K] (o e s:Nat) (nn:V->Nat) (ff:V->Nat->List T) (eD:V->T) (v:List (K×V))
 | gp {K V:Type} [MKey K] (o:Nat) (enc:V->Mem) (v:List (K×V)) (k:K)
 | fw {K V:Type} [MKey K] (o q e s:Nat) (nn:V->Nat) (ff:V->Nat->List T) (v:List (K×V)) (k:K) (c:V)
 | fd {K V:Type} [MKey K] (o:Nat) (eD:V->T) (v:List (K×V)) (k:K) (c:V)
 | mg (o q:Nat)
 | la {α:Type} [Inhabited α] (o:Nat) (c:α->List Cel) (xs:List α)
 | apr {α:Type} [Inhabited α] (o:Nat) (c:α->List Cel) (xs ys:List α)
 | upr {α:Type} [Inhabited α] (o:Nat) (c:α->List Cel) (xs:List α) (i:Nat) (x:α) (l:List (Nat×Cel))
 | fza {α:Type} [Inhabited α] (o:Nat) (c:α->List Cel) (cW:α->List T) (xs:List α)
 | tha (t o e s:Nat) (f:Nat->List Cel)
 | nz (o n k:Nat) (f:Nat->List T) (x:T)
 | om {K B:Type} [MKey K] (o e s:Nat) (nn:B->Nat) (ff:B->Nat->List T) (v:List (K×B))
def uI(x:T):Option Nat:=match x.view with | some (n,_)=>some n | none=>none
def slE(b:Bool)(n:Nat)(f:Nat->List T)(m:Nat)(g:Nat->List T):VT:=.and (vt b m n) (vt b ((List.range n).map f) ((List.range n).map g))
def dD(b:Bool):List PV->List T->VT
 | [],[]=>.ok
 | .nil::l,x::r=>.and (vt b (uI x) (some 0)) (dD b l r)
 | .t (.sl n f)::l,.sl m g::r=>.and (slE b n f m g) (dD b l r)
 | .t (.sl n f)::l,.lz x::r=>.and (slE b n f x.len x.cells) (dD b l r)
 | p::l,x::r=>.and (vt b p (.t x)) (dD b l r)
 | _,_=>bad b
def slV(b:Bool)(p:PV)(x:T):VT:=
 match p,x with
 | .nil,x=>vt b (uI x) (some 0)
 | .agg l,.agg r=>dD b l r
 | .t (.sl n f),.sl m g=>slE b n f m g
 | .t (.sl n f),.lz x=>slE b n f x.len x.cells
 | .fn (.func k) 0 [],.fv f=>vt b k f
 | p,x=>vt b p (.t x)
def cvS(I:Inf)(c:Cv)(st:St):Option St:=
 match c with
 | .fr o x=>jP o x st
 | .rn o o'=>grn I.N o o' st
 | .th t o e s f=>Av I.N t o e s f st
 | .thc b j o e s f=>uY I.N b j o e s f st
 | .sl t x=>some { st with fr:=(t,.t x)::del t st.fr }
 | .bx o l=>some { st with hp:=(o,.box (l.map .t))::del o st.hp }
 | @Cv.ap _ _ o c xs ys=>match look st.hp o with | some (.arr e s _ _)=>some { st with hp:=(o,.arr e s (xs++ys).length (eF c (xs++ys)))::del o st.hp } | _=>none
 | @Cv.apl _ _ o c xs ys=>match look st.hp o with | some (.arr e s _ _)=>some { st with hp:=(o,.arr e s (xs++ys).length (eF c (xs++ys)))::del o st.hp } | _=>none
 | @Cv.fz _ _ _ o _ _ _ _ eD v=>match look st.hp o with | some (.mp it _ _)=>some { st with hp:=(o,.mp it (eM (fun c=>.d (eD c)) v) none)::del o st.hp } | _=>none
 | .ni o=>match look st.hp o with | some (.mp _ m h)=>some { st with hp:=(o,.mp none m h)::del o st.hp } | _=>none
 | .nc o=>match look st.hp o with | some (.mp (some i) m h)=>some { st with hp:=(o,.mp (some ⟨i.o,i.rem,none⟩) m h)::del o st.hp } | _=>none
 | @Cv.gp _ _ _ o enc v k=>match look st.hp o with | some (.mp it _ _)=>some { st with hp:=(o,.mp it (eM enc (eZ v k)) (some (MKey.kT k,none)))::del o st.hp } | _=>none
 | @Cv.fw _ _ _ o q e s nn ff v k c=>match look st.hp o with | some (.mp it _ _)=>oL o q (.mp it (eM (fun c=>.row e s (nn c) (ff c)) (wO v k c)) none) st | _=>none
 | @Cv.fd _ _ _ o eD v k c=>match look st.hp o with | some (.mp it _ _)=>some { st with hp:=(o,.mp it (eM (fun c=>.d (eD c)) (wO v k c)) none)::del o st.hp } | _=>none
 | .mg o q=>match look st.hp o,look st.hp q with
  | some (.arm e s n f (some (i,j,.own q'))),some (.arr e' s' m f')=>match Nat.beq q' q with | true=>oL o q (.arm e s n (kJ f i j (.row e' s' m f')) none) st | false=>none
  | _,_=>none
 | @Cv.la _ _ o c xs=>match look st.hp o with | some (.arm e s _ _ ov)=>some { st with hp:=(o,.arm e s xs.length (mA c xs) ov)::del o st.hp } | _=>none
 | @Cv.apr _ _ o c xs ys=>match look st.hp o with | some (.arm e s _ _ ov)=>some { st with hp:=(o,.arm e s (xs++ys).length (mA c (xs++ys)) ov)::del o st.hp } | _=>none
 | @Cv.upr _ _ o c xs i x _=>match look st.hp o with | some (.arm e s _ _ ov)=>some { st with hp:=(o,.arm e s (xs.set i x).length (mA c (xs.set i x)) ov)::del o st.hp } | _=>none
 | @Cv.fza _ _ o _ cW xs=>jP o (eL cW xs) st
 | .tha t o e s f=>xO I.N t o e s f st
 | @Cv.om _ _ _ o e s nn ff v=>match look st.hp o with | some (.mp it _ _)=>some { st with hp:=(o,.mp it (eM (Gd e s nn ff) (v.map fun p=>(p.1,some p.2))) none)::del o st.hp } | _=>none
 | .nz o n k f x=>match look st.hp o with | some (.arr e s _ _)=>some { st with hp:=(o,.arr e s n (kI f k [x]))::del o st.hp } | _=>none
def cvV(b:Bool)(c:Cv)(st:St):VT:=
 match c with
 | @Cv.om _ _ _ o e s nn ff v=>match look st.hp o with | some (.mp _ m h)=>vt b (m,h) (eM (fun c=>.row e s (nn c) (ff c)) v,none) | _=>bad b
 | .nz o n k f x=>match look st.hp o with | some (.arr _ _ n' f')=>.and (vt b (n',f') (n,kI f k [.sl 0 fun _=>[]])) (vt b (uI x) (some 0)) | _=>bad b
 | @Cv.la _ _ o c xs=>match look st.hp o with | some (.arm _ _ n f _)=>.and (vt b n xs.length) (vt b ((List.range n).map f) ((List.range n).map (mA c xs))) | _=>bad b
 | @Cv.apr _ _ o c xs ys=>match look st.hp o with | some (.arm _ _ n f _)=>vt b (n,f) (xs.length+ys.length,kV xs.length (mA c xs) (mA c ys)) | _=>bad b
 | @Cv.upr _ _ o c xs i x l=>match look st.hp o with | some (.arm _ _ n f _)=>.and (vt b (n,f) (xs.length,zA (mA c xs) i l)) (vt b (Jt (c (xs.getD i default)) l) (c x)) | _=>bad b
 | @Cv.fza _ _ o c cW xs=>match look st.hp o with | some (.arm _ _ n f none)=>.and (vt b (n,f) (xs.length,mA c xs)) (.all fun y=>vt b ((c y).map yW) ((cW y).map some)) | _=>bad b
 | .fr o x=>match look st.hp o with | some (.arr _ _ n f)=>vt b (some (n,f)) x.view | _=>bad b
 | .sl t x=>match look st.fr t with | some p=>slV b p x | none=>bad b
 | .bx o l=>match look st.hp o with | some (.box r)=>dD b r l | _=>bad b
 | @Cv.ap _ _ o c xs ys=>match look st.hp o with | some (.arr _ _ n f)=>vt b (n,f) (xs.length+ys.length,kX xs.length (eF c xs) (eF c ys)) | _=>bad b
 | @Cv.apl _ _ o c xs ys=>match look st.hp o with
  | some (.arr _ s n f)=>.and (vt b (n,f) (xs.length+ys.length,kX xs.length (eF c xs) (eT (ys.flatMap c) s))) (vt b ((List.range ys.length).map (eT (ys.flatMap c) s)) ((List.range ys.length).map (eF c ys)))
  | _=>bad b
 | @Cv.gp _ _ _ o enc v _=>match look st.hp o with | some (.mp _ m h)=>vt b (m,h) (eM enc v,none) | _=>bad b
 | @Cv.fz _ _ _ o e s nn ff eD v=>match look st.hp o with | some (.mp _ m h)=>.and (vt b (m,h) (eM (fun c=>.row e s (nn c) (ff c)) v,none)) (.all fun c=>vt b (eD c).view (some (nn c,ff c))) | _=>bad b
 | @Cv.fw _ _ _ o q e s nn ff v k c=>match look st.hp o,look st.hp q with
  | some (.mp _ m h),some y=>.and (vt b (m,h) (eM (fun c=>.row e s (nn c) (ff c)) (eZ v k),some (MKey.kT k,some (.own q)))) (vt b y (.arr e s (nn c) (ff c)))
  | _,_=>bad b
 | @Cv.fd _ _ _ o eD v k c=>match look st.hp o with | some (.mp _ m (some (kk,some p)))=>.and (vt b (m,kk) (eM (fun c=>.d (eD c)) (eZ v k),MKey.kT k)) (slV b p (eD c)) | _=>bad b
 | _=>.ok
def cvL(I:Inf):List Cv->St->Option St
 | [],st=>some st
 | c::l,st=>match cvS I c st with | some st'=>cvL I l st' | none=>none
def Fa(I:Inf)(b:Bool):List Cv->St->VT
 | [],_=>.ok
 | c::l,st=>.and (cvV b c st) (match cvS I c st with | some st'=>Fa I b l st' | none=>bad b)
section
variable {P:Program} {E:Env} {I:Inf} {st st':St}
theorem Rd.nz{F:Nat->Prop}{w:World}{t t':T}{v:Value}{f f':Nat->List T}(h:Rd F w t v)(h1:t.view=some (0,f))(h2:t'.view=some (0,f')):Rd F w t' v:=by
 cases h with
 | nil _=>exact .nil h2
 | sl a cap size vs hv hc hF hs hvv hr=>rw[h1]at hv;cases hv;exact .sl a cap size vs h2 hc hF (fun i hi=>absurd hi (by omega)) (fun i j hi=>absurd hi (by omega)) (fun i j x hi=>absurd hi (by omega))
 | _=>simp[T.view]at h1
theorem bL.nz{F:Nat->Prop}{g:Nat->Value}{w:World}{o:Nat}{e:TypeId}{s n k:Nat}{f m:Nat->List T}{x:T}(hx:x.view=some (0,m))
  (h:bL F g w o (.arr e s n (kI f k [.sl 0 fun _=>[]]))):bL F g w o (.arr e s n (kI f k [x])):=by
 rcases h with h | ⟨b,cap,cur,h1,h2,h3,h4,h5,h6,h7⟩
 ·exact .inl h
 ·refine .inr ⟨b,cap,cur,h1,h2,h3,h4,h5,fun i hi=>?_,fun i j y hi hy=>?_⟩
  ·have:=h6 i hi;unfold kI at this ⊢;split <;> simp_all
  ·by_cases hik:i=k
   ·subst hik;unfold kI at hy;rw[aH rfl]at hy;have hj:j=0:=by cases j with | zero=>rfl | succ j=>simp at hy
    subst hj;simp only[Ba,cV]at hy;subst hy;obtain⟨v,hv,hr⟩:=h7 i 0 (.sl 0 fun _=>[]) hi (by unfold kI; rw[aH rfl]; rfl);exact⟨v,hv,hr.nz rfl hx⟩
   ·exact h7 i j y hi (by unfold kI at hy ⊢; rw[aT hik]at hy ⊢; exact hy)
theorem eW{f g:Nat->α}{n:Nat}(h:(List.range n).map f=(List.range n).map g):∀ i,i<n->f i=g i:=by intro i hi;have:=congrArg (·[i]?) h;simpa[hi] using this
theorem Gw{n:Nat}{f g:Nat->List T}(h:slE true n f m g=slE false n f m g):∀ F q w v,VR F q w (.t (.sl n f)) v->VR F q w (.t (.sl m g)) v:=by unfold slE at h;obtain⟨h1,h2⟩:=aB h;exact qM rfl (aI h1) (eW (aI h2))
theorem cO:∀ {l:List PV} {r:List T},dD true l r=dD false l r->fG l r
 | [],[],_=>.nil
 | [],_::_,h=>by simp only[dD]at h; exact(aA h).elim
 | p::l,[],h=>by cases p <;> (simp only[dD]at h; exact(aA h).elim)
 | p::l,x::r,h=>by
  cases p with
  | nil=>
   simp only[dD]at h;obtain⟨h1,h2⟩:=aB h;have h1:=aI h1;unfold uI at h1;split at h1
   ·rename_i n f hv;cases h1;exact .empty hv (cO h2)
   ·cases h1
  | t y=>
   cases y with
   | sl n f=>
    cases x with
    | sl m g=>simp only[dD]at h;obtain⟨h1,h2⟩:=aB h;exact .imp (Gw h1) (cO h2)
    | lz z=>simp only[dD]at h;obtain⟨h1,h2⟩:=aB h;obtain⟨h3,h4⟩:=aB h1;exact .imp (qM (x:=.lz z) rfl (aI h3) (eW (aI h4))) (cO h2)
    | _=>simp only[dD]at h;obtain⟨h1,h2⟩:=aB h;have h1:=aI h1;cases h1
   | _=>simp only[dD]at h;obtain⟨h1,h2⟩:=aB h;have h1:=aI h1;cases h1;exact .same (cO h2)
  | _=>
   simp only[dD]at h;obtain⟨h1,h2⟩:=aB h;have h1:=aI h1
   first
    | (cases h1; exact .same (cO h2))
    | (cases h1; done)
theorem Vt{F:Nat->Prop}{g:Nat->Value}{w:World}{k:Nat}{v:Value}(h:VR F g w (.fn (.func k) 0 []) v):VR F g w (.t (.fv k)) v:=by
 cases h with
 | @fn _ _ _ us vs hn hs _=>have h1:us=#[]:=rO hn;have h2:vs=#[]:=rO (by rw[h1]at hs; simpa using hs);subst h1 h2;exact .t (.fv k)
theorem Gu{p:PV}{x:T}(h:slV true p x=slV false p x):∀ F g w v,VR F g w p v->VR F g w (.t x) v:=by
 unfold slV at h;split at h
 ·have h:=aI h;unfold uI at h;split at h
  ·rename_i n f hv;cases h;exact Iu hv
  ·cases h
 ·exact tX (cO h)
 ·exact Gw h
 ·rename_i z;obtain⟨h3,h4⟩:=aB h;exact qM (x:=.lz z) rfl (aI h3) (eW (aI h4))
 ·have h:=aI h;subst h;exact fun _ _ _ _ hv=>Vt hv
 ·have h:=aI h;subst h;exact fun _ _ _ _ hv=>hv
theorem Uz(hG:cZ P E I){c:Cv}(h:cvV true c st=cvV false c st)(hs:cvS I c st=some st'):Le E st st':=by
 cases c with
 | fr o x=>
  simp only[cvV]at h;split at h
  ·rename_i e s n f hl;exact Le.freeze x hl (aI h).symm hs
  ·exact(aA h).elim
 | rn o o'=>exact Le.rn hG hs
 | th t o e s f=>exact Le.thaw hG hs
 | thc b j o e s f=>exact Le.thawC hG hs
 | sl t x=>
  simp only[cvV]at h;split at h
  ·rename_i p hp;cases hs;exact Le.slot (.t x) hp (Gu h)
  ·exact(aA h).elim
 | bx o l=>
  simp only[cvV]at h;split at h
  ·rename_i r hp;cases hs;exact Le.obj (.box (l.map .t)) hp (fun _ _ _=>Qr (cO h)) rfl
  ·exact(aA h).elim
 | ap o c xs ys=>
  simp only[cvV]at h;split at h
  ·rename_i e s n f hp;simp only[cvS,hp]at hs;cases hs;have h1:=aI h;cases h1;exact Le.obj _ hp (fun _ _ _=>bL.row (by simp) (zV c xs ys)) rfl
  ·exact(aA h).elim
 | apl o c xs ys=>
  simp only[cvV]at h;split at h
  ·rename_i e s n f hp;simp only[cvS,hp]at hs;cases hs;obtain⟨h1,h2⟩:=aB h;have h1:=aI h1;have h2:=eW (aI h2);cases h1;refine Le.obj _ hp (fun _ _ _=>bL.row (by simp) fun i hi=>?_) rfl;rw[<-zV c xs ys i hi];unfold kX;split
   ·rfl
   ·rename_i hn;exact h2 _ (by omega)
  ·exact(aA h).elim
 | fz o e s nn ff eD v=>
  simp only[cvV]at h;split at h
  ·rename_i it m ho hl;simp only[cvS,hl]at hs;cases hs;obtain⟨h1,h2⟩:=aB h;have h1:=aI h1;cases h1;exact Le.fzmap v (fun c=>aI (fN h2 c)) hl
  ·exact(aA h).elim
 | ni o=>
  simp only[cvS]at hs;split at hs
  ·rename_i it m ho hl;cases hs;refine Le.objF _ hl (fun F g w h=>?_) (fun g w c h=>?_)
   ·obtain⟨b,es,clock,e1,e2,l1,r1,hM⟩:=h;exact⟨b,es,clock,e1,e2,l1,r1,{ hM with it:=trivial }⟩
   ·cases h with
    | self h=>exact .self h
    | mem h1 h2 h3 h4 h5 h6 h7=>exact .mem h1 h2 h3 h4 h5 h6 h7
  ·cases hs
 | nc o=>
  simp only[cvS]at hs;split at hs
  ·rename_i i m ho hl;cases hs;refine Le.objF _ hl (fun F g w h=>?_) (fun g w c h=>?_)
   ·obtain⟨b,es,clock,e1,e2,l1,r1,hM⟩:=h;obtain⟨r,since,seen,c0,g1,g2,g3,g4,g5,g6,g7,g8⟩:=hM.it;exact⟨b,es,clock,e1,e2,l1,r1,{ hM with it:=⟨r,since,seen,c0,g1,g2,g3,g4,g5,g6,g7,fun k h=>by cases h⟩ }⟩
   ·cases h with
    | self h=>exact .self h
    | iter h=>exact .iter h
    | mem h1 h2 h3 h4 h5 h6 h7=>exact .mem h1 h2 h3 h4 h5 h6 h7
  ·cases hs
 | gp o enc v k=>
  simp only[cvV]at h;split at h
  ·rename_i it m ho hp;simp only[cvS,hp]at hs;cases hs;have h1:=aI h;cases h1;exact Le.gap v k hp
  ·exact(aA h).elim
 | fw o q e s nn ff v k c=>
  simp only[cvV]at h;split at h
  ·rename_i it m ho l hp hq;simp only[cvS,hp]at hs;obtain⟨h1,h2⟩:=aB h;have h1:=aI h1;have h2:=aI h2;cases h1;subst h2;exact Le.fillrow v k c hp hq hs
  ·exact(aA h).elim
 | fd o eD v k c=>
  simp only[cvV]at h;split at h
  ·rename_i it m kk p hp;simp only[cvS,hp]at hs;cases hs;obtain⟨h1,h2⟩:=aB h;have h1:=aI h1;cases h1;exact Le.filld v k c (Gu h2) hp
  ·exact(aA h).elim
 | mg o q=>
  simp only[cvS]at hs;split at hs
  ·rename_i e s n f i j q' e' s' m f' hl hq;split at hs
   ·rename_i hqq;have hqq:=aZ hqq;subst hqq;exact Le.armMerge hl hq hs
   ·cases hs
  ·cases hs
 | la o c xs=>
  simp only[cvV]at h;split at h
  ·rename_i e s n f ov hl;simp only[cvS,hl]at hs;cases hs;obtain⟨h1,h2⟩:=aB h;exact Le.armN hl (aI h1) (eW (aI h2))
  ·exact(aA h).elim
 | apr o c xs ys=>
  simp only[cvV]at h;split at h
  ·rename_i e s n f ov hl;simp only[cvS,hl]at hs;cases hs;have h1:=aI h;cases h1;exact Le.armN hl (by simp) (Nw c xs ys)
  ·exact(aA h).elim
 | upr o c xs i x l=>
  simp only[cvV]at h;split at h
  ·rename_i e s n f ov hl;simp only[cvS,hl]at hs;cases hs;obtain⟨h1,h2⟩:=aB h;have h1:=aI h1;cases h1;exact Le.armN hl (by simp) (Lx (aI h2))
  ·exact(aA h).elim
 | fza o c cW xs=>
  simp only[cvV]at h;split at h
  ·rename_i e s n f hl;obtain⟨h1,h2⟩:=aB h;have h1:=aI h1;cases h1;exact fun _ _ r=>Rel.armFreeze (gf:=eF cW xs) hl rfl (fun i _=>aI (fN h2 (xs.getD i default))) hs r
  ·exact(aA h).elim
 | tha t o e s f=>exact fun _ _ r=>Rel.thawA hG hs r
 | om o e s nn ff v=>
  simp only[cvV]at h;split at h
  ·rename_i it m ho hp;simp only[cvS,hp]at hs;cases hs;have h1:=aI h;cases h1;rw[Oj];exact Le.objF _ hp (fun _ _ _ h=>h) (fun _ _ _ h=>h)
  ·exact(aA h).elim
 | nz o n k f x=>
  simp only[cvV]at h;split at h
  ·rename_i e s n' f' hp;simp only[cvS,hp]at hs;cases hs;obtain⟨h1,h2⟩:=aB h;have h1:=aI h1;have h2:=aI h2;cases h1;unfold uI at h2;split at h2
   ·rename_i m g hv;cases h2;exact Le.obj _ hp (fun _ _ _=>bL.nz hv) rfl
   ·cases h2
  ·exact(aA h).elim
theorem Id(hG:cZ P E I):∀ {l:List Cv} {st st':St},Fa I true l st=Fa I false l st->cvL I l st=some st'->Le E st st'
 | [],st,st',_,hs=>by cases hs; exact .refl
 | c::l,st,st',h,hs=>by
  simp only[Fa]at h;simp only[cvL]at hs;obtain⟨h1,h2⟩:=aB h;split at hs
  ·rename_i st1 h3;rw[h3]at h2;exact(Uz hG h1 h3).trans (Id hG h2 hs)
  ·cases hs
end
structure Con (P:Program)(k:Nat)(args:List PV){R:Type}(x:Option R)(ret:R->PV):Prop where
 c:eG P k
 h:∀ y,x=some y->dK P k args [] [] (Ret (ret y))
structure eA (P:Program)(k:Nat)(args:List PV)(Hs:Hp)(N:List Nat){R:Type}(x:Option R)(ret:R->PV)(Ht:R->Hp):Prop where
 c:eG P k
 h:∀ y,x=some y->dK P k args Hs N (mB (ret y) (Ht y))
def cK(s:ByteArray):List Int:=s.data.toList.map fun b=>(b.toNat:Int)
inductive Tr (P:Program):Type->Type 1 where
 | ret {Y:Type} (n:Nat) (y:Y):Tr P Y
 | ite {Y:Type} (n:Nat) (c:Bool) (t e:Tr P Y):Tr P Y
 | grd {Y:Type} (n:Nat) (p:Prop) [Decidable p] (t:Tr P Y):Tr P Y
 | gd {Y:Type} (n:Nat) (p:Prop) (h:p) (t:Tr P Y):Tr P Y
 | cv {Y:Type} (n:Nat) (l:List Cv) (t:Tr P Y):Tr P Y
 | no {Y:Type}:Tr P Y
 | ca {Y R:Type} (n:Nat) {k:Nat} {bps:List PV} {x:Option R} {ret:R->PV} (h:Con P k bps x ret) (B:R->Tr P Y):Tr P Y
 | cas {Y:Type} (n:Nat) {k:Nat} {bps:List PV} {x:Option Nat} {ret:Nat->PV} (h:Con P k bps x ret) (m:Nat) (B:Nat->Tr P Y):Tr P Y
 | ch {Y R:Type} [Cur R] (n:Nat) {k:Nat} {bps:List PV} {Hs:Hp} {N:List Nat} {x:Option R} {ret:R->PV} {Ht:R->Hp} (nw:List Nat) (h:eA P k bps Hs N x ret Ht) (B:R->Tr P Y):Tr P Y
 | jn {Y S:Type} [Cur S] (n m:Nat) (tm:S->St) (A:Tr P S) (B:S->Tr P Y):Tr P Y
 | pc {Y S:Type} [Cur S] (n m:Nat) (tm:S->St) (A:Tr P (S⊕Y)) (B:S->Tr P Y):Tr P Y
 | lp {Y S R:Type} [Cur S] [Cur R] (n:Nat) (tm:S->St) (bt:R->St) (ex:Nat) (s0:S) (L:S->Tr P (S⊕(R⊕Y))) (B:R->Tr P Y):Tr P Y
 | sp {Y:Type} (n:Nat) (t:Nat) (r m:Int) (a e:Tr P Y):Tr P Y
 | slc {Y α:Type} [Inhabited α] (n:Nat) (t:Nat) (c:α->List T) (xs:List α) (lo hi:Int) (k:Tr P Y):Tr P Y
 | sto {Y α:Type} [Inhabited α] (n:Nat) (o:Nat) (c:α->List T) (xs:List α) (l:List (Nat×α)) (k:Tr P Y):Tr P Y
 | cut {Y α:Type} [Inhabited α] (n:Nat) (c:α->List T) (xs:List α) (hi:Int) (k:Tr P Y):Tr P Y
 | clr {Y α:Type} [Inhabited α] (n:Nat) (c:α->List T) (xs:List α) (lo:Int) (k:Tr P Y):Tr P Y
 | apz {Y α:Type} [Inhabited α] (n:Nat) (c:α->List T) (byt:Nat) (m:Int) (k:Tr P Y):Tr P Y
 | mks {Y α:Type} [Inhabited α] (n:Nat) (c:α->List T) (byt:Nat) (l m:Int) (k:Tr P Y):Tr P Y
 | abl {Y:Type} (n:Nat) (e:Nat) (k:Tr P Y):Tr P Y
 | bs {Y α:Type} [Inhabited α] (n:Nat) (own:Bool) (c:α->List T) (xs:List α) (t:Tr P Y):Tr P Y
 | cb {Y:Type} (n:Nat) (s:ByteArray) (k:Tr P Y):Tr P Y
 | dfr {Y:Type} (n:Nat) {f:Nat} (h:∀ cap,jI P { target:=.fn (.func f) cap,args:=#[] }) (k:Tr P Y):Tr P Y
 | eqi {Y:Type} (n t:Nat) (x i:Int) (k:Tr P Y):Tr P Y
 | ndb {Y:Type} (n m:Nat) (a e:Tr P Y):Tr P Y
 | dc {Y R:Type} (j:Nat) (as:List PV) {k:Nat} {bps:List PV} {x:Option R} {ret:R->PV} (h:Con P k bps x ret) (B:R->Tr P Y):Tr P Y
 | dch {Y R:Type} (j:Nat) (as:List PV) {k:Nat} {bps:List PV} {Hs:Hp} {N:List Nat} {x:Option R} {ret:R->PV} {Ht:R->Hp} (h:eA P k bps Hs N x ret Ht) (ch:R->Option (Nat×aN)) (B:R->Tr P Y):Tr P Y
 | dl {Y:Type} (j:Nat) (c:Bool) (t e:Tr P Y):Tr P Y
 | dg {Y:Type} (j:Nat) (p:Prop) [Decidable p] (t:Tr P Y):Tr P Y
 | dr {Y:Type} (n e:Nat) (ol:OL) (ts:List Nat) (t:Tr P Y):Tr P Y
 | mk {Y K V:Type} [MKey K] (n:Nat) (enc:V->Mem) (t:Tr P Y):Tr P Y
 | mlen {Y K V:Type} [MKey K] (n:Nat) (enc:V->Mem) (v:List (K×V)) (t:Tr P Y):Tr P Y
 | lkr {Y K V:Type} [MKey K] (n e s:Nat) (nn:V->Nat) (ff:V->Nat->List T) (dflt:V) (v:List (K×V)) (k:K) (t:Tr P Y):Tr P Y
 | lkd {Y K V:Type} [MKey K] (n:Nat) (zv:Value) (eD:V->T) (v:List (K×V)) (k:K) (t0:Tr P Y) (t1:V->Tr P Y):Tr P Y
 | lkt {Y B K:Type} [MKey K] (n e s:Nat) (nn:B->Nat) (ff:B->Nat->List T) (v:List (K×Option B)) (k:K) (t:B->Tr P Y):Tr P Y
 | foc {Y α:Type} [Inhabited α] (n o q i j:Nat) (c:α->List Cel) (xs:List α) (t:Tr P Y):Tr P Y
 | dcn {Y R:Type} (j d:Nat) (as:List PV) {k:Nat} {bps:List PV} {Hs:Hp} {N:List Nat} {x:Option R} {ret:R->PV} {Ht:R->Hp} (h:eA P k bps Hs N x ret Ht) (B:R->Tr P Y):Tr P Y
 | dcm {Y R:Type} (j d:Nat) (as:List PV) {k:Nat} {bps:List PV} {Hs:Hp} {N:List Nat} {x:Option R} {ret:R->PV} {Ht:R->Hp} (h:eA P k bps Hs N x ret Ht) (B:R->Tr P Y):Tr P Y
 | dap {Y:Type} (j:Nat) {n:Nat} {f:Nat->List T} {x:T} (h:∀ F g w v,VR F g w (.t (.sl n f)) v->VR F g w (.t x) v) (t:Tr P Y):Tr P Y
 | dlk {Y K:Type} [MKey K] (j ty ob:Nat) (v:List (K×Nat)) (k:K) (t1:Nat->Tr P Y):Tr P Y
 | upd {Y K V:Type} [MKey K] (n:Nat) (enc:V->Mem) (v:List (K×V)) (k:K) (t:Tr P Y):Tr P Y
 | dlt {Y K V:Type} [MKey K] (n:Nat) (enc:V->Mem) (v:List (K×V)) (k:K) (hp:Option PV) (t:Tr P Y):Tr P Y
 | rng {Y K V:Type} [MKey K] (n:Nat) (enc:V->Mem) (v:List (K×V)) (t:Tr P Y):Tr P Y
 | nxd {Y K V:Type} [MKey K] (n:Nat) (eD:V->T) (v:List (K×V)) (rem:List K) (t0:Tr P Y) (t1:K->V->Tr P Y):Tr P Y
def sel{S Y β:Type _}(f:S->β)(g:Y->β):S⊕Y->β
 | .inl v=>f v
 | .inr y=>g y
namespace Tr
variable {P:Program}
variable {R S Y:Type}
noncomputable def den:{Y:Type}->Tr P Y->Option Y
 | _,.ret _ y=>some y
 | _,.ite _ c t e=>if c=true then t.den else e.den
 | _,@grd _ _ _ p _ t=>if p then t.den else none
 | _,.gd _ _ _ t=>t.den
 | _,.cv _ _ t=>t.den
 | _,.no=>none
 | _,@ca _ _ _ _ _ _ x _ _ B=>x.bind fun r=>(B r).den
 | _,@cas _ _ _ _ _ x _ _ m B=>x.bind fun r=>if r<m then (B r).den else none
 | _,@ch _ _ _ _ _ _ _ _ _ x _ _ _ _ B=>x.bind fun r=>(B r).den
 | _,@jn _ _ _ _ _ _ _ A B=>A.den.bind fun v=>(B v).den
 | _,@pc _ _ _ _ _ _ _ A B=>A.den.bind (sel (fun v=>(B v).den) some)
 | _,@lp _ _ _ _ _ _ _ _ _ _ s0 L B=>(dN (fun s=>(L s).den) s0).bind (sel (fun r=>(B r).den) some)
 | _,.sp _ _ r m a e=>if r=m then a.den else e.den
 | _,@slc _ _ _ _ _ _ _ xs lo hi k=>if 0<=lo/\lo<=hi/\hi<=(xs.length:Int) then k.den else none
 | _,@sto _ _ _ _ _ _ _ xs l k=>if (l.all fun p=>decide (p.1<xs.length))=true then k.den else none
 | _,@cut _ _ _ _ _ _ xs hi k=>if 0<=hi/\hi<=(xs.length:Int) then k.den else none
 | _,@clr _ _ _ _ _ _ xs lo k=>if 0<=lo/\lo<=(xs.length:Int) then k.den else none
 | _,@apz _ _ _ _ _ _ byt m k=>if 0<=m/\m.toNat*byt<=140737488355328 then k.den else none
 | _,@mks _ _ _ _ _ _ byt l m k=>if (0<=l/\l<=m)/\m.toNat*byt<=140737488355328 then k.den else none
 | _,.abl _ _ k=>k.den
 | _,@bs _ _ _ _ _ _ _ _ t=>t.den
 | _,.cb _ _ k=>k.den
 | _,.dfr _ _ k=>k.den
 | _,.eqi _ _ x i k=>if x=i then k.den else none
 | _,.ndb _ _ _ _=>none
 | _,@dc _ _ _ _ _ _ _ x _ _ B=>x.bind fun r=>(B r).den
 | _,@dch _ _ _ _ _ _ _ _ _ x _ _ _ _ B=>x.bind fun r=>(B r).den
 | _,.dl _ c t e=>if c=true then t.den else e.den
 | _,@dg _ _ _ p _ t=>if p then t.den else none
 | _,.dr _ _ _ _ t=>t.den
 | _,@mk _ _ _ _ _ _ _ t=>t.den
 | _,@mlen _ _ _ _ _ _ _ _ t=>t.den
 | _,@lkr _ _ _ _ _ _ _ _ _ _ _ _ _ t=>t.den
 | _,@lkd _ _ _ _ _ _ _ _ v k t0 t1=>match cC v k with | none=>t0.den | some c=>(t1 c).den
 | _,@lkt _ _ _ _ _ _ _ _ _ _ v k t=>match cC v k with | some (some c)=>(t c).den | _=>none
 | _,@foc _ _ _ _ _ _ _ i _ _ xs t=>if i<xs.length then t.den else none
 | _,@dcn _ _ _ _ _ _ _ _ _ _ x _ _ _ B=>x.bind fun r=>(B r).den
 | _,@dcm _ _ _ _ _ _ _ _ _ _ x _ _ _ B=>x.bind fun r=>(B r).den
 | _,.dap _ _ t=>t.den
 | _,@dlk _ _ _ _ _ _ _ v k t1=>(cC v k).bind fun c=>(t1 c).den
 | _,@upd _ _ _ _ _ _ _ _ _ t=>t.den
 | _,@dlt _ _ _ _ _ _ _ _ _ _ t=>t.den
 | _,@rng _ _ _ _ _ _ _ _ t=>t.den
 | _,@nxd _ _ _ _ _ _ _ _ _ _ _=>none
def LoopT(b:S->(S⊕R->Prop)->Prop)(Q:R->Prop)(s:S):Prop:=∀ X:S->Prop,(∀ s,b s (sel X Q)->X s)->X s
def wpT:{Y:Type}->Tr P Y->(Y->Prop)->Prop
 | _,.ret _ y,Q=>Q y
 | _,.ite _ c t e,Q=>if c=true then t.wpT Q else e.wpT Q
 | _,@grd _ _ _ p _ t,Q=>p/\t.wpT Q
 | _,.gd _ _ _ t,Q=>t.wpT Q
 | _,.cv _ _ t,Q=>t.wpT Q
 | _,.no,_=>False
 | _,@ca _ _ _ _ _ _ x _ _ B,Q=>∃ r,x=some r/\(B r).wpT Q
 | _,@cas _ _ _ _ _ x _ _ m B,Q=>∃ r,x=some r/\r<m/\(B r).wpT Q
 | _,@ch _ _ _ _ _ _ _ _ _ x _ _ _ _ B,Q=>∃ r,x=some r/\(B r).wpT Q
 | _,@jn _ _ _ _ _ _ _ A B,Q=>A.wpT fun v=>(B v).wpT Q
 | _,@pc _ _ _ _ _ _ _ A B,Q=>A.wpT (sel (fun v=>(B v).wpT Q) Q)
 | _,@lp _ _ _ _ _ _ _ _ _ _ s0 L B,Q=>LoopT (fun s Z=>(L s).wpT Z) (sel (fun r=>(B r).wpT Q) Q) s0
 | _,.sp _ _ r m a e,Q=>if r=m then a.wpT Q else e.wpT Q
 | _,@slc _ _ _ _ _ _ _ xs lo hi k,Q=>(0<=lo/\lo<=hi/\hi<=(xs.length:Int))/\k.wpT Q
 | _,@sto _ _ _ _ _ _ _ xs l k,Q=>(l.all fun p=>decide (p.1<xs.length))=true/\k.wpT Q
 | _,@cut _ _ _ _ _ _ xs hi k,Q=>(0<=hi/\hi<=(xs.length:Int))/\k.wpT Q
 | _,@clr _ _ _ _ _ _ xs lo k,Q=>(0<=lo/\lo<=(xs.length:Int))/\k.wpT Q
 | _,@apz _ _ _ _ _ _ byt m k,Q=>(0<=m/\m.toNat*byt<=140737488355328)/\k.wpT Q
 | _,@mks _ _ _ _ _ _ byt l m k,Q=>((0<=l/\l<=m)/\m.toNat*byt<=140737488355328)/\k.wpT Q
 | _,.abl _ _ k,Q=>k.wpT Q
 | _,@bs _ _ _ _ _ _ _ _ t,Q=>t.wpT Q
 | _,.cb _ _ k,Q=>k.wpT Q
 | _,.dfr _ _ k,Q=>k.wpT Q
 | _,.eqi _ _ x i k,Q=>x=i/\k.wpT Q
 | _,.ndb _ m a e,Q=>(m=0->a.wpT Q)/\e.wpT Q
 | _,@dc _ _ _ _ _ _ _ x _ _ B,Q=>∃ r,x=some r/\(B r).wpT Q
 | _,@dch _ _ _ _ _ _ _ _ _ x _ _ _ _ B,Q=>∃ r,x=some r/\(B r).wpT Q
 | _,.dl _ c t e,Q=>if c=true then t.wpT Q else e.wpT Q
 | _,@dg _ _ _ p _ t,Q=>p/\t.wpT Q
 | _,.dr _ _ _ _ t,Q=>t.wpT Q
 | _,@mk _ _ _ _ _ _ _ t,Q=>t.wpT Q
 | _,@mlen _ _ _ _ _ _ _ _ t,Q=>t.wpT Q
 | _,@lkr _ _ _ _ _ _ _ _ _ _ _ _ _ t,Q=>t.wpT Q
 | _,@lkd _ _ _ _ _ _ _ _ v k t0 t1,Q=>match cC v k with | none=>t0.wpT Q | some c=>(t1 c).wpT Q
 | _,@lkt _ _ _ _ _ _ _ _ _ _ v k t,Q=>match cC v k with | some (some c)=>(t c).wpT Q | _=>False
 | _,@foc _ _ _ _ _ _ _ i _ _ xs t,Q=>i<xs.length/\t.wpT Q
 | _,@dcn _ _ _ _ _ _ _ _ _ _ x _ _ _ B,Q=>∃ r,x=some r/\(B r).wpT Q
 | _,@dcm _ _ _ _ _ _ _ _ _ _ x _ _ _ B,Q=>∃ r,x=some r/\(B r).wpT Q
 | _,.dap _ _ t,Q=>t.wpT Q
 | _,@dlk _ _ _ _ _ _ _ v k t1,Q=>∃ c,cC v k=some c/\(t1 c).wpT Q
 | _,@upd _ _ _ _ _ _ _ _ _ t,Q=>t.wpT Q
 | _,@dlt _ _ _ _ _ _ _ _ _ _ t,Q=>t.wpT Q
 | _,@rng _ _ _ _ _ _ _ _ t,Q=>t.wpT Q
 | _,@nxd _ _ _ _ _ _ _ v rem t0 t1,Q=>(rem=[]->t0.wpT Q)/\(∀ k c,k∈rem->cC v k=some c->(t1 k c).wpT Q)/\(rem≠[]->∃ k c,k∈rem/\cC v k=some c)
theorem LoopT.mono{b:S->(S⊕R->Prop)->Prop}(hb:∀ s {Q Q':S⊕R->Prop},(∀ z,Q z->Q' z)->b s Q->b s Q'){Q Q':R->Prop}(hq:∀ r,Q r->Q' r){s:S}(h:LoopT b Q s):LoopT b Q' s:=by intro X hX;exact h X fun s hs=>hX s (hb s (fun z hz=>by cases z with | inl s'=>exact hz | inr r=>exact hq _ hz) hs)
theorem LoopT.unfold{b:S->(S⊕R->Prop)->Prop}(hb:∀ s {Q Q':S⊕R->Prop},(∀ z,Q z->Q' z)->b s Q->b s Q'){Q:R->Prop}{s:S}:
  LoopT b Q s↔b s (sel (LoopT b Q) Q):=by
 have h1:∀ s,b s (sel (LoopT b Q) Q)->LoopT b Q s:=by intro s h X hX;exact hX s (hb s (fun z hz=>by cases z with | inl s'=>exact hz X hX | inr r=>exact hz) h)
 refine⟨fun h=>h (fun s=>b s (sel (LoopT b Q) Q)) fun s hs=>?_,h1 s⟩;exact hb s (fun z hz=>by cases z with | inl s'=>exact h1 _ hz | inr r=>exact hz) hs
theorem nN(t:Tr P Y):∀ {Q Q':Y->Prop},(∀ y,Q y->Q' y)->t.wpT Q->t.wpT Q':=by
 induction t with
 | ret n y=>exact fun hq h=>hq _ h
 | ite n c t e iht ihe=>intro Q Q' hq h; simp only[wpT]at h ⊢; split <;> simp_all <;> first | exact iht hq h | exact ihe hq h
 | grd n p t ih=>exact fun hq h=>⟨h.1,ih hq h.2⟩
 | gd n p h t ih=>exact fun hq h=>ih hq h
 | cv n l t ih=>exact fun hq h=>ih hq h
 | no=>exact fun _ h=>h
 | ca n h B ih=>rintro Q Q' hq ⟨r,h1,h2⟩; exact⟨r,h1,ih r hq h2⟩
 | cas n h m B ih=>rintro Q Q' hq ⟨r,h1,h2,h3⟩; exact⟨r,h1,h2,ih r hq h3⟩
 | ch n nw h B ih=>rintro Q Q' hq ⟨r,h1,h2⟩; exact⟨r,h1,ih r hq h2⟩
 | jn n m tm A B ihA ihB=>exact fun hq h=>ihA (fun v hv=>ihB v hq hv) h
 | pc n m tm A B ihA ihB=>exact fun hq h=>ihA (fun z hz=>by cases z with | inl v=>exact ihB v hq hz | inr y=>exact hq _ hz) h
 | lp n tm bt ex s0 L B ihL ihB=>exact fun hq h=>LoopT.mono (fun s _ _ hz=>ihL s hz) (fun z hz=>by cases z with | inl v=>exact ihB v hq hz | inr y=>exact hq _ hz) h
 | sp n t r m a e iha ihe=>intro Q Q' hq h; simp only[wpT]at h ⊢; split <;> simp_all <;> first | exact iha hq h | exact ihe hq h
 | slc n t c xs lo hi k ih=>exact fun hq h=>⟨h.1,ih hq h.2⟩
 | sto n o c xs l k ih=>exact fun hq h=>⟨h.1,ih hq h.2⟩
 | cut n c xs hi k ih=>exact fun hq h=>⟨h.1,ih hq h.2⟩
 | clr n c xs lo k ih=>exact fun hq h=>⟨h.1,ih hq h.2⟩
 | apz n c byt m k ih=>exact fun hq h=>⟨h.1,ih hq h.2⟩
 | mks n c byt l m k ih=>exact fun hq h=>⟨h.1,ih hq h.2⟩
 | abl n e k ih=>exact fun hq h=>ih hq h
 | bs n own c xs t ih=>exact fun hq h=>ih hq h
 | cb n s k ih=>exact fun hq h=>ih hq h
 | dfr n h k ih=>exact fun hq h=>ih hq h
 | eqi n t x i k ih=>exact fun hq h=>⟨h.1,ih hq h.2⟩
 | ndb n m a e iha ihe=>exact fun hq h=>⟨fun hm=>iha hq (h.1 hm),ihe hq h.2⟩
 | dc j as h B ih=>rintro Q Q' hq ⟨r,h1,h2⟩; exact⟨r,h1,ih r hq h2⟩
 | dch j as h ch B ih=>rintro Q Q' hq ⟨r,h1,h2⟩; exact⟨r,h1,ih r hq h2⟩
 | dl n c t e iht ihe=>intro Q Q' hq h; simp only[wpT]at h ⊢; split <;> simp_all <;> first | exact iht hq h | exact ihe hq h
 | dg n p t ih=>exact fun hq h=>⟨h.1,ih hq h.2⟩
 | dr n e ol ts t ih=>exact fun hq h=>ih hq h
 | mk n enc t ih=>exact fun hq h=>ih hq h
 | mlen n enc v t ih=>exact fun hq h=>ih hq h
 | lkr n e s nn ff d v k t ih=>exact fun hq h=>ih hq h
 | lkd n zv eD v k t0 t1 ih0 ih1=>intro Q Q' hq h; simp only[wpT]at h ⊢; split <;> simp_all <;> first | exact ih0 hq h | exact ih1 _ hq h
 | lkt n e s nn ff v k t ih=>intro Q Q' hq h; simp only[wpT]at h ⊢; rcases hm:cC v k with _ | _ | c <;> simp only[hm]at h ⊢ <;> first | exact h.elim | exact ih _ hq h
 | foc n o q i j c xs t ih=>exact fun hq h=>⟨h.1,ih hq h.2⟩
 | dcn j d as h B ih=>rintro Q Q' hq ⟨r,h1,h2⟩; exact⟨r,h1,ih r hq h2⟩
 | dcm j d as h B ih=>rintro Q Q' hq ⟨r,h1,h2⟩; exact⟨r,h1,ih r hq h2⟩
 | dap j h0 t ih=>exact fun hq h=>ih hq h
 | dlk j ty ob v k t1 ih=>rintro Q Q' hq ⟨c,h1,h2⟩; exact⟨c,h1,ih c hq h2⟩
 | upd n enc v k t ih=>exact fun hq h=>ih hq h
 | dlt n enc v k hp t ih=>exact fun hq h=>ih hq h
 | rng n enc v t ih=>exact fun hq h=>ih hq h
 | nxd n eD v rem t0 t1 ih0 ih1=>exact fun hq h=>⟨fun hr=>ih0 hq (h.1 hr),fun k c hk hc=>ih1 k c hq (h.2.1 k c hk hc),h.2.2⟩
theorem LoopT.of_while{b:S->(S⊕R->Prop)->Prop}{f:S->Option (S⊕R)}(hf:∀ s z,f s=some z->∀ Q:S⊕R->Prop,Q z->b s Q){s:S}{r:R}(h:dN f s=some r){Q:R->Prop}(hq:Q r):LoopT b Q s:=by
 obtain⟨n,hn⟩:=(iB f s).run h
 induction n generalizing s with
 | zero=>simp[gJ]at hn
 | succ n ih=>
  simp only[gJ]at hn;cases hs:f s with
  | none=>simp[hs]at hn
  | some z=>
   simp only[hs]at hn;cases z with
   | inl s'=>exact fun X hX=>hX s (hf s _ hs _ (ih (uQ hn) hn X hX))
   | inr r'=>cases hn; exact fun X hX=>hX s (hf s _ hs _ hq)
theorem of_den(t:Tr P Y):∀ {y:Y} {Q:Y->Prop},t.den=some y->Q y->t.wpT Q:=by
 induction t with
 | ret n y=>intro y' Q h hq; cases h; exact hq
 | ite n c t e iht ihe=>intro y Q h hq; simp only[den,wpT]at h ⊢; split <;> simp_all <;> first | exact iht h hq | exact ihe h hq
 | grd n p t ih=>intro y Q h hq; simp only[den]at h; split at h <;> first | exact⟨by assumption,ih h hq⟩ | cases h
 | gd n p h t ih=>exact fun h hq=>ih h hq
 | cv n l t ih=>exact fun h hq=>ih h hq
 | no=>intro y Q h; cases h
 | ca n h B ih=>intro y Q hd hq; obtain⟨r,h1,h2⟩:=bnd hd; exact⟨r,h1,ih r h2 hq⟩
 | cas n h m B ih=>intro y Q hd hq; obtain⟨r,h1,h2⟩:=bnd hd; split at h2 <;> first | exact⟨r,h1,by assumption,ih r h2 hq⟩ | cases h2
 | ch n nw h B ih=>intro y Q hd hq; obtain⟨r,h1,h2⟩:=bnd hd; exact⟨r,h1,ih r h2 hq⟩
 | jn n m tm A B ihA ihB=>intro y Q hd hq; obtain⟨r,h1,h2⟩:=bnd hd; exact ihA h1 (ihB r h2 hq)
 | pc n m tm A B ihA ihB=>
  intro y Q hd hq; obtain⟨r,h1,h2⟩:=bnd hd;refine ihA h1 ?_;cases r with
  | inl v=>exact ihB v h2 hq
  | inr y'=>cases h2; exact hq
 | lp n tm bt ex s0 L B ihL ihB=>
  intro y Q hd hq; obtain⟨r,h1,h2⟩:=bnd hd;refine LoopT.of_while (f:=fun s=>(L s).den) (fun s z hz Q hQ=>ihL s hz hQ) h1 ?_;cases r with
  | inl v=>exact ihB v h2 hq
  | inr y'=>cases h2; exact hq
 | sp n t r m a e iha ihe=>intro y Q h hq; simp only[den,wpT]at h ⊢; split <;> simp_all <;> first | exact iha h hq | exact ihe h hq
 | slc n t c xs lo hi k ih=>intro y Q h hq; simp only[den]at h; split at h <;> first | exact⟨by assumption,ih h hq⟩ | cases h
 | sto n o c xs l k ih=>intro y Q h hq; simp only[den]at h; split at h <;> first | exact⟨by assumption,ih h hq⟩ | cases h
 | cut n c xs hi k ih=>intro y Q h hq; simp only[den]at h; split at h <;> first | exact⟨by assumption,ih h hq⟩ | cases h
 | clr n c xs lo k ih=>intro y Q h hq; simp only[den]at h; split at h <;> first | exact⟨by assumption,ih h hq⟩ | cases h
 | apz n c byt m k ih=>intro y Q h hq; simp only[den]at h; split at h <;> first | exact⟨by assumption,ih h hq⟩ | cases h
 | mks n c byt l m k ih=>intro y Q h hq; simp only[den]at h; split at h <;> first | exact⟨by assumption,ih h hq⟩ | cases h
 | abl n e k ih=>exact fun h hq=>ih h hq
 | bs n own c xs t ih=>exact fun h hq=>ih h hq
 | cb n s k ih=>exact fun h hq=>ih h hq
 | dfr n h k ih=>exact fun h hq=>ih h hq
 | eqi n t x i k ih=>intro y Q h hq; simp only[den]at h; split at h <;> first | exact⟨by assumption,ih h hq⟩ | cases h
 | ndb=>intro y Q h; cases h
 | dc j as h B ih=>intro y Q hd hq; obtain⟨r,h1,h2⟩:=bnd hd; exact⟨r,h1,ih r h2 hq⟩
 | dch j as h ch B ih=>intro y Q hd hq; obtain⟨r,h1,h2⟩:=bnd hd; exact⟨r,h1,ih r h2 hq⟩
 | dl n c t e iht ihe=>intro y Q h hq; simp only[den,wpT]at h ⊢; split <;> simp_all <;> first | exact iht h hq | exact ihe h hq
 | dg n p t ih=>intro y Q h hq; simp only[den]at h; split at h <;> first | exact⟨by assumption,ih h hq⟩ | cases h
 | dr n e ol ts t ih=>exact fun h hq=>ih h hq
 | mk n enc t ih=>exact fun h hq=>ih h hq
 | mlen n enc v t ih=>exact fun h hq=>ih h hq
 | lkr n e s nn ff d v k t ih=>exact fun h hq=>ih h hq
 | lkd n zv eD v k t0 t1 ih0 ih1=>intro y Q h hq; simp only[den,wpT]at h ⊢; split <;> simp_all <;> first | exact ih0 h hq | exact ih1 _ h hq
 | lkt n e s nn ff v k t ih=>intro y Q h hq; simp only[den,wpT]at h ⊢; rcases hm:cC v k with _ | _ | c <;> simp only[hm]at h ⊢ <;> first | cases h; done | exact ih _ h hq
 | foc n o q i j c xs t ih=>intro y Q h hq; simp only[den]at h; split at h <;> first | exact⟨by assumption,ih h hq⟩ | cases h
 | dcn j d as h B ih=>intro y Q hd hq; obtain⟨r,h1,h2⟩:=bnd hd; exact⟨r,h1,ih r h2 hq⟩
 | dcm j d as h B ih=>intro y Q hd hq; obtain⟨r,h1,h2⟩:=bnd hd; exact⟨r,h1,ih r h2 hq⟩
 | dap j h0 t ih=>exact fun h hq=>ih h hq
 | dlk j ty ob v k t1 ih=>intro y Q hd hq; obtain⟨c,h1,h2⟩:=bnd hd; exact⟨c,h1,ih c h2 hq⟩
 | upd n enc v k t ih=>exact fun h hq=>ih h hq
 | dlt n enc v k hp t ih=>exact fun h hq=>ih h hq
 | rng n enc v t ih=>exact fun h hq=>ih h hq
 | nxd=>intro y Q h; cases h
theorem LoopT.and{b:S->(S⊕R->Prop)->Prop}(hb:∀ s {Q Q':S⊕R->Prop},(∀ z,Q z->Q' z)->b s Q->b s Q')(ha:∀ s (Q Q':S⊕R->Prop),b s Q->b s Q'->b s (fun z=>Q z/\Q' z))
  {Q Q':R->Prop}{s:S}(h:LoopT b Q s)(h':LoopT b Q' s):LoopT b (fun z=>Q z/\Q' z) s:=by
 refine h (fun s=>LoopT b Q' s->LoopT b (fun z=>Q z/\Q' z) s) (fun s hs hs'=>?_) h';rw[LoopT.unfold hb]at hs' ⊢;refine hb s (fun z hz=>?_) (ha s _ _ hs hs');cases z with
 | inl s'=>exact hz.1 hz.2
 | inr r=>exact hz
theorem LoopT.ex{b:S->(S⊕R->Prop)->Prop}(he:∀ s (Q:S⊕R->Prop),b s Q->∃ z,Q z){Q:R->Prop}{s:S}(h:LoopT b Q s):∃ r,Q r:=by
 refine h (fun _=>∃ r,Q r) fun s hs=>?_;obtain⟨z,hz⟩:=he s _ hs;cases z with
 | inl s'=>exact hz
 | inr r=>exact⟨r,hz⟩
theorem wpT_and(t:Tr P Y):∀ {Q Q':Y->Prop},t.wpT Q->t.wpT Q'->t.wpT (fun y=>Q y/\Q' y):=by
 induction t with
 | ret n y=>exact fun h h'=>⟨h,h'⟩
 | ite n c t e iht ihe=>intro Q Q' h h'; simp only[wpT]at h h' ⊢; split <;> simp_all
 | grd n p t ih=>exact fun h h'=>⟨h.1,ih h.2 h'.2⟩
 | gd n p h t ih=>exact fun h h'=>ih h h'
 | cv n l t ih=>exact fun h h'=>ih h h'
 | no=>exact fun h _=>h
 | ca n h B ih=>rintro Q Q' ⟨r,h1,h2⟩ ⟨r',h1',h2'⟩; rw[h1]at h1'; cases h1'; exact⟨r,h1,ih r h2 h2'⟩
 | cas n h m B ih=>rintro Q Q' ⟨r,h1,h2,h3⟩ ⟨r',h1',h2',h3'⟩; rw[h1]at h1'; cases h1'; exact⟨r,h1,h2,ih r h3 h3'⟩
 | ch n nw h B ih=>rintro Q Q' ⟨r,h1,h2⟩ ⟨r',h1',h2'⟩; rw[h1]at h1'; cases h1'; exact⟨r,h1,ih r h2 h2'⟩
 | jn n m tm A B ihA ihB=>exact fun h h'=>nN A (fun v hv=>ihB v hv.1 hv.2) (ihA h h')
 | pc n m tm A B ihA ihB=>exact fun h h'=>nN A (fun z hz=>by cases z with | inl v=>exact ihB v hz.1 hz.2 | inr y=>exact hz) (ihA h h')
 | lp n tm bt ex s0 L B ihL ihB=>
  intro Q Q' h h';simp only[wpT]at h h' ⊢;have h3:=LoopT.and (b:=fun s Z=>(L s).wpT Z) (fun s _ _ hz=>nN (L s) hz) (fun s _ _ h1 h2=>ihL s h1 h2) h h';refine LoopT.mono (b:=fun s Z=>(L s).wpT Z) (fun s _ _ hz=>nN (L s) hz) (fun z hz=>?_) h3;cases z with
  | inl v=>exact ihB v hz.1 hz.2
  | inr y=>exact hz
 | sp n t r m a e iha ihe=>intro Q Q' h h'; simp only[wpT]at h h' ⊢; split <;> simp_all
 | slc n t c xs lo hi k ih=>exact fun h h'=>⟨h.1,ih h.2 h'.2⟩
 | sto n o c xs l k ih=>exact fun h h'=>⟨h.1,ih h.2 h'.2⟩
 | cut n c xs hi k ih=>exact fun h h'=>⟨h.1,ih h.2 h'.2⟩
 | clr n c xs lo k ih=>exact fun h h'=>⟨h.1,ih h.2 h'.2⟩
 | apz n c byt m k ih=>exact fun h h'=>⟨h.1,ih h.2 h'.2⟩
 | mks n c byt l m k ih=>exact fun h h'=>⟨h.1,ih h.2 h'.2⟩
 | abl n e k ih=>exact fun h h'=>ih h h'
 | bs n own c xs t ih=>exact fun h h'=>ih h h'
 | cb n s k ih=>exact fun h h'=>ih h h'
 | dfr n h k ih=>exact fun h h'=>ih h h'
 | eqi n t x i k ih=>exact fun h h'=>⟨h.1,ih h.2 h'.2⟩
 | ndb n m a e iha ihe=>exact fun h h'=>⟨fun hm=>iha (h.1 hm) (h'.1 hm),ihe h.2 h'.2⟩
 | dc j as h B ih=>rintro Q Q' ⟨r,h1,h2⟩ ⟨r',h1',h2'⟩; rw[h1]at h1'; cases h1'; exact⟨r,h1,ih r h2 h2'⟩
 | dch j as h ch B ih=>rintro Q Q' ⟨r,h1,h2⟩ ⟨r',h1',h2'⟩; rw[h1]at h1'; cases h1'; exact⟨r,h1,ih r h2 h2'⟩
 | dl n c t e iht ihe=>intro Q Q' h h'; simp only[wpT]at h h' ⊢; split <;> simp_all
 | dg n p t ih=>exact fun h h'=>⟨h.1,ih h.2 h'.2⟩
 | dr n e ol ts t ih=>exact fun h h'=>ih h h'
 | mk n enc t ih=>exact fun h h'=>ih h h'
 | mlen n enc v t ih=>exact fun h h'=>ih h h'
 | lkr n e s nn ff d v k t ih=>exact fun h h'=>ih h h'
 | lkd n zv eD v k t0 t1 ih0 ih1=>intro Q Q' h h'; simp only[wpT]at h h' ⊢; split <;> simp_all
 | lkt n e s nn ff v k t ih=>intro Q Q' h h'; simp only[wpT]at h h' ⊢; rcases hm:cC v k with _ | _ | c <;> simp only[hm]at h h' ⊢ <;> first | exact h.elim | exact ih _ h h'
 | foc n o q i j c xs t ih=>exact fun h h'=>⟨h.1,ih h.2 h'.2⟩
 | dcn j d as h B ih=>rintro Q Q' ⟨r,h1,h2⟩ ⟨r',h1',h2'⟩; rw[h1]at h1'; cases h1'; exact⟨r,h1,ih r h2 h2'⟩
 | dcm j d as h B ih=>rintro Q Q' ⟨r,h1,h2⟩ ⟨r',h1',h2'⟩; rw[h1]at h1'; cases h1'; exact⟨r,h1,ih r h2 h2'⟩
 | dap j h0 t ih=>exact fun h h'=>ih h h'
 | dlk j ty ob v k t1 ih=>rintro Q Q' ⟨c,h1,h2⟩ ⟨c',h1',h2'⟩; rw[h1]at h1'; cases h1'; exact⟨c,h1,ih c h2 h2'⟩
 | upd n enc v k t ih=>exact fun h h'=>ih h h'
 | dlt n enc v k hp t ih=>exact fun h h'=>ih h h'
 | rng n enc v t ih=>exact fun h h'=>ih h h'
 | nxd n eD v rem t0 t1 ih0 ih1=>exact fun h h'=>⟨fun hr=>ih0 (h.1 hr) (h'.1 hr),fun k c hk hc=>ih1 k c (h.2.1 k c hk hc) (h'.2.1 k c hk hc),h.2.2⟩
theorem wpT_ex(t:Tr P Y):∀ {Q:Y->Prop},t.wpT Q->∃ y,Q y:=by
 induction t with
 | ret n y=>exact fun h=>⟨y,h⟩
 | ite n c t e iht ihe=>intro Q h; simp only[wpT]at h; split at h <;> first | exact iht h | exact ihe h
 | grd n p t ih=>exact fun h=>ih h.2
 | gd n p h t ih=>exact fun h=>ih h
 | cv n l t ih=>exact fun h=>ih h
 | no=>exact fun h=>h.elim
 | ca n h B ih=>rintro Q ⟨r,h1,h2⟩; exact ih r h2
 | cas n h m B ih=>rintro Q ⟨r,h1,h2,h3⟩; exact ih r h3
 | ch n nw h B ih=>rintro Q ⟨r,h1,h2⟩; exact ih r h2
 | jn n m tm A B ihA ihB=>intro Q h; obtain⟨v,hv⟩:=ihA h; exact ihB v hv
 | pc n m tm A B ihA ihB=>
  intro Q h;obtain⟨z,hz⟩:=ihA h;cases z with
  | inl v=>exact ihB v hz
  | inr y=>exact⟨y,hz⟩
 | lp n tm bt ex s0 L B ihL ihB=>
  intro Q h;obtain⟨z,hz⟩:=LoopT.ex (fun s _ hs=>ihL s hs) h;cases z with
  | inl v=>exact ihB v hz
  | inr y=>exact⟨y,hz⟩
 | sp n t r m a e iha ihe=>intro Q h; simp only[wpT]at h; split at h <;> first | exact iha h | exact ihe h
 | slc n t c xs lo hi k ih=>exact fun h=>ih h.2
 | sto n o c xs l k ih=>exact fun h=>ih h.2
 | cut n c xs hi k ih=>exact fun h=>ih h.2
 | clr n c xs lo k ih=>exact fun h=>ih h.2
 | apz n c byt m k ih=>exact fun h=>ih h.2
 | mks n c byt l m k ih=>exact fun h=>ih h.2
 | abl n e k ih=>exact fun h=>ih h
 | bs n own c xs t ih=>exact fun h=>ih h
 | cb n s k ih=>exact fun h=>ih h
 | dfr n h k ih=>exact fun h=>ih h
 | eqi n t x i k ih=>exact fun h=>ih h.2
 | ndb n m a e iha ihe=>exact fun h=>ihe h.2
 | dc j as h B ih=>rintro Q ⟨r,h1,h2⟩; exact ih r h2
 | dch j as h ch B ih=>rintro Q ⟨r,h1,h2⟩; exact ih r h2
 | dl n c t e iht ihe=>intro Q h; simp only[wpT]at h; split at h <;> first | exact iht h | exact ihe h
 | dg n p t ih=>exact fun h=>ih h.2
 | dr n e ol ts t ih=>exact fun h=>ih h
 | mk n enc t ih=>exact fun h=>ih h
 | mlen n enc v t ih=>exact fun h=>ih h
 | lkr n e s nn ff d v k t ih=>exact fun h=>ih h
 | lkd n zv eD v k t0 t1 ih0 ih1=>intro Q h; simp only[wpT]at h; split at h <;> first | exact ih0 h | exact ih1 _ h
 | lkt n e s nn ff v k t ih=>intro Q h; simp only[wpT]at h; rcases hm:cC v k with _ | _ | c <;> simp only[hm]at h <;> first | exact h.elim | exact ih _ h
 | foc n o q i j c xs t ih=>exact fun h=>ih h.2
 | dcn j d as h B ih=>rintro Q ⟨r,h1,h2⟩; exact ih r h2
 | dcm j d as h B ih=>rintro Q ⟨r,h1,h2⟩; exact ih r h2
 | dap j h0 t ih=>exact fun h=>ih h
 | dlk j ty ob v k t1 ih=>rintro Q ⟨c,h1,h2⟩; exact ih c h2
 | upd n enc v k t ih=>exact fun h=>ih h
 | dlt n enc v k hp t ih=>exact fun h=>ih h
 | rng n enc v t ih=>exact fun h=>ih h
 | nxd n eD v rem t0 t1 ih0 ih1=>
  intro Q h;by_cases hr:rem=[]
  ·exact ih0 (h.1 hr)
  ·obtain⟨k,c,hk,hc⟩:=h.2.2 hr; exact ih1 k c (h.2.1 k c hk hc)
end Tr
open Classical in
noncomputable def Det {P:Program}{Y:Type}(t:Tr P Y):Option Y:=if h:∃ y,t.wpT (·=y) then some h.choose else none
theorem Det.ok{P:Program}{Y:Type}{t:Tr P Y}{y:Y}(h:Det t=some y):t.wpT (·=y):=by
 unfold Det at h;split at h
 ·rename_i hh; cases h; exact hh.choose_spec
 ·cases h
theorem Det.eq{P:Program}{Y:Type}{t:Tr P Y}{y:Y}(h:t.wpT (·=y)):Det t=some y:=by have hh:∃ y,t.wpT (·=y):=⟨y,h⟩;unfold Det;rw[dif_pos hh];obtain⟨z,h1,h2⟩:=t.wpT_ex (t.wpT_and h hh.choose_spec);rw[<-h1,h2]
structure Acc where
 calls:List (Nat×(Nat×List PV×PV×Hp×Option (Nat×aN)))
 lits:List (Nat×(Bool×Bool))
 conds:List (Nat×List Prop)
def nQ:Acc:=⟨[],[],[]⟩
structure Vk (P:Program)(a:Acc):Prop where
 c:xE P a.calls
 l:pC a.lits
 p:kU a.conds
def Ql(fs:List (Nat->Bool)):List (Nat->Bool):=fs.map fun _ _=>true
def asks(b:Bool)(C:List Prop)(fs:List (Nat->Bool))(p:Prop):VT:=.and (vt b (All C) p) (vt b fs (Ql fs))
def sX{S:Type}(b:Bool)(tm:S->St)(v:S)(e:Exit)(s:St):VT:=
 match e with | .normal=>vt b (s.keep (bU (tm v).fr) (bU (tm v).hp)) (some (tm v)) | _=>bad b
def mR{Y:Type}(b:Bool)(lf:Y->Exit->St->VT)(ks:List Kf)(y:Y)(e:Exit)(s:St):VT:=
 match e with
 | .normal=>bad b
 | e=>match nrm 300 (.x e ks) with | .x e' []=>lf y e' s | _=>bad b
def Ra{S Y:Type}(b:Bool)(tm:S->St)(lf:Y->Exit->St->VT)(ks:List Kf):S⊕Y->Exit->St->VT
 | .inl v=>sX b tm v
 | .inr y=>mR b lf ks y
def Om{R:Type}(b:Bool)(bt:R->St)(ex:Nat)(r:R)(e:Exit)(s:St):VT:=
 match e with
 | .exit i=>match Nat.beq i ex with | true=>vt b (s.keep (bU (bt r).fr) (bU (bt r).hp)) (some (bt r)) | false=>bad b
 | _=>bad b
def Ve{S R Y:Type}(b:Bool)(tm:S->St)(bt:R->St)(ex:Nat)(lf:Y->Exit->St->VT)(ks:List Kf):S⊕(R⊕Y)->Exit->St->VT
 | .inl v=>sX b tm v
 | .inr (.inl r)=>Om b bt ex r
 | .inr (.inr y)=>mR b lf ks y
def Ha(m:Nat):Cfg->Cfg
 | .c x ks=>.c x (ks.take m)
 | .o all l ks=>.o all l (ks.take m)
 | .x e ks=>.x e (ks.take m)
def xA(m:Nat):Cfg->List Kf
 | .c _ ks=>ks.drop m
 | .o _ _ ks=>ks.drop m
 | .x _ ks=>ks.drop m
def oM(I:Inf)(all:List Oper)(op:Oper)(st:St):Option (Nat×Nat×List PV):=
 match op.op,op.dst,aU all op st with
 | .call c,some d,some true=>match c.callee,Nat.blt d I.nt with
  | .value f,true=>match ev st f,eP st c.args.toList with
   | some (.fn (.func k) nf caps),some aps=>some (d,k,caps.take nf++aps++caps.drop nf)
   | _,_=>none
  | _,_=>none
 | _,_,_=>none
def Hy:Op->Option (TypeId×Operand×Operand×Operand)
 | .mapUpdate t m k x=>some (t,m,k,x)
 | .insert t m k x=>some (t,m,k,x)
 | _=>none
theorem Ex{o:Op}{t:TypeId}{m k x:Operand}(h:Hy o=some (t,m,k,x)):o = .mapUpdate t m k x\/o = .insert t m k x:=by unfold Hy at h;split at h <;> first | (cases h; exact .inl rfl) | (cases h; exact .inr rfl) | cases h
def Ru(b:Bool)(st:St)(p q:PV):VT:=
 match p,q with
 | .nil,.t x=>vt b (uI x) (some 0)
 | .own o,.t x=>match look st.hp o with | some (.arr _ _ n f)=>vt b (some (n,f)) x.view | some (.arm _ _ n f none)=>(match x.view with | some (m,gf)=>.and (vt b n m) (vt b (fun i=>(f i).map yW) (fun i=>(gf i).map some)) | none=>bad b) | _=>bad b
 | .t (.sl n f),.t (.sl m g)=>.and (vt b n m) (vt b ((List.range n).map f) ((List.range m).map g))
 | .agg l,.t (.agg r)=>dD b l r
 | p,q=>vt b p q
def iE(b:Bool)(st:St):List PV->List PV->VT
 | [],[]=>.ok
 | p::l,q::r=>.and (Ru b st p q) (iE b st l r)
 | _,_=>bad b
def fB:List PV->List PV->List Nat
 | .own o::l,.t _::r=>o::fB l r
 | _::l,_::r=>fB l r
 | _,_=>[]
def ch1:Option (Nat×aN)->Hp->Bool
 | none,_=>true
 | some (o,_),Hs=>inN o (bU Hs)
def bsI(I:Inf)(all:List Oper)(op:Oper)(st:St):Option (Nat×Nat×bV×Nat×List PV):=
 match op.op,op.dst,aU all op st with
 | .buildSlice t len parts,some d,some true=>match I.ti t,dR st parts.toList,Nat.blt d I.nt with
  | some i,some ps,true=>match i.und with
   | .sl e=>match I.ti e with
    | some j=>match Nat.ble (len*j.size) 16777216,Nat.ble 1 j.size,Nat.beq j.zero.length j.size,iL (fun i=>some (i*j.size,j.size)) (cQ j (len*j.size)) ps with
     | true,true,true,some c=>match Nat.beq c.length (len*j.size) with | true=>some (d,e,j,len,c) | false=>none
     | _,_,_,_=>none
    | none=>none
   | _=>none
  | _,_,_=>none
 | _,_,_=>none
def dfI(all:List Oper)(op:Oper)(st:St):Option Nat:=
 match op.op,op.dst,aU all op st with
 | .defer c,none,some true=>match c.callee,c.args.toList with
  | .value x,[]=>match ev st x with
   | some (.fn (.func f) 0 _)=>some f
   | _=>none
  | _,_=>none
 | _,_,_=>none
def cbI(I:Inf)(all:List Oper)(op:Oper)(st:St):Option (Nat×ByteArray):=
 match op.op,op.dst,aU all op st with
 | .convert s t x,some d,some true=>match I.ti s,I.ti t,ev st x,Nat.blt d I.nt with
  | some i,some j,some (.t (.str y)),true=>match i.und,j.und with
   | .str,.sl e=>match I.ti e with
    | some k=>match k.und with
     | .int .u8=>some (d,y)
     | _=>none
    | none=>none
   | _,_=>none
  | _,_,_,_=>none
 | _,_,_=>none
def Im(I:Inf)(all:List Oper)(op:Oper)(st:St):Option (Nat×Bool×Nat):=
 match op.op,op.dst,aU all op st with
 | .binOp o t x y _,some d,some true=>match o,I.ti t,ev st x,ev st y,Nat.blt d I.nt with
  | .eql,some i,some (.t (.sl m _)),some .nil,true=>match i.und with | .sl _=>some (d,true,m) | _=>none
  | .neq,some i,some (.t (.sl m _)),some .nil,true=>match i.und with | .sl _=>some (d,false,m) | _=>none
  | .eql,some i,some (.own _),some .nil,true=>match i.und with | .sl _=>some (d,true,0) | _=>none
  | .neq,some i,some (.own _),some .nil,true=>match i.und with | .sl _=>some (d,false,0) | _=>none
  | _,_,_,_,_=>none
 | _,_,_=>none
def vL(I:Inf)(t:Nat):Option bV:=match I.ti t with | some i=>(match i.und with | .sl e=>I.ti e | _=>none) | none=>none
def Kw(I:Inf)(all:List Oper)(op:Oper)(st:St):Option (Nat×Nat×bV×Int):=
 match op.op,op.dst,aU all op st with
 | .call c,some d,some true=>match c.callee,c.args.toList,c.argTypes.toList with
  | .builtin .append,[s,x],[t,t']=>match I.ti t,I.ti t',ev st s,ev st x with
   | some i,some i',some .nil,some (.t (.int .i64 k))=>match i.und,i'.und with
    | .sl e,.int _=>match I.ti e with
     | some j=>match Nat.ble 1 j.size&&(Nat.ble 1 j.bytes&&Nat.beq j.zero.length j.size) with
      | true=>some (d,e,j,k)
      | false=>none
     | none=>none
    | _,_=>none
   | _,_,_,_=>none
  | _,_,_=>none
 | _,_,_=>none
def Lj(I:Inf)(all:List Oper)(op:Oper)(st:St):Option (Nat×Nat×bV×Int×Int):=
 match op.op,op.dst,aU all op st with
 | .makeSlice t l c,some d,some true=>match I.ti t,ev st l,ev st c with
  | some i,some (.t (.int .i64 lv)),some (.t (.int .i64 cv))=>match i.und with
   | .sl e=>match I.ti e with
    | some j=>match Nat.ble 1 j.size&&(Nat.ble 1 j.bytes&&Nat.beq j.zero.length j.size) with
     | true=>some (d,e,j,lv,cv)
     | false=>none
    | none=>none
   | _=>none
  | _,_,_=>none
 | _,_,_=>none
def Fc(all:List Oper)(op:Oper):Option Nat:=
 match op.guard with
 | some (j,_)=>match all[j]? with | some oj=>oj.dst | none=>none
 | none=>none
def Pi(st:St)(d:Nat)(v:Bool):St:={ st with fr:=(d,.t (.bool v))::del d st.fr }
def drS(I:Inf)(L l:List Oper)(acc:Acc)(st:St)(ts:List Nat)(ol:OL):St:=
 stP st (eB st.fr ts) L (yT I L l acc.calls acc.lits st ts ol) ol (fun j=>Nat.blt j l.length)
def drV(P:Program)(I:Inf)(b:Bool)(L l tl:List Oper)(acc:Acc)(st:St)(ts:List Nat)(ol:OL):VT:=
 let lo:=yT I L l acc.calls acc.lits st ts ol
 .and (vt b (wfL L l tl (vV (yZ l) []) st ts (eB st.fr ts) lo ol&&Je acc.lits lo) true) (.and (vt b (P.follows .mixedOrders) true)
  (vt b (Dz I L acc.calls st (eB st.fr ts) lo ol (vV (yZ l) []) 0 l) (Cu L acc.calls acc.lits acc.conds st (eB st.fr ts) lo ol (vV (yZ l) []) 0 l)))
def oS(I:Inf)(all:List Oper)(op:Oper)(st:St):Option (Nat×Nat×Nat×PV):=
 match op.op,op.dst,aU all op st with
 | .lookup t x kx false,some d,some true=>match Nat.blt d I.nt,ev st x,ev st kx with
  | true,some (.map ob),some kp=>some (d,t,ob,kp)
  | _,_,_=>none
 | _,_,_=>none
def zI(I:Inf)(all:List Oper)(op:Oper)(st:St):Option (Nat×Nat):=
 match op.op,op.dst,aU all op st with
 | .next x false,some d,some true=>match Nat.blt d I.nt,ev st x with
  | true,some (.ptr di 0)=>some (d,di)
  | _,_=>none
 | _,_,_=>none
def yY(di:Nat):Hp->Option Nat
 | []=>none
 | (o,.mp (some i) _ _)::l=>match Nat.beq i.o di with | true=>some o | false=>yY di l
 | _::l=>yY di l
def Lc{K:Type}:List (K×Nat)->(Nat->VT)->VT
 | [],_=>.ok
 | p::l,f=>.and (f p.2) (Lc l f)
theorem zS{K:Type}{f g:Nat->VT}:∀ {l:List (K×Nat)},Lc l f=Lc l g->∀ p,p∈l->f p.2=g p.2
 | [],_,_,hp=>by cases hp
 | q::l,h,p,hp=>by
  obtain⟨h1,h2⟩:=aB h;rcases aL.1 hp with rfl | hp
  ·exact h1
  ·exact zS h2 p hp
theorem Fy{K V:Type}[MKey K]{v:List (K×V)}{k:K}{c:V}(h:cC v k=some c):∃ k',(k',c)∈v:=by
 induction v with
 | nil=>cases h
 | cons p v ih=>
  simp only[cC]at h;split at h
  ·cases h; exact⟨p.1,bT⟩
  ·obtain⟨k',hk⟩:=ih h; exact⟨k',bI _ hk⟩
def Uq(r:PV)(H:Hp):Option (Nat×List (T×Mem)):=match r with
 | .map o=>match look H o with | some (.mp none m none)=>some (o,m) | _=>none
 | _=>none
def Vo(d o:Nat)(Hs:Hp)(N:List Nat):Bool:=!(inN d (bU Hs)) && !(inN o (bU Hs))&&(Hs.all fun e=>kO e.2.names [d]) && !(inN d N)&&jX (.map d) ((d,.mp none [] none)::Hs) (N++[d])
def chk(P:Program)(I:Inf)(b:Bool):{Y:Type}->Tr P Y->(Y->Exit->St->VT)->Acc->Cfg->St->VT
 | _,.ret n y,lf,_,g,st=>match run I n g st with
  | some (.x e [],st',C,fs)=>.and (asks b C fs True) (lf y e st')
  | _=>bad b
 | _,.ite n c t e,lf,acc,g,st=>match run I n g st with
  | some (.c (.cond x u v) ks,st',C,fs)=>.and (asks b C fs True) (.and (vt b (ev st' x) (some (.t (.bool c)))) (.and (chk P I b t lf acc (.c u ks) st') (chk P I b e lf acc (.c v ks) st')))
  | some (.o all (op::l) ks,st',C,fs)=>match Fc all op with
   | some d=>.and (asks b C fs True) (.and (vt b (look st'.fr d) (some (.t (.bool c)))) (.and (chk P I b t lf acc (.o all (op::l) ks) (Pi st' d true)) (chk P I b e lf acc (.o all (op::l) ks) (Pi st' d false))))
   | none=>bad b
  | _=>bad b
 | _,@Tr.grd _ _ n p _ t,lf,acc,g,st=>match run I n g st with
  | some (g',st',C,fs)=>.and (asks b C fs p) (chk P I b t lf acc g' st')
  | none=>bad b
 | _,.gd n p _ t,lf,acc,g,st=>match run I n g st with
  | some (g',st',C,fs)=>.and (asks b C fs p) (chk P I b t lf acc g' st')
  | none=>bad b
 | _,.cv n l t,lf,acc,g,st=>match run I n g st with
  | some (g',st',C,fs)=>.and (asks b C fs True) (.and (Fa I b l st') (match cvL I l st' with | some st''=>chk P I b t lf acc g' st'' | none=>bad b))
  | none=>bad b
 | _,@Tr.foc _ _ _ inh n o q i j c xs t,lf,acc,g,st=>match run I n g st with
  | some (g',st',C,fs)=>.and (asks b C fs True) (match look st'.hp o with
   | some (.arm e s n' f none)=>.and (vt b (n',f) (xs.length,@mA _ inh c xs)) (match (c (xs.getD i default))[j]? with
    | some (.row e' s' m f')=>match gU I.N o q (.arm e s xs.length (kJ (@mA _ inh c xs) i j .any) (some (i,j,.own q))) (.arr e' s' m f') st' with
     | some s2=>chk P I b t lf acc g' s2
     | none=>bad b
    | _=>bad b)
   | _=>bad b)
  | none=>bad b
 | _,.no,_,_,_,_=>.ok
 | _,@Tr.ca _ _ _ n k bps _ ret _ B,lf,acc,g,st=>match run I n g st with
  | some (.o all (op::l) ks,st',C,fs)=>match oM I all op st' with
   | some (d,k',as)=>.and (asks b C fs True) (.and (vt b k' k) (.and (iE b st' as bps) (.all fun r=>.and (vt b (rQ (fB as bps) (ret r)) true) (chk P I b (B r) lf acc (.o all l ks) (st'.put d (ret r))))))
   | none=>bad b
  | _=>bad b
 | _,@Tr.cas _ _ n k bps _ ret _ m B,lf,acc,g,st=>match run I n g st with
  | some (.o all (op::l) ks,st',C,fs)=>match oM I all op st' with
   | some (d,k',as)=>.and (asks b C fs True) (.and (vt b k' k) (.and (iE b st' as bps)
     (Nat.rec (motive:=fun _=>VT) .ok (fun r acc'=>.and (.and (vt b (rQ (fB as bps) (ret r)) true) (chk P I b (B r) lf acc (.o all l ks) (st'.put d (ret r)))) acc') m)))
   | none=>bad b
  | _=>bad b
 | _,@Tr.ch _ _ _ cur n k bps Hs N _ ret Ht nw _ B,lf,acc,g,st=>match run I n g st with
  | some (.o all (op::l) ks,st',C,fs)=>match oM I all op st' with
   | some (d,k',as)=>.and (asks b C fs True) (.and (vt b k' k) (.and (iE b ⟨st'.fr,[]⟩ as bps) (.and (vt b (gM st'.hp (bU Hs)) (some Hs)) (.and (vt b (jU st' (bU Hs) I.N nw) true)
     (cur.all fun r=>.and (vt b (jX (ret r) (Ht r) (N++nw)) true) (chk P I b (B r) lf acc (.o all l ks) (({ fr:=st'.fr,hp:=Ht r++kD st'.hp (bU Hs) }:St).put d (ret r))))))))
   | none=>bad b
  | _=>bad b
 | _,@Tr.jn _ _ _ cur n m tm A B,lf,acc,g,st=>match run I n g st with
  | some (g',st',C,fs)=>.and (asks b C fs True) (.and (chk P I b A (sX b tm) nQ (Ha m g') st') (cur.all fun v=>chk P I b (B v) lf acc (.x .normal (xA m g')) (tm v)))
  | none=>bad b
 | _,@Tr.pc _ _ _ cur n m tm A B,lf,acc,g,st=>match run I n g st with
  | some (g',st',C,fs)=>.and (asks b C fs True) (.and (chk P I b A (Ra b tm lf (xA m g')) nQ (Ha m g') st') (cur.all fun v=>chk P I b (B v) lf acc (.x .normal (xA m g')) (tm v)))
  | none=>bad b
 | _,@Tr.lp _ _ _ _ curS curR n tm bt ex s0 L B,lf,acc,g,st=>match run I n g st with
  | some (.c (.loop c) ks,st',C,fs)=>.and (asks b C fs True) (.and (vt b (st'.keep (bU (tm s0).fr) (bU (tm s0).hp)) (some (tm s0)))
    (.and (curS.all fun s=>chk P I b (L s) (Ve b tm bt ex lf ks) nQ (.c c []) (tm s)) (curR.all fun r=>chk P I b (B r) lf acc (.x (.exit ex) ks) (bt r))))
  | _=>bad b
 | _,.sp n t r m a e,lf,acc,g,st=>match run I n g st with
  | some (g',st',C,fs)=>.and (asks b C fs True) (.and (vt b (look st'.fr t) (some (.t (.int .i64 r)))) (.and (chk P I b a lf acc g' { st' with fr:=(t,.t (.int .i64 m))::del t st'.fr }) (chk P I b e lf acc g' st')))
  | none=>bad b
 | _,@Tr.slc _ _ _ i n t c xs lo hi k,lf,acc,g,st=>match run I n g st with
  | some (g',st',C,fs)=>.and (match n with | 0=>asks b C fs True | _=>asks b C fs (0<=lo/\lo<=hi/\hi<=(xs.length:Int))) (.and (vt b (look st'.fr t) (some (.t (.sl (hi-lo).toNat (fun j=>@eF _ i c xs (lo.toNat+j))))))
    (chk P I b k lf acc g' { st' with fr:=(t,.t (@eL _ i c ((xs.drop lo.toNat).take (hi-lo).toNat)))::del t st'.fr }))
  | none=>bad b
 | _,@Tr.sto _ _ _ i n o c xs l k,lf,acc,g,st=>match run I n g st with
  | some (g',st',C,fs)=>match look st'.hp o with
   | some (.arr e s n' f)=>.and (asks b C fs True) (.and (vt b (n',f) (xs.length,l.foldl (fun f p=>kI f p.1 (c p.2)) (@eF _ i c xs)))
    (chk P I b k lf acc g' { st' with hp:=(o,.arr e s (l.foldl (fun xs p=>xs.set p.1 p.2) xs).length (@eF _ i c (l.foldl (fun xs p=>xs.set p.1 p.2) xs)))::del o st'.hp }))
   | _=>bad b
  | none=>bad b
 | _,@Tr.cut _ _ _ i n c xs hi k,lf,acc,g,st=>match run I n g st with
  | some (.o all (op::l) ks,st',C,fs)=>match op.op,op.dst,aU all op st' with
   | .slice t x lo hx none,some d,some true=>match ev st' x with
    | some (.own q)=>match look st'.hp q,st'.erase q,vL I t with
     | some (.arr e s n' f),some st1,some _=>match cX I st1 d (.arr e s hi.toNat f) (.own d) with
      | some s2=>.and (asks b C fs True) (.and (vt b (n',f) (xs.length,@eF _ i c xs)) (.and (vt b (cS st' 0 lo) (some 0)) (.and (vt b (cS st' n' hx) (some hi))
        (chk P I b k lf acc (.o all l ks) { s2 with hp:=(d,.arr e s (xs.take hi.toNat).length (@eF _ i c (xs.take hi.toNat)))::del d s2.hp }))))
      | none=>bad b
     | _,_,_=>bad b
    | _=>bad b
   | _,_,_=>bad b
  | _=>bad b
 | _,@Tr.clr _ _ _ i n c xs lo k,lf,acc,g,st=>match run I n g st with
  | some (.o all (o1::o2::l) ks,st',C,fs)=>match o1.op,o1.dst,aU all o1 st',o2.op,o2.guard,o2.dst with
   | .slice t x lx none none,some d,some true,.call cl,none,none=>match cl.callee,cl.args.toList,cl.argTypes[0]? with
    | .builtin .clear,[.tmp d'],some t2=>match ev st' x,vL I t,Nat.blt d I.nt with
     | some (.own q),some j,true=>match look st'.hp q with
      | some (.arr e s n' f)=>.and (asks b C fs True) (.and (vt b (n',f) (xs.length,@eF _ i c xs)) (.and (vt b (cS st' 0 lx) (some lo)) (.and (vt b (d',t2) (d,t)) (.and (vt b (j.size,Nat.ble 1 s,Nat.beq j.zero.length j.size,j.zero.all PV.one) (s,true,true,true)) (.and (dD b j.zero (c i.default))
        (chk P I b k lf acc (.o all l ks) (({ st' with hp:=(q,.arr e s (xs.take lo.toNat++List.replicate (xs.length-lo.toNat) i.default).length (@eF _ i c (xs.take lo.toNat++List.replicate (xs.length-lo.toNat) i.default)))::del q st'.hp }:St).put d .any)))))))
      | _=>bad b
     | _,_,_=>bad b
    | _,_,_=>bad b
   | _,_,_,_,_,_=>bad b
  | _=>bad b
 | _,@Tr.apz _ _ _ i n c byt m k,lf,acc,g,st=>match run I n g st with
  | some (.o all (op::l) ks,st',C,fs)=>match Kw I all op st' with
   | some (d,e,j,k')=>match cX I st' d (.arr e j.size m.toNat (fun _=>c i.default)) (.own d) with
    | some s2=>.and (asks b C fs True) (.and (vt b (k',j.bytes) (m,byt)) (.and (dD b j.zero (c i.default))
      (chk P I b k lf acc (.o all l ks) { s2 with hp:=(d,.arr e j.size (List.replicate m.toNat i.default).length (@eF _ i c (List.replicate m.toNat i.default)))::del d s2.hp })))
    | none=>bad b
   | none=>bad b
  | _=>bad b
 | _,@Tr.mks _ _ _ i n c byt lv cv k,lf,acc,g,st=>match run I n g st with
  | some (.o all (op::l) ks,st',C,fs)=>match Lj I all op st' with
   | some (d,e,j,lv',cv')=>match cX I st' d (.arr e j.size lv.toNat (fun _=>c i.default)) (.own d) with
    | some s2=>.and (asks b C fs True) (.and (vt b (lv',cv',j.bytes) (lv,cv,byt)) (.and (dD b j.zero (c i.default))
      (chk P I b k lf acc (.o all l ks) { s2 with hp:=(d,.arr e j.size (List.replicate lv.toNat i.default).length (@eF _ i c (List.replicate lv.toNat i.default)))::del d s2.hp })))
    | none=>bad b
   | none=>bad b
  | _=>bad b
 | _,.abl n e k,lf,acc,g,st=>match run I n g st with
  | some (.o all (op::l) ks,st',C,fs)=>match op.op,op.dst,aU all op st' with
   | .alloc t,some d,some true=>match Nat.blt d I.nt,jN d I.N,st'.erase d,I.ti t with
    | true,true,some st1,some i=>.and (asks b C fs True) (.and (vt b i.zero [.np,.nil]) (chk P I b k lf acc (.o all l ks) (({ st1 with hp:=(d,.bld t e ⟨#[]⟩)::st1.hp }:St).put d (.ptr d 0))))
    | _,_,_,_=>bad b
   | _,_,_=>bad b
  | _=>bad b
 | _,@Tr.bs _ _ _ i n own c xs t,lf,acc,g,st=>match run I n g st with
  | some (.o all (op::l) ks,st',C,fs)=>match bsI I all op st' with
   | some (d,e,j,len,cs)=>.and (asks b C fs True) (.and (dD b cs (xs.flatMap c)) (.and (vt b len xs.length) (.and (vt b ((List.range len).map (eT (xs.flatMap c) j.size)) ((List.range len).map (@eF _ i c xs)))
     (match own with
      | false=>chk P I b t lf acc (.o all l ks) (st'.put d (.t (@eL _ i c xs)))
      | true=>match cX I st' d (.arr e j.size len (eT (xs.flatMap c) j.size)) (.own d) with
       | some s2=>chk P I b t lf acc (.o all l ks) { s2 with hp:=(d,.arr e j.size xs.length (@eF _ i c xs))::del d s2.hp }
       | none=>bad b))))
   | none=>bad b
  | _=>bad b
 | _,@Tr.dfr _ _ n f _h t,lf,acc,g,st=>match run I n g st with
  | some (.o all (op::l) ks,st',C,fs)=>match dfI all op st' with
   | some f'=>.and (asks b C fs True) (.and (vt b f' f) (chk P I b t lf acc (.o all l ks) st'))
   | none=>bad b
  | _=>bad b
 | _,.eqi n s x i t,lf,acc,g,st=>match run I n g st with
  | some (g',st',C,fs)=>match look st'.fr s with
   | some (.t (.int k y))=>.and (asks b C fs True) (.and (vt b y x) (chk P I b t lf acc g' (st'.put s (.t (.int k i)))))
   | _=>bad b
  | none=>bad b
 | _,.cb n s t,lf,acc,g,st=>match run I n g st with
  | some (.o all (op::l) ks,st',C,fs)=>match cbI I all op st' with
   | some (d,y)=>.and (asks b C fs True) (.and (vt b y s) (chk P I b t lf acc (.o all l ks) (st'.put d (.t (eL cU8 (cK s))))))
   | none=>bad b
  | _=>bad b
 | _,.ndb n m a e,lf,acc,g,st=>match run I n g st with
  | some (.o all (op::l) ks,st',C,fs)=>match Im I all op st' with
   | some (d,o,m')=>.and (asks b C fs True) (.and (vt b m' m) (.and (chk P I b a lf acc (.o all l ks) (st'.put d (.t (.bool o)))) (chk P I b e lf acc (.o all l ks) (st'.put d (.t (.bool (!o)))))))
   | none=>bad b
  | _=>bad b
 | _,@Tr.dc _ _ _ j as k bps _ ret _ B,lf,acc,g,st=>.and (iE b ⟨[],[]⟩ as bps) (.and (vt b (Nat.blt k cN) true) (.all fun r=>.and (vt b (ret r).pure true) (chk P I b (B r) lf { acc with calls:=(j,k,as,ret r,[],none)::acc.calls } g st)))
 | _,@Tr.dch _ _ _ j as k bps Hs N _ ret Ht _ ch B,lf,acc,g,st=>.and (iE b ⟨[],[]⟩ as bps) (.and (vt b (Nat.blt k cN) true) (.all fun r=>.and (vt b (ret r).pure true) (.and (vt b (Ht r) (Nc Hs (ch r))) (.and (vt b (jX (ret r) (Nc Hs (ch r)) N) true)
   (.and (vt b (ch1 (ch r) Hs) true) (chk P I b (B r) lf { acc with calls:=(j,k,as,ret r,Hs,ch r)::acc.calls } g st))))))
 | _,@Tr.dcn _ _ _ j d as k bps Hs N _ ret Ht _ B,lf,acc,g,st=>.and (iE b ⟨[],[]⟩ as bps) (.and (vt b (Nat.blt k cN) true) (.and (vt b Hs []) (.and (vt b N []) (.all fun r=>match Ht r,ret r with
   | [(o,.arr e s n f)],.own o'=>.and (vt b o o') (chk P I b (B r) lf { acc with calls:=(j,k,as,.own d,[],some (d,.arr e s n f))::acc.calls } g st)
   | _,_=>bad b))))
 | _,@Tr.dcm _ _ _ j d as k bps Hs N _ ret Ht _ B,lf,acc,g,st=>.and (iE b ⟨[],[]⟩ as bps) (.and (vt b (Nat.blt k cN) true) (.all fun r=>match Uq (ret r) (Ht r) with
   | some (o,m)=>.and (vt b (Ht r) (Hs++[(o,.mp none m none)])) (.and (vt b (ret r) (.map o)) (.and (vt b (Vo d o Hs N) true) (chk P I b (B r) lf { acc with calls:=(j,k,as,.map d,Hs,some (d,.mp none m none))::acc.calls } g st)))
   | none=>bad b))
 | _,@Tr.dap _ _ j n f x _ t,lf,acc,g,st=>chk P I b t lf { acc with calls:=(j,fzN,[.t (.sl n f)],.t x,[],none)::acc.calls } g st
 | _,@Tr.dlk _ _ K mk j ty ob v k t1,lf,acc,g,st=>.and (vt b (((gZ I.ti ty (MKey.kT k)).bind P.info?).bind (·.zero)) (some .nilFunc))
   (Lc v fun c=>chk P I b (t1 c) lf { acc with calls:=(j,lkN+ty,[.map ob,.t (MKey.kT k)],.fn (.func c) 0 [],[(ob,.mp none (@eM K Nat mk (fun c=>.d (.fv c)) v) none)],none)::acc.calls } g st)
 | _,.dl j c t e,lf,acc,g,st=>.and (chk P I b t lf { acc with lits:=(j,c,true)::acc.lits } g st) (chk P I b e lf { acc with lits:=(j,c,false)::acc.lits } g st)
 | _,@Tr.dg _ _ j p _ t,lf,acc,g,st=>chk P I b t lf { acc with conds:=(j,[p])::acc.conds } g st
 | _,.dr n e ol ts t,lf,acc,g,st=>match run I n g st with
  | some (.c (.region _ ops true) ks,st',C,fs)=>.and (asks b C fs True) (.and (drV P I b ops.toList (ops.toList.take (ops.toList.length-e)) (ops.toList.drop (ops.toList.length-e)) acc st' ts ol)
    (match (drS I ops.toList (ops.toList.take (ops.toList.length-e)) acc st' ts ol).keep (bU (drS I ops.toList (ops.toList.take (ops.toList.length-e)) acc st' ts ol).fr) (bU (drS I ops.toList (ops.toList.take (ops.toList.length-e)) acc st' ts ol).hp) with
     | some s=>chk P I b t lf nQ (.o ops.toList (ops.toList.drop (ops.toList.length-e)) ks) s
     | none=>bad b))
  | _=>bad b
 | _,@Tr.mk _ _ K V mk n enc t,lf,acc,g,st=>match run I n g st with
  | some (.o all (op::l) ks,st',C,fs)=>match op.op,op.dst,aU all op st' with
   | .makeMap _ none,some d,some true=>match Nat.blt d I.nt,jN d I.N,st'.erase d with
    | true,true,some st1=>.and (asks b C fs True) (chk P I b t lf acc (.o all l ks) (({ st1 with hp:=(d,.mp none (@eM K V mk enc []) none)::st1.hp }:St).put d (.map d)))
    | _,_,_=>bad b
   | _,_,_=>bad b
  | _=>bad b
 | _,@Tr.mlen _ _ K V mk n enc v t,lf,acc,g,st=>match run I n g st with
  | some (.o all (op::l) ks,st',C,fs)=>match op.op,op.dst,aU all op st' with
   | .call c,some d,some true=>match c.callee,c.args.toList,c.argTypes[0]?,Nat.blt d I.nt with
    | .builtin .len,[x],some ty,true=>match ev st' x with
     | some (.map ob)=>match look st'.hp ob with
      | some (.mp _ m ho)=>.and (asks b C fs True) (.and (vt b (sW I.ti ty) true) (.and (vt b (m,ho) (@eM K V mk enc v,none)) (chk P I b t lf acc (.o all l ks) (st'.put d (.t (.int .i64 (v.length:Int)))))))
      | _=>bad b
     | _=>bad b
    | _,_,_,_=>bad b
   | _,_,_=>bad b
  | _=>bad b
 | _,@Tr.lkr _ _ K V mk n e s nn ff dflt v k t,lf,acc,g,st=>match run I n g st with
  | some (.o all (op::l) ks,st',C,fs)=>match oS I all op st' with
   | some (d,ty,ob,kp)=>match look st'.hp ob,gZ I.ti ty (MKey.kT k) with
    | some (.mp it m ho),some et=>.and (asks b C fs True) (.and (vt b kp (.t (MKey.kT k))) (.and (vt b (m,ho) (@eM K V mk (fun c=>.row e s (nn c) (ff c)) v,none)) (.and (vt b ((P.info? et).bind (·.zero)) (some (.slice none 0 0))) (.and (vt b (yD d it) true)
      (.and (vt b (nn dflt) 0)
       (match gU I.N ob d (.mp it (@eM K V mk (fun c=>.row e s (nn c) (ff c)) (eZ v k)) (some (MKey.kT k,none))) (.arr e s (nn ((cC v k).getD dflt)) (ff ((cC v k).getD dflt))) st' with
        | some s2=>chk P I b t lf acc (.o all l ks) (s2.put d (.own d))
        | none=>bad b))))))
    | _,_=>bad b
   | none=>bad b
  | _=>bad b
 | _,@Tr.lkt _ _ B K mk n e s nn ff v k t,lf,acc,g,st=>match run I n g st with
  | some (.o all (op::l) ks,st',C,fs)=>match oS I all op st' with
   | some (d,ty,ob,kp)=>match look st'.hp ob,gZ I.ti ty (MKey.kT k) with
    | some (.mp it m ho),some et=>.and (asks b C fs True) (.and (vt b kp (.t (MKey.kT k))) (.and (vt b (m,ho) (@eM K (Option B) mk (Gd e s nn ff) v,none)) (.and (vt b ((P.info? et).bind (·.zero)) (some (.slice none 0 0))) (.and (vt b (yD d it) true)
      (.all fun c=>match gU I.N ob d (.mp it (@eM K (Option B) mk (Gd e s nn ff) (wO v k none)) none) (.arr e s (nn c) (ff c)) st' with
       | some s2=>chk P I b (t c) lf acc (.o all l ks) (s2.put d (.own d))
       | none=>bad b)))))
    | _,_=>bad b
   | none=>bad b
  | _=>bad b
 | _,@Tr.lkd _ _ K V mk n zv eD v k t0 t1,lf,acc,g,st=>match run I n g st with
  | some (.o all (op::l) ks,st',C,fs)=>match oS I all op st' with
   | some (d,ty,ob,kp)=>match look st'.hp ob,gZ I.ti ty (MKey.kT k),jW zv with
    | some (.mp _ m ho),some et,some zp=>.and (asks b C fs True) (.and (vt b kp (.t (MKey.kT k))) (.and (vt b (m,ho) (@eM K V mk (fun c=>.d (eD c)) v,none)) (.and (vt b ((P.info? et).bind (·.zero)) (some zv))
      (.and (chk P I b t0 lf acc (.o all l ks) (st'.put d zp)) (.all fun c=>chk P I b (t1 c) lf acc (.o all l ks) (st'.put d (.t (eD c))))))))
    | _,_,_=>bad b
   | none=>bad b
  | _=>bad b
 | _,@Tr.upd _ _ K V mk n enc v k t,lf,acc,g,st=>match run I n g st with
  | some (.o all (op::l) ks,st',C,fs)=>match Hy op.op,op.dst,aU all op st' with
   | some (ty,x,kx,vx),none,some true=>match ev st' x,ev st' kx,ev st' vx with
    | some (.map ob),some kp,some p=>match look st'.hp ob,gZ I.ti ty (MKey.kT k) with
     | some (.mp it m ho),some _=>.and (asks b C fs True) (.and (vt b kp (.t (MKey.kT k))) (.and (vt b (m,ho) (@eM K V mk enc v,some (MKey.kT k,none))) (.and (match it with | none=>.ok | some i=>vt b i.cur (some (MKey.kT k)))
       (chk P I b t lf acc (.o all l ks) { st' with hp:=(ob,.mp it (@eM K V mk enc v) (some (MKey.kT k,some p)))::del ob st'.hp }))))
     | _,_=>bad b
    | _,_,_=>bad b
   | _,_,_=>bad b
  | _=>bad b
 | _,@Tr.dlt _ _ K V mk n enc v k hp t,lf,acc,g,st=>match run I n g st with
  | some (.o all (op::l) ks,st',C,fs)=>match op.op,op.dst,aU all op st' with
   | .call c,none,some true=>match c.callee,c.args.toList,c.argTypes[0]? with
    | .builtin .delete,[x,kx],some ty=>match ev st' x,ev st' kx,gZ I.ti ty (MKey.kT k) with
     | some (.map ob),some kp,some _=>match look st'.hp ob with
      | some (.mp it m ho)=>.and (asks b C fs True) (.and (vt b kp (.t (MKey.kT k))) (.and (vt b (m,ho) (@eM K V mk enc v,some (MKey.kT k,hp))) (.and (match it with | none=>.ok | some i=>vt b i.cur (some (MKey.kT k)))
        (chk P I b t lf acc (.o all l ks) { st' with hp:=(ob,.mp (qF it) (@eM K V mk enc v) none)::del ob st'.hp }))))
      | _=>bad b
     | _,_,_=>bad b
    | _,_,_=>bad b
   | _,_,_=>bad b
  | _=>bad b
 | _,@Tr.rng _ _ K V mk n enc v t,lf,acc,g,st=>match run I n g st with
  | some (.o all (op::l) ks,st',C,fs)=>match op.op,op.dst,aU all op st' with
   | .range ty x,some d,some true=>match ev st' x,Nat.blt d I.nt with
    | some (.map ob),true=>match look st'.hp ob,yU I.N ob d (.mp (some ⟨d,kTs (fY v),none⟩) (@eM K V mk enc v) none) st' with
     | some (.mp none m ho),some s2=>.and (asks b C fs True) (.and (vt b (sW I.ti ty) true) (.and (vt b (m,ho) (@eM K V mk enc v,none)) (chk P I b t lf acc (.o all l ks) (s2.put d (.ptr d 0)))))
     | _,_=>bad b
    | _,_=>bad b
   | _,_,_=>bad b
  | _=>bad b
 | _,@Tr.nxd _ _ K V mk n eD v rem t0 t1,lf,acc,g,st=>match run I n g st with
  | some (.o all (op::l) ks,st',C,fs)=>match zI I all op st' with
   | some (d,di)=>match yY di st'.hp with
    | some ob=>match look st'.hp ob with
     | some (.mp (some it) m ho)=>.and (asks b C fs True) (.and (vt b (it.o,it.rem) (di,@kTs K mk rem)) (.and (vt b (m,ho) (@eM K V mk (fun c=>.d (eD c)) v,none))
       (.and (chk P I b t0 lf acc (.o all l ks) (st'.put d (.tup [.t (.bool false)])))
        (.all fun k=>.all fun c=>chk P I b (t1 k c) lf acc (.o all l ks) (({ st' with hp:=(ob,.mp (some ⟨di,kTs (rem.erase k),some (MKey.kT k)⟩) (@eM K V mk (fun c=>.d (eD c)) (eZ v k)) (some (MKey.kT k,some (.t (eD c)))))::del ob st'.hp }:St).put d (.tup [.t (.bool true),.t (MKey.kT k),.t (eD c)]))))))
     | _=>bad b
    | none=>bad b
   | none=>bad b
  | _=>bad b
section
variable {P:Program} {E:Env} {I:Inf} {Q:dQ} {st st':St}
theorem bD{C:List Prop}{fs:List (Nat->Bool)}{p:Prop}(h:asks true C fs p=asks false C fs p)(hp:p):All C/\∀ f,f∈fs->∀ i,f i=true:=by obtain⟨h1,h2⟩:=aB h;have h1:=aI h1;have h2:=aI h2;refine⟨h1.symm▸hp,fun f hf i=>?_⟩;rw[h2]at hf;obtain⟨_,_,rfl⟩:=cE.1 hf;rfl
theorem uD{c:Code}{Q1 Q2:dQ}(h:pwp P E c Q1 st)(hq:∀ e s,Q1 e s->∃ t,Le E s t/\Q2 e t):pwp P E c Q2 st:=
 fun a w r=>wp_mono (h a w r) fun e _ _ ⟨s,hs,hr⟩=>let ⟨t,h1,h2⟩:=hq e s hs; ⟨t,h2,h1 _ _ hr⟩
theorem Ic{o:Oper}{a:Act}{w:World}{K K':Act->World->Prop}{Q Q':Exit->Act->World->Prop}(hk:∀ a w,K a w->K' a w)(hq:∀ e a w,Q e a w->Q' e a w)
  (hh:o.wp P a w K Q):o.wp P a w K' Q':=by
 unfold Oper.wp at *
 generalize (execOp a.eval o).run P w=r at *
 have hl:LetsOut Q->LetsOut Q':=fun⟨a,w,h⟩=>⟨a,w,hq _ _ _ h⟩;cases r with
 | ok n w'=>
  cases n <;> simp only[Oper.upon]at hh ⊢ <;>
   first
    | exact hk _ _ hh
    | exact Calls.mono hh (fun e w'' he=>by cases e <;> first | exact hk _ _ he | exact hq _ _ _ he | exact hl he)
    | exact Rows.mono hh (fun _ _ he=>hk _ _ he)
 | halt x w'=>cases x <;> simp only[Oper.upon]at hh ⊢ <;> first | exact hq _ _ _ hh | exact hh
theorem kR{ops:Array Oper}{Q Q':Exit->Act->World->Prop}(hq:∀ e a w,Q e a w->Q' e a w):∀ {l:List Oper} {a:Act} {w:World},wpList P ops Q l a w->wpList P ops Q' l a w
 | [],a,w,h=>hq _ _ _ h
 | o::rest,a,w,h=>by
  simp only[wpList]at h ⊢;split
  ·rename_i hw;rw[aH hw]at h;rcases h with h | ⟨h1,⟨a',w',h2⟩⟩
   ·exact .inl (Ic (fun _ _ h=>kR hq h) hq h)
   ·exact .inr ⟨h1,⟨a',w',hq _ _ _ h2⟩⟩
  ·rename_i hw;rw[aT hw]at h;exact kR hq h
theorem oU{Q1 Q2:dQ}(hq:∀ e s,Q1 e s->∃ t,Le E s t/\Q2 e t):∀ {ks:List Kf} {e:Exit} {s:St},kQ P E ks Q1 e s->∃ t,Le E s t/\kQ P E ks Q2 e t
 | [],e,s,h=>hq e s h
 | .s y::ks,e,s,h=>by
  unfold kQ at h ⊢;unfold qA at h ⊢;cases e with
  | normal=>exact⟨s,.refl,uD h fun e s h=>oU hq h⟩
  | _=>exact oU hq (ks:=ks) h
 | .b id::ks,e,s,h=>by
  unfold kQ at h ⊢;unfold gO at h ⊢;cases e with
  | exit i=>
   simp only at h ⊢;split at h
   ·rename_i hi; simp only[aH hi]; exact oU hq h
   ·rename_i hi; simp only[aT hi]; exact oU hq h
  | _=>exact oU hq (ks:=ks) h
theorem qI:∀ (m:Nat) (ks:List Kf),kQ P E ks Q=kQ P E (ks.take m) (kQ P E (ks.drop m) Q)
 | 0,ks=>by simp[kQ]
 | m+1,[]=>by simp[kQ]
 | m+1,.s y::ks=>by simp only[List.take_succ_cons,List.drop_succ_cons,kQ]; rw[qI m ks]
 | m+1,.b id::ks=>by simp only[List.take_succ_cons,List.drop_succ_cons,kQ]; rw[qI m ks]
theorem Fx{m:Nat}{g:Cfg}{Q1:dQ}(h:cwp P E (Ha m g) Q1 st)(hq:∀ e s,Q1 e s->∃ t,Le E s t/\kQ P E (xA m g) Q e t):cwp P E g Q st:=by
 cases g with
 | c x ks=>show pwp P E x (kQ P E ks Q) st;rw[qI m ks];exact uD h fun e s h=>oU hq h
 | o all l ks=>show bY P E all (kQ P E ks Q) l st;rw[qI m ks];exact fun a w r=>kR (fun e a w ⟨s,hs,hr⟩=>let ⟨t,h1,h2⟩:=oU hq hs; ⟨t,h2,h1 _ _ hr⟩) (h a w r)
 | x e ks=>obtain⟨t,h1,h2⟩:=h;show ∃ t,Le E st t/\kQ P E ks Q e t;rw[qI m ks];obtain⟨u,h3,h4⟩:=oU hq h2;exact⟨u,h1.trans h3,h4⟩
def pD(P:Program)(c:Code)(Q:Exit->Act->World->Prop)(a:Act)(w:World):Prop:=
 ∀ b k cs,∃ e a' w',Q e a' w'/\Arrives P (lone (b.at a (.code c :: .inLoop c::k)) cs w) b k cs e a' w'
theorem pD.of{c:Code}{Q:Exit->Act->World->Prop}{a:Act}{w:World}(h:c.wp P (Exit.then (pD P c Q) Q) a w):pD P c Q a w:=by
 intro b k cs;obtain⟨e,a₁,w₁,hq,harr⟩:=h b (.inLoop c::k) cs;cases e with
 | normal=>obtain⟨e₂,a₂,w₂,hq₂,harr₂⟩:=hq b k cs;exact⟨e₂,a₂,w₂,hq₂,.of_steps (Steps.trans harr (.one step_inLoop)) harr₂⟩
 | exit id=>exact⟨_,a₁,w₁,hq,.pass (x:=.inLoop c) rfl (fun _ _=>.inl (by simp)) harr⟩
 | goto l=>exact⟨_,a₁,w₁,hq,.pass (x:=.inLoop c) rfl (fun _ _=>.inl (by simp)) harr⟩
 | ret=>exact⟨_,a₁,w₁,hq,.pass (x:=.inLoop c) rfl (fun _ _=>.inl (by simp)) harr⟩
 | panic ch=>exact⟨_,a₁,w₁,hq,.pass (x:=.inLoop c) rfl (fun _ _=>.inl (by simp)) harr⟩
 | outgrown=>exact⟨_,a₁,w₁,hq,.pass (x:=.inLoop c) rfl (fun _ _=>.inl (by simp)) harr⟩
theorem pD.loop{c:Code}{Q:Exit->Act->World->Prop}{a:Act}{w:World}(h:pD P c Q a w):(Code.loop c).wp P Q a w:=by intro b k cs;obtain⟨e,a',w',hq,harr⟩:=h b k cs;exact⟨e,a',w',hq,.of_steps (.one step_loop) harr⟩
def Fe{S R:Type}(E:Env)(tm:S->St)(Out:R->dQ):S⊕R->dQ
 | .inl s',e,s=>e = .normal/\Le E s (tm s')
 | .inr r,e,s=>e ≠ .normal/\Out r e s
theorem Dl{c:Code}{S R:Type}{b:S->(S⊕R->Prop)->Prop}{tm:S->St}{Out:R->dQ}{Q':R->Prop}(hb:∀ s (Z:S⊕R->Prop),b s Z->pwp P E c (fun e st=>∃ z,Z z/\Fe E tm Out z e st) (tm s))
  {s0:S}(h:Tr.LoopT b Q' s0)(hq:∀ r e st,Q' r->Out r e st->∃ t,Le E st t/\Q e t):pwp P E (.loop c) Q (tm s0):=by
 intro a w r;refine pD.loop ?_;refine h (fun s=>∀ a w,Rel E (tm s) a w->pD P c (kK E Q) a w) (fun s hs a w r=>pD.of (wp_mono (hb s _ hs a w r) fun e a' w' ⟨st',⟨z,hz,hm⟩,hr⟩=>?_)) a w r;cases z with
 | inl s'=>obtain⟨rfl,hle⟩:=hm; exact hz a' w' (hle _ _ hr)
 | inr r'=>
  obtain⟨hne,hm⟩:=hm;obtain⟨t,h1,h2⟩:=hq r' e st' hz hm;cases e with
  | normal=>exact absurd rfl hne
  | _=>exact⟨t,h2,h1 _ _ hr⟩
theorem vD{t s:St}(h:s.keep (bU t.fr) (bU t.hp)=some t):Le E s t:=Le.keep h
theorem jH{S:Type}{tm:S->St}{v:S}{e:Exit}{s:St}(h:sX true tm v e s=sX false tm v e s):e = .normal/\Le E s (tm v):=by
 unfold sX at h;split at h
 ·exact⟨rfl,vD (aI h)⟩
 ·exact(aA h).elim
theorem tP{Y:Type}{lt lf:Y->Exit->St->VT}{ks:List Kf}{y:Y}{e:Exit}{s:St}(h:mR true lt ks y e s=mR false lf ks y e s)(hl:∀ e s,lt y e s=lf y e s->∃ u,Le E s u/\Q e u):
  e ≠ .normal/\∃ t,Le E s t/\kQ P E ks Q e t:=by
 unfold mR at h;cases e with
 | normal=>exact(aA h).elim
 | _=>
  refine⟨by simp,?_⟩;simp only at h;split at h
  ·rename_i e' hn;obtain⟨u,h1,h2⟩:=hl _ _ h;show cwp P E (.x _ ks) Q s;refine pY (n:=300) ?_;rw[hn];exact⟨u,h1,h2⟩
  ·exact(aA h).elim
theorem Mc{R:Type}{bt:R->St}{ex:Nat}{r:R}{e:Exit}{s:St}(h:Om true bt ex r e s=Om false bt ex r e s):e = .exit ex/\Le E s (bt r):=by
 unfold Om at h;split at h
 ·split at h
  ·rename_i hi;have:=aZ hi;subst this;exact⟨rfl,vD (aI h)⟩
  ·exact(aA h).elim
 ·exact(aA h).elim
theorem rH{all:List Oper}{op:Oper}{d k:Nat}{as:List PV}(h:oM I all op st=some (d,k,as)):∃ c f nf caps aps,op.op = .call c/\c.callee = .value f/\op.dst=some d/\aU all op st=some true/\Nat.blt d I.nt=true /\
  ev st f=some (.fn (.func k) nf caps)/\eP st c.args.toList=some aps/\as=caps.take nf++aps++caps.drop nf:=by
 unfold oM at h;split at h
 ·rename_i c d' h1 h2 h3;split at h
  ·rename_i f h4 h5;split at h
   ·rename_i k' nf caps aps h6 h7;cases h;exact⟨c,f,nf,caps,aps,h1,h4,h2,h3,h5,h6,h7,rfl⟩
   ·cases h
  ·cases h
 ·cases h
theorem vM:∀ {as bps:List PV},iE true st as bps=iE false st as bps->fV st (fB as bps) as bps:=by
 have key:∀ {as bps:List PV},iE true st as bps=iE false st as bps->∀ L,(∀ o,o∈fB as bps->o∈L)->fV st L as bps:=by
  intro as
  induction as with
  | nil=>intro bps h L _; cases bps with | nil=>exact .nil | cons q r=>exact(aA h).elim
  | cons p l ih=>
   intro bps h L hL;cases bps with
   | nil=>exact(aA h).elim
   | cons q r=>
    obtain⟨h1,h2⟩:=aB h;have hsame:∀ {p q:PV},vt true p q=vt false p q->wW st L p q:=fun h=>by have h:=aI h; subst h; exact .same _
    have h2':(∀ o,o∈fB l r->o∈L)->fV st L l r:=fun hh=>ih h2 L hh;unfold Ru at h1;split at h1
    ·rename_i x;refine .cons ?_ (h2' fun o ho=>hL o (by simpa[fB] using ho));have h1:=aI h1;unfold uI at h1;split at h1
     ·rename_i n f hv; cases h1; exact .nil hv
     ·cases h1
    ·rename_i o x;refine .cons ?_ (h2' fun o ho=>hL o (by simp[fB,ho]));split at h1
     ·rename_i e s n f hl;exact .lend (hL _ (by simp[fB])) hl (aI h1).symm
     ·rename_i e s n f hl;split at h1
      ·rename_i m gf hv;obtain⟨h3,h4⟩:=aB h1;have h3:=aI h3;subst h3;have h4:=aI h4;exact .lendA (hL _ (by simp[fB])) hl (fun i _=>congrFun h4 i) hv
      ·exact(aA h1).elim
     ·exact(aA h1).elim
    ·rename_i n f m g;obtain⟨h3,h4⟩:=aB h1;have h3:=aI h3;subst h3;refine .cons (.imp (qM rfl rfl (eW (aI h4)))) (h2' fun o' ho'=>hL o' (by simp[fB,ho']))
    ·rename_i l' r';exact .cons (.imp (tX (cO h1))) (h2' fun o' ho'=>hL o' (by simp[fB,ho']))
    ·rename_i hn ho hsl;refine .cons (hsame h1) (h2' fun o' ho'=>hL o' ?_);cases p <;> simp[fB,ho']
 intro as bps h;exact key h _ fun _ h=>h
theorem jK{fr:Fr}:∀ {as bps:List PV},iE true ⟨fr,[]⟩ as bps=iE false ⟨fr,[]⟩ as bps->∀ st,fV st [] as bps:=by
 intro as
 induction as with
 | nil=>intro bps h st; cases bps with | nil=>exact .nil | cons q r=>exact(aA h).elim
 | cons p l ih=>
  intro bps h st;cases bps with
  | nil=>exact(aA h).elim
  | cons q r=>
   obtain⟨h1,h2⟩:=aB h;refine .cons ?_ (ih h2 st);unfold Ru at h1;split at h1
   ·rename_i x;have h1:=aI h1;unfold uI at h1;split at h1
    ·rename_i n f hv; cases h1; exact .nil hv
    ·cases h1
   ·simp[look]at h1; exact(aA h1).elim
   ·rename_i n f m g;obtain⟨h3,h4⟩:=aB h1;have h3:=aI h3;subst h3;exact .imp (qM rfl rfl (eW (aI h4)))
   ·exact .imp (tX (cO h1))
   ·have h1:=aI h1; subst h1; exact .same _
theorem rS{all:List Oper}{op:Oper}{d t ob:Nat}{kp:PV}(h:oS I all op st=some (d,t,ob,kp)):∃ x kx,op.op = .lookup t x kx false/\op.dst=some d/\aU all op st=some true/\Nat.blt d I.nt=true/\ev st x=some (.map ob)/\ev st kx=some kp:=by
 unfold oS at h;split at h
 ·rename_i t' x kx d' h1 h2 h3;split at h
  ·rename_i h4 h5 h6;cases h;exact⟨x,kx,h1,h2,h3,h4,h5,h6⟩
  ·cases h
 ·cases h
theorem Hg{all:List Oper}{op:Oper}{d di:Nat}(h:zI I all op st=some (d,di)):∃ x,op.op = .next x false/\op.dst=some d/\aU all op st=some true/\Nat.blt d I.nt=true/\ev st x=some (.ptr di 0):=by
 unfold zI at h;split at h
 ·rename_i x d' h1 h2 h3;split at h
  ·rename_i di' h4 h5;cases h;exact⟨x,h1,h2,h3,h4,h5⟩
  ·cases h
 ·cases h
theorem Gn{all:List Oper}{op:Oper}{d e len:Nat}{j:bV}{c:List PV}(h:bsI I all op st=some (d,e,j,len,c)):∃ t parts i ps,op.op = .buildSlice t len parts/\op.dst=some d/\aU all op st=some true/\Nat.blt d I.nt=true /\
  I.ti t=some i/\i.und = .sl e/\I.ti e=some j/\dR st parts.toList=some ps/\len*j.size<=16777216/\1<=j.size/\j.zero.length=j.size/\iL (fun i=>some (i*j.size,j.size)) (cQ j (len*j.size)) ps=some c/\c.length=len*j.size:=by
 unfold bsI at h;split at h
 case h_2=>cases h
 rename_i t len' parts d' h1 h2 h3;split at h
 case h_2=>cases h
 rename_i i ps h4 h5 h6;split at h
 case h_2=>cases h
 rename_i e' h7;split at h
 case h_2=>cases h
 rename_i j' h8;split at h
 case h_2=>cases h
 rename_i c' h9 h10 h11 h12;split at h
 ·rename_i h13;cases h;exact⟨t,parts,i,ps,h1,h2,h3,h6,h4,h7,h8,h5,cP h9,cP h10,aZ h11,h12,aZ h13⟩
 ·cases h
theorem Pz{c:Option (Nat×aN)}{Hs:Hp}(h:ch1 c Hs=true):∀ d,c=some d->d.1∈bU Hs:=by rintro⟨o,x⟩ rfl;exact bS.1 h
theorem Li{all:List Oper}{op:Oper}{d m:Nat}{ng:Bool}(h:Im I all op st=some (d,ng,m)):∃ o t x y z i p,op.op = .binOp o t x y z/\((o = .eql/\ng=true)\/(o = .neq/\ng=false))/\op.dst=some d/\aU all op st=some true/\Nat.blt d I.nt=true/\I.ti t=some i/\(∃ e,i.und = .sl e) /\
  ev st x=some p/\((∃ f,p = .t (.sl m f))\/(m=0/\∃ o,p = .own o))/\ev st y=some .nil:=by
 unfold Im at h;split at h
 case h_2=>cases h
 rename_i o t x y z d' h1 h2 h3;split at h
 case h_5=>cases h
 all_goals
  rename_i h4 h5 h6 h7;split at h
  ·rename_i e h8;cases h
   first
    | exact⟨_,t,x,y,z,_,_,h1,.inl ⟨rfl,rfl⟩,h2,h3,h7,h4,⟨e,h8⟩,h5,.inl ⟨_,rfl⟩,h6⟩
    | exact⟨_,t,x,y,z,_,_,h1,.inr ⟨rfl,rfl⟩,h2,h3,h7,h4,⟨e,h8⟩,h5,.inl ⟨_,rfl⟩,h6⟩
    | exact⟨_,t,x,y,z,_,_,h1,.inl ⟨rfl,rfl⟩,h2,h3,h7,h4,⟨e,h8⟩,h5,.inr ⟨rfl,_,rfl⟩,h6⟩
    | exact⟨_,t,x,y,z,_,_,h1,.inr ⟨rfl,rfl⟩,h2,h3,h7,h4,⟨e,h8⟩,h5,.inr ⟨rfl,_,rfl⟩,h6⟩
  ·cases h
theorem Fo(hG:cZ P E I){all l:List Oper}{op:Oper}{d e len:Nat}{j:bV}{c:List PV}{ts:List T}(h:bsI I all op st=some (d,e,j,len,c))(hts:nX c ts)
  (hk:bY P E all Q l (st.put d (.t (.sl len (eT ts j.size))))):bY P E all Q (op::l) st:=by
 obtain⟨t,parts,i,ps,h1,h2,h3,h4,h5,h6,h7,h8,h9,h10,h11,h12,h13⟩:=Gn h;refine bW rfl h3 fun F g a w r=>?_;have hte:=(hG.ti _ _ h5).und;rw[h6]at hte;obtain⟨u,w',F',e1,e2⟩:=kH (P:=P) (d:=d) hG.nt r hte (hG.ti _ _ h7) h8 h9 h10 h11 h12 hts h13 (by simpa[cB] using h4);exact⟨_,u,w',_,by unfold execOp; simp[h1,e1],.inl rfl,by rw[h2]; exact⟨F',g,e2⟩,hk⟩
theorem Ik(hG:cZ P E I){all l:List Oper}{op:Oper}{f:Nat}(h:dfI all op st=some f)(hh:∀ cap,jI P { target:=.fn (.func f) cap,args:=#[] })(hk:bY P E all Q l st):bY P E all Q (op::l) st:=by
 unfold dfI at h;split at h
 case h_2=>cases h
 rename_i c hop hd hw;split at h
 case h_2=>cases h
 rename_i x hc ha;split at h
 case h_2=>cases h
 rename_i f' cs hx;cases h;intro a w r;refine wpList_step fun K hK=>?_;obtain⟨F,g,r⟩:=r;have hwt:=dM (ops:=all.toArray) r (by simpa using hw);rw[aH hwt];have hv:=aR r hx;have ha:c.args=#[]:=by cases hq:c.args with | mk l=>rw[hq]at ha; simp at ha; rw[ha]
 obtain⟨u,hu⟩:∃ u,a.eval x=u:=⟨_,rfl⟩;rw[hu]at hv;cases hv with
 | @fn _ _ _ us vs hn hs hr=>
  have hus:us=#[]:=rO hn;subst hus;unfold Oper.wp;have hrun:(execOp a.eval op).run P w = .ok (.defer { target:=.fn (.func f) vs,args:=#[] }) w:=by unfold execOp;simp[hop,resolve,hc,ha,hu,Deferred.ofValue]
  rw[hrun];show K _ w;refine hK _ _ (hk _ _ ⟨F,g,?_,fun d hd'=>?_,?_,r.w⟩)
  ·rw[hd]; exact r.nt
  ·rw[hd]at hd';rcases aL.1 hd' with rfl | hd'
   ·rw[hG.dk]; exact hh vs
   ·exact r.df d hd'
  ·rw[hd]; exact r.fr
theorem Kd(hG:cZ P E I){all l:List Oper}{op:Oper}{d:Nat}{s:ByteArray}(h:cbI I all op st=some (d,s))(hk:bY P E all Q l (st.put d (.t (eL cU8 (cK s))))):bY P E all Q (op::l) st:=by
 unfold cbI at h;split at h
 case h_2=>cases h
 rename_i t1 t2 x d' hop hd hw;split at h
 case h_2=>cases h
 rename_i i j y hi hj hx hlt;split at h
 case h_2=>cases h
 rename_i e hui huj;split at h
 case h_2=>cases h
 rename_i k hk';split at h
 case h_2=>cases h
 rename_i huk;cases h;refine bW rfl hw fun F g a w r=>?_;have hs:=(hG.ti _ _ hi).und; rw[hui]at hs;have hd':=(hG.ti _ _ hj).und; rw[huj]at hd';have he:=(hG.ti _ _ hk').und; rw[huk]at he;have hv:=(aR r hx).inv_str;have hrun:=run_bytes_of_string (P:=P) w t1 t2 e s hs hd' he;have hcap:=grownCap_ge w s.size 0 e;have hl:(cK s).length=s.size:=by simp[cK]
 refine⟨.value (.slice (some ⟨w.heap.size,0,none⟩) s.size (grownCap w s.size 0 e)),.slice (some ⟨w.heap.size,0,none⟩) s.size (grownCap w s.size 0 e),w.drew.alloc (.cells (bytesRow s (grownCap w s.size 0 e)) e ((bytesRow s (grownCap w s.size 0 e)).size,(bytesRow s (grownCap w s.size 0 e)).size+1)),_,by unfold execOp; simp[hop,hv,hrun],.inl rfl,?_,hk⟩;rw[hd];refine⟨_,g,r.fresh (ob:=(.cells (bytesRow s (grownCap w s.size 0 e)) e ((bytesRow s (grownCap w s.size 0 e)).size,(bytesRow s (grownCap w s.size 0 e)).size+1))) (w':=w.drew.alloc (.cells (bytesRow s (grownCap w s.size 0 e)) e ((bytesRow s (grownCap w s.size 0 e)).size,(bytesRow s (grownCap w s.size 0 e)).size+1))) rfl rfl rfl rfl (by rw[hG.nt]; simpa[cB] using hlt) (.t (.sl (t:=eL cU8 (cK s)) (n:=s.size) (f:=eF cU8 (cK s)) ⟨w.heap.size,0,none⟩ _ 1 (fun i _=>.int .u8 ((cK s).getD i default)) (by simp only[eL,T.view,hl]; rfl) hcap (fun _=>.inr rfl) (fun _ _=>rfl) (fun i k hi hk=>?_) (fun i k x hi hx=>?_)))⟩
 ·have hk0:k=0:=by omega
  subst hk0;rw[Addr.add_none];have hsz:i<s.data.size:=hi;have hnew:=heap_alloc_new w.drew (.cells (bytesRow s (grownCap w s.size 0 e)) e ((bytesRow s (grownCap w s.size 0 e)).size,(bytesRow s (grownCap w s.size 0 e)).size+1));simp only[World.cell?];have hnew:(w.drew.alloc (.cells (bytesRow s (grownCap w s.size 0 e)) e ((bytesRow s (grownCap w s.size 0 e)).size,(bytesRow s (grownCap w s.size 0 e)).size+1))).heap[w.heap.size]? = _:=hnew;rw[hnew];simp only[Nat.mul_one,nL,cH];rw[show (bytesRow s (grownCap w s.size 0 e))[i]? = some (.int .u8 (s.data[i].toNat:Int)) from bytesRow_at s _ i hsz];have:(cK s).getD i default=(s.data[i].toNat:Int):=by simp[cK,vW hsz]
  rw[this];rfl
 ·have hx:(cU8 ((cK s).getD i default))[k]? = some x:=hx;unfold cU8 at hx;have hk0:k=0:=by have:=(bZ.1 hx).1; simp at this; omega
  subst hk0;simp at hx;subst hx;have e:(cK s)[i]?.getD default=(cK s).getD i default:=by simp
  first | exact .int _ _ | (rw[e]; exact .int _ _)
theorem Hi(hG:cZ P E I){all l:List Oper}{op:Oper}{d e len:Nat}{j:bV}{c:List PV}{ts:List T}(h:bsI I all op st=some (d,e,j,len,c))(hts:nX c ts)
  (hn:cX I st d (.arr e j.size len (eT ts j.size)) (.own d)=some st')(hk:bY P E all Q l st'):bY P E all Q (op::l) st:=by
 obtain⟨t,parts,i,ps,h1,h2,h3,h4,h5,h6,h7,h8,h9,h10,h11,h12,h13⟩:=Gn h;refine bW rfl h3 fun F g a w r=>?_;have hte:=(hG.ti _ _ h5).und;rw[h6]at hte;obtain⟨u,w',e1,e2⟩:=iW (P:=P) (d:=d) hG.N hG.nt r hte (hG.ti _ _ h7) h8 h9 h10 h11 h12 hts h13 hn;exact⟨_,u,w',_,by unfold execOp; simp[h1,e1],.inl rfl,by rw[h2]; exact e2,hk⟩
theorem Bz(hG:cZ P E I){all l:List Oper}{op:Oper}{d m:Nat}{ng:Bool}(h:Im I all op st=some (d,ng,m))(h1:m=0->bY P E all Q l (st.put d (.t (.bool ng))))(h0:bY P E all Q l (st.put d (.t (.bool (!ng))))):bY P E all Q (op::l) st:=by
 obtain⟨o,t,x,y,z,i,p,e1,e2,e3,e4,e5,e6,⟨e,e7⟩,e8,e9,e10⟩:=Li h;refine bW rfl e4 fun F g a w r=>?_;have hd':d<E.nt:=by rw[hG.nt]; simpa[cB] using e5
 have hte:=(hG.ti _ _ e6).und;rw[e7]at hte;have hx:=aR r e8;have hy:=aR r e10;obtain⟨u,hu⟩:∃ u,a.eval x=u:=⟨_,rfl⟩;obtain⟨v,hv⟩:∃ u,a.eval y=u:=⟨_,rfl⟩;rw[hu]at hx; rw[hv]at hy;have hs:∃ ad n c,u = .slice ad n c/\(ad.isNone=true->m=0):=by
  rcases e9 with⟨f,rfl⟩ | ⟨h00,o,rfl⟩
  ·cases hx with
   | t hx=>cases hx with
    | nil hv=>exact⟨_,_,_,rfl,fun _=>by injection hv with hv; injection hv⟩
    | sl=>exact⟨_,_,_,rfl,fun hn=>by simp at hn⟩
  ·cases hx with
   | own=>exact⟨_,_,_,rfl,fun _=>h00⟩
 obtain⟨ad,n,c,rfl,hm⟩:=hs;cases hy;have hq:=run_equal_slice_nil (P:=P) w t e ad n c hte;have hres:(binOp o t (.slice ad n c) (.slice none 0 0)).run P w = .ok (.bool (if ad.isNone then ng else !ng)) w:=by
  rcases e2 with⟨rfl,rfl⟩ | ⟨rfl,rfl⟩
  ·cases ad <;> simp[binOp,hq]
  ·cases ad <;> simp[binOp,hq]
 have hg:(eqGuard o t x y (.slice ad n c) (.slice none 0 0)).run P w = .ok () w:=by unfold eqGuard; cases o <;> simp
 have hex:(execOp a.eval op).run P w = .ok (.value (.bool (if ad.isNone then ng else !ng))) w:=by unfold execOp;simp[e1,hu,hv,hg,hres]
 cases had:ad.isNone with
 | true=>rw[had]at hex;exact⟨_,_,w,_,hex,.inl rfl,by rw[e3]; exact⟨F,g,r.put hd' (.t (.bool _))⟩,h1 (hm had)⟩
 | false=>rw[had]at hex;exact⟨_,_,w,_,hex,.inl rfl,by rw[e3]; exact⟨F,g,r.put hd' (.t (.bool _))⟩,h0⟩
theorem vK{xs:Array Operand}{l:List Operand}(h:xs.toList=l):xs=l.toArray:=by rw[<-h]
end
def uN(f:Nat->List T)(l:Nat)(zs:List T):Nat->List T:=fun i=>if i<l then f i else zs
section
variable {P:Program} {E:Env} {I:Inf} {Q:dQ} {st st':St} {F:Nat->Prop} {g:Nat->Value} {a:Act} {w:World}
theorem mK(r:bA E F g st a w){t e:TypeId}{j:bV}(ht:P.underlying t=some (.slice e))(hj:TOk P e j){ad:Option Addr}{n cap:Nat}(hcap:n<=cap)
  {lo hi:Option Operand}{l h:Int}(hl:cS st 0 lo=some l)(hh:cS st n hi=some h)(hc:0<=l/\l<=h/\h<=(n:Int)):
  (Instr.sliceAt t (.slice ad n cap) (lo.map a.eval) (hi.map a.eval) none).run P w = .ok (.slice (if cap=l.toNat then ad else ad.map (·.add (l.toNat*j.size))) (h.toNat-l.toNat) (cap-l.toNat)) w:=by
 obtain⟨h1,h2,h3⟩:=hc;have e:(Instr.sliceAt t (.slice ad n cap) (lo.map a.eval) (hi.map a.eval) none).run P w=(Instr.slice t (.slice ad n cap) (lo.map a.eval) (hi.map a.eval) none).run P w:=by simp[Instr.sliceAt,run_underlying ht]
 have hb:(Instr.sliceBounds true n cap (lo.map a.eval) (hi.map a.eval) none).run P w = .ok (l.toNat,h.toNat,cap) w:=by
  unfold Instr.sliceBounds;rcases eY r hl with⟨rfl,rfl⟩ | ⟨y,k,rfl,hy⟩ <;> rcases eY r hh with⟨rfl,rfl⟩ | ⟨y',k',rfl,hy'⟩
  ·simp
  ·simp[hy',bB (P:=P) (w:=w) (k:=k') (n:=h) (y:=cap) ⟨by omega,by omega⟩]
  ·simp[hy,bB (P:=P) (w:=w) (k:=k) (n:=l) (y:=n) ⟨h1,by omega⟩]
  ·simp[hy,hy',bB (P:=P) (w:=w) (k:=k') (n:=h) (y:=cap) ⟨by omega,by omega⟩,bB (P:=P) (w:=w) (k:=k) (n:=l) (y:=h.toNat) ⟨h1,by omega⟩]
 rw[e];simp[Instr.slice,run_underlying ht,hb,run_sizeOf hj]
theorem bA.erase(r:bA E F g st a w){o:Nat}{st1:St}(he:st.erase o=some st1):bA E F g st1 a w:=
 ⟨r.nt,r.df,fun t y hy=>r.fr t y (St.erase_fr he t y hy).1,⟨⟨fun k y hy=>by
   obtain⟨x,h1,_,_,h4,_⟩:=St.erase_hp he k y hy; exact h4 _ _ _ (r.w.hp.obj k x h1),fun k y b hy hb=>by
   obtain⟨x,h1,_,_,_,h5⟩:=St.erase_hp he k y hy; exact r.w.hp.own k x b h1 (h5 _ _ _ hb),fun k y k' y' b hy hy' hne hb hb'=>by
   obtain⟨x,h1,_,_,_,h5⟩:=St.erase_hp he k y hy; obtain⟨x',h1',_,_,_,h5'⟩:=St.erase_hp he k' y' hy'; exact r.w.hp.sep k x k' x' b h1 h1' hne (h5 _ _ _ hb) (h5' _ _ _ hb')⟩,
   r.w.f0,r.w.f1,r.w.ext,r.w.names,r.w.b0⟩⟩
theorem bA.obj0(r:bA E F g st a w){o:Nat}{x y:aN}(hl:look st.hp o=some x)(hxy:∀ F g w,bL F g w o x->bL F g w o y)(hy:y.plain=true:=by rfl):bA E F g { st with hp:=(o,y)::del o st.hp } a w:=by
 have hlm:=aE hl;have old:∀ k z b,(k,z)∈(o,y)::del o st.hp->aK g w k z b->∃ z',(k,z')∈st.hp/\aK g w k z' b:=by
  intro k z b hz hb;rcases aL.1 hz with e | hz
  ·cases e; exact⟨x,hlm,.self (hb.toBlk hy)⟩
  ·exact⟨z,(aJ.1 hz).1,hb⟩
 refine⟨r.nt,r.df,r.fr,⟨⟨fun k z hz=>?_,fun k z b hz hb=>?_,fun k z k' z' b hz hz' hne hb hb'=>?_⟩,r.w.f0,r.w.f1,r.w.ext,r.w.names,r.w.b0⟩⟩
 ·rcases aL.1 hz with e | hz
  ·cases e; exact hxy _ _ _ (r.w.hp.obj _ _ hlm)
  ·exact r.w.hp.obj k z (aJ.1 hz).1
 ·obtain⟨z',h1,h2⟩:=old k z b hz hb; exact r.w.hp.own k z' b h1 h2
 ·obtain⟨u,h1,h2⟩:=old k z b hz hb;obtain⟨u',h1',h2'⟩:=old k' z' b hz' hb';exact r.w.hp.sep k u k' u' b h1 h1' hne h2 h2'
theorem Gz(hG:cZ P E I){ops l:List Oper}{o:Oper}{rest:List Oper}{t:TypeId}{x:Operand}{lo hi:Option Operand}{d q e e' s n:Nat}{f:Nat->List T}{h:Int}{i j:bV}(hl:l=o::rest)(hop:o.op = .slice t x lo hi none)
  (hd:o.dst=some d)(hw:aU ops o st=some true)(hx:ev st x=some (.own q))(hq:look st.hp q=some (.arr e s n f))(hlo:cS st 0 lo=some 0)(hhi:cS st n hi=some h)(hi:I.ti t=some i)(hu:i.und = .sl e')(hj:I.ti e'=some j)
  (hc:0<=h/\h<=(n:Int)){st1:St}(he:st.erase q=some st1)(hn:cX I st1 d (.arr e s h.toNat f) (.own d)=some st')(hk:bY P E ops Q rest st'):bY P E ops Q l st:=by
 refine bW hl hw fun F g a w r=>?_;have hte:=(hG.ti _ _ hi).und;rw[hu]at hte;have hxv:=aR r hx;obtain⟨u,hue⟩:∃ u,a.eval x=u:=⟨_,rfl⟩;rw[hue]at hxv;have hob:=r.w.hp.obj _ _ (aE hq);cases hxv with
 | @own _ n' cap ad hg=>
  have hcap:n'=n/\n<=cap:=by
   rcases hob with⟨h1,h2⟩ | ⟨b,cap',cur,h1,_,h3,_⟩
   ·rw[hg]at h1; cases h1; omega
   ·rw[hg]at h1; cases h1; exact⟨rfl,h3⟩
  obtain⟨rfl,hcap⟩:=hcap;have hrun:=mK (P:=P) r hte (hG.ti _ _ hj) (ad:=ad) hcap hlo hhi ⟨by omega,by omega,hc.2⟩;have had:(if cap=(0:Int).toNat then ad else ad.map (·.add ((0:Int).toNat*j.size)))=ad:=by
   split
   ·rfl
   ·cases ad with
    | none=>rfl
    | some ad=>simp[Addr.add]
  rw[had]at hrun;simp only[Int.toNat_zero,Nat.sub_zero]at hrun;have hex:(execOp a.eval o).run P w = .ok (.value (.slice ad h.toNat cap)) w:=by unfold execOp;simp[hop,hue,hrun]
  refine⟨_,_,w,st',hex,.inl rfl,?_,hk⟩;rw[hd];have r1:=r.erase he;unfold cX at hn;split at hn
  ·rename_i st2 g1 g2 g3;cases hn;have hd':d<E.nt:=by rw[hG.nt]; simpa[cB] using g1
   have hlm:=aE hq;have hblk:∀ b,blk (.slice ad h.toNat cap)=some b->blk (g q)=some b:=by
    intro b hb;rw[hg];cases ad with
    | none=>cases hb
    | some ad=>exact hb
   refine⟨F,upd g d (.slice ad h.toNat cap),r1.putW hd' (fun b hb=>⟨hb,rfl⟩) (fun t y hy=>?_) ?_ (.own (aP ..))⟩
   ·obtain⟨e1,e2⟩:=St.erase_fr g3 t y hy;exact⟨e1,fun o ho=>aQ g _ (e2 o ho)⟩
   ·have hdis:∀ k y b,(k,y)∈st1.hp->aK g w k y b->blk (.slice ad h.toNat cap)=some b->False:=by intro k y b hy hb hb';obtain⟨x,hx1,hx2,_,_,hx5⟩:=St.erase_hp he k y hy;exact r.w.hp.sep k x q _ b hx1 hlm hx2 (hx5 _ _ _ hb) (.self (hblk b hb'))
    have hself:∀ b,aK (upd g d (.slice ad h.toNat cap)) w d (.arr e s h.toNat f) b->blk (.slice ad h.toNat cap)=some b:=by
     intro b hb;have:=hb.toBlk rfl
     rwa [aP]at this
    refine⟨HpR.change r1.w.hp g3 (fun o ho=>aQ g _ ho) (fun b hb=>⟨hb,rfl⟩) (fun _ h=>h) (fun _ _ _ _ _ _=>rfl) ?_ (fun b hb=>?_) (fun k y b hk hne hb hb'=>hdis k y b hk hb (hself b hb')),r.w.f0,r.w.f1,r.w.ext,fun k hk=>?_,r.w.b0⟩
    ·simp only[bL,aP];rcases hob with⟨h1,h2⟩ | ⟨b,cap',cur,h1,h2,h3,h4,h5,h6,h7⟩
     ·rw[hg]at h1;injection h1 with h1 h8 h9;subst h1;have:h.toNat=0:=by omega
      rw[this,h9];exact .inl ⟨rfl,rfl⟩
     ·rw[hg]at h1;injection h1 with h1 h8 h9;subst h1 h9;exact .inr ⟨b,cap,cur,rfl,h2,by omega,h4,h5,fun i hi=>h6 i (by omega),fun i k x hi hx=>h7 i k x (by omega) hx⟩
    ·exact r.w.hp.own q _ b hlm (.self (hblk b (hself b hb)))
    ·have hne:k≠d:=by intro e1;have:=cI g2;rw[<-hG.N]at this;exact this (e1▸hk)
     rw[aQ g _ hne];exact r.w.names k hk
  ·cases hn
theorem Gv(hG:cZ P E I){ops l:List Oper}{o1 o2:Oper}{rest:List Oper}{t t2:TypeId}{x:Operand}{lo:Option Operand}{c:Call}{d q e e' s n:Nat}{f:Nat->List T}{lv:Int}{i j:bV}{zs:List T}(hl:l=o1::o2::rest)
  (hop:o1.op = .slice t x lo none none)(hd:o1.dst=some d)(hw:aU ops o1 st=some true)(hop2:o2.op = .call c)(hcal:c.callee = .builtin .clear)(hargs:c.args=#[.tmp d])(hat:c.argTypes[0]? = some t2)(ht2:t2=t)(hg2:o2.guard=none)(hd2:o2.dst=none)
  (hnt:Nat.blt d I.nt=true)(hx:ev st x=some (.own q))(hq:look st.hp q=some (.arr e s n f))(hlo:cS st 0 lo=some lv)(hi:I.ti t=some i)(hu:i.und = .sl e')(hj:I.ti e'=some j)(hs:j.size=s)(hs1:1<=s)(hz:j.zero.length=j.size)
  (hz1:j.zero.all PV.one=true)(hzs:nX j.zero zs)(hc:0<=lv/\lv<=(n:Int))(hk:bY P E ops Q rest (({ st with hp:=(q,.arr e s n (uN f lv.toNat zs))::del q st.hp }:St).put d .any)):bY P E ops Q l st:=by
 subst hl;rintro a w ⟨F,g,r⟩;have hd':d<E.nt:=by rw[hG.nt]; simpa[cB] using hnt
 have hte:=(hG.ti _ _ hi).und;rw[hu]at hte;have hxv:=aR r hx;obtain⟨u,hue⟩:∃ u,a.eval x=u:=⟨_,rfl⟩;rw[hue]at hxv;have hlm:=aE hq;have hob:=r.w.hp.obj _ _ hlm;cases hxv with
 | @own _ n' cap ad hg=>
  have hcap:n'=n/\n<=cap:=by
   rcases hob with⟨h1,h2⟩ | ⟨b,cap',cur,h1,_,h3,_⟩
   ·rw[hg]at h1; cases h1; omega
   ·rw[hg]at h1; cases h1; exact⟨rfl,h3⟩
  obtain⟨rfl,hcap⟩:=hcap;have hrun:=mK (P:=P) (hi:=none) (h:=(n':Int)) r hte (hG.ti _ _ hj) (ad:=ad) hcap hlo rfl ⟨hc.1,hc.2,Int.le_refl _⟩;obtain⟨v1,hv1⟩:∃ v1,v1=Value.slice (if cap=lv.toNat then ad else ad.map (·.add (lv.toNat*j.size))) ((n':Int).toNat-lv.toNat) (cap-lv.toNat):=⟨_,rfl⟩;rw[<-hv1]at hrun;have hex:(execOp a.eval o1).run P w = .ok (.value v1) w:=by unfold execOp;simp only[Option.map_none]at hrun;simp[hop,hue,hrun]
  refine wpList_step fun K hK=>?_;rw[aH (dM (ops:=ops.toArray) r (by simpa using hw))];unfold Oper.wp;rw[hex];simp only[Oper.upon];refine hK _ _ ?_;rw[hd];have hev:(a.put (some d) v1).eval (.tmp d)=v1:=by simp only[Act.eval];exact Act.put_same a d v1 (by rw[r.nt]; exact hd')
  have key:∃ w2,(Builtin.clear_ c.argTypes o2.type #[v1]).run P w = .ok (.tuple #[]) w2/\bA E F g { st with hp:=(q,.arr e s n' (uN f lv.toNat zs))::del q st.hp } a w2:=by
   by_cases h0:(n':Int).toNat-lv.toNat=0
   ·refine⟨w,?_,r.obj0 hq (fun F g w h=>?_)⟩
    ·rw[hv1,h0];generalize (if cap=lv.toNat then ad else ad.map (·.add (lv.toNat*j.size)))=A;unfold Builtin.clear_;cases A <;> simp[hat,ht2,run_underlying hte]
    ·refine bL.row rfl (fun k hk=>?_) h;simp only[uN];rw[aH (by omega)]
   ·rcases hob with⟨h1,h2⟩ | ⟨b,cap',cur,h1,h2,h3,h4,h5,h6,h7⟩
    ·omega
    ·rw[hg]at h1;injection h1 with h1 h8 h9;subst h1 h9;obtain⟨info,z,hi1,hi2,hi3,hi4,hi5⟩:=gH (hG.ti _ _ hj) ((n' - lv.toNat)*j.size) hz (by omega);have hzc:(Builtin.zeroCells z.cells (n' - lv.toNat))=(Array.range ((n' - lv.toNat)*j.size)).map (z.cells[· % z.cells.size]!):=by unfold Builtin.zeroCells;rw[hi4]
     obtain⟨vs,hvs⟩:∃ vs,vs=(Builtin.zeroCells z.cells (n' - lv.toNat)).toList:=⟨_,rfl⟩;have hlen:vs.length=(n' - lv.toNat)*j.size:=by rw[hvs,hzc]; simp
     have hmul:lv.toNat*s+(n' - lv.toNat)*s=n'*s:=by rw[<-dU]; congr 1; omega
     have hle:n'*s<=cap*s:=dH _ h3;have hfit:lv.toNat*j.size+0+vs.length<=cur.size:=by rw[hlen,hs,h5]; omega
     have hcell:∀ k,k<(n' - lv.toNat)*s->∃ v x,vs[k]? = some v/\(cQ j ((n' - lv.toNat)*j.size))[k]? = some x/\VR F g w x v:=by
      intro k hk;have hk':k<vs.length:=by rw[hlen,hs]; exact hk
      have hkz:k<(cQ j ((n' - lv.toNat)*j.size)).length:=by simp[cQ,hs,hk]
      refine⟨vs[k],_,by simp[hk'],dE hkz,hi5 F g w k _ _ (dE hkz) ?_⟩;rw[<-hzc,<-rK,<-hvs];simp[hk']
     have hzero:∀ k x,(cQ j ((n' - lv.toNat)*j.size))[k]? = some x->j.zero[k % s]? = some x:=by
      intro k x hx;simp only[cQ,cR]at hx;have hk:k<(n' - lv.toNat)*j.size:=by
       rcases Nat.lt_or_ge k ((n' - lv.toNat)*j.size) with h | h
       ·exact h
       ·rw[List.getElem?_eq_none (by simpa using h)]at hx; cases hx
      rw[List.getElem?_range hk]at hx;simp only[iK,cV]at hx;have hkm:k % j.zero.length<j.zero.length:=Nat.mod_lt _ (by omega);rw[bO,dE hkm]at hx;simp only[oQ]at hx;rw[<-hx,<-hs,<-hz,dE hkm]
     have hone:∀ v,v∈vs->v.oneCell'=true:=by intro v hv;obtain⟨k,hk,hkv⟩:=wX.1 hv;obtain⟨v',x,e1,e2,e3⟩:=hcell k (by rw[<-hs,<-hlen]; exact hk);rw[dE hk,hkv]at e1;cases e1;exact e3.one (cU.1 hz1 x (eE (hzero k x e2)))
     have hst:=run_storeCells_at (P:=P) b (lv.toNat*j.size) e vs 0 cur w h2 hfit hone;simp only[nL]at hst;have hne:¬ cap=lv.toNat:=by omega
     refine⟨_,?_,r.write (cs:=(cur.toList.take (lv.toNat*j.size)++vs++cur.toList.drop (lv.toNat*j.size+vs.length)).toArray) hlm (by rw[hg]; rfl) h2 ?_⟩
     ·rw[hv1,aT hne];unfold Builtin.clear_;obtain⟨m,hm⟩:∃ m,(n':Int).toNat-lv.toNat=m+1:=⟨(n':Int).toNat-lv.toNat-1,by omega⟩;have hm':n' - lv.toNat=m+1:=by omega
      rw[hm];rw[hm']at hvs;simp[hat,ht2,run_underlying hte,dW hi1 hi2,Addr.add_none,<-hvs,hst]
     ·have hFb:=(r.w.hp.own q _ b hlm (.self (by rw[hg]; rfl))).1;have hF:=nR (F:=F) (w:=w) (cs:=(cur.toList.take (lv.toNat*j.size)++vs++cur.toList.drop (lv.toNat*j.size+vs.length)).toArray) hFb;refine RowR.obj (b:=b) (cap:=cap) ⟨fun k hk=>?_,fun k m x hk hx=>?_⟩ hg (setRow_heap w b cur _ e _ h2) h3 h4 ?_
      ·simp only[uN];split
       ·exact h6 k hk
       ·rw[hzs.1,hz,hs]
      ·have hms:m<s:=by
        have:=(bZ.1 hx).1;simp only[uN]at this;split at this
        ·rw[h6 k hk]at this; exact this
        ·rw[hzs.1,hz,hs]at this; exact this
       have hkm:k*s+m<n'*s:=by
        calc k*s+m<k*s+s:=by omega
         _=(k+1)*s:=by rw[Nat.succ_mul]
         _<=n'*s:=dH _ hk
       simp only[lG,eC];simp only[uN]at hx;split at hx
       ·rename_i hkl;have hlt:k*s+m<lv.toNat*j.size:=by
         rw[hs]
         calc k*s+m<k*s+s:=by omega
          _=(k+1)*s:=by rw[Nat.succ_mul]
          _<=lv.toNat*s:=dH _ hkl
        obtain⟨v,hv,hr⟩:=h7 k m x hk hx;refine⟨v,?_,by have:=hr.mono hF; simpa only[eC] using this⟩;rw[dB (by simp; omega),dZ,aH hlt];simpa using hv
       ·rename_i hkl;have hge:lv.toNat*s<=k*s:=dH _ (by omega);obtain⟨v,y,e1,e2,e3⟩:=hcell (k*s+m-lv.toNat*s) (by omega);have hmod:(k*s+m-lv.toNat*s) % s=m:=by
         have:k*s+m-lv.toNat*s=(k-lv.toNat)*s+m:=by rw[Nat.sub_mul]; omega
         rw[this,rC,Nat.mul_add_mod,Nat.mod_eq_of_lt hms]
        have hy:=hzero _ _ e2;rw[hmod]at hy;refine⟨v,?_,?_⟩
        ·rw[dF (by simp; rw[hs]; omega),dB (by simp; rw[hlen,hs]; omega)];simp only[cL,dY];rw[show min (lv.toNat*j.size) cur.size=lv.toNat*s by rw[hs]; omega];exact e1
        ·have:=((hzs.2 m y x hy hx _ _ _ _ e3).cells_t rfl).mono hF;simpa only[eC] using this
      ·simp only[hJ,gB,cL,fC,dY];omega
  obtain⟨w2,hr2,hrel⟩:=key;refine wpList_step fun K2 hK2=>?_;rw[aH (by simp[Region.wanted,hg2])];have hex2:(execOp (a.put (some d) v1).eval o2).run P w = .ok (.value (.tuple #[])) w2:=by unfold execOp;simp[hop2,resolve,hcal,invoke,hargs,hev,builtin,hr2]
  unfold Oper.wp;rw[hex2];simp only[Oper.upon];refine hK2 _ _ (hk _ _ ⟨F,g,?_⟩);rw[hd2];exact hrel.put hd' (.any (by rw[hv1]; rfl))
theorem Nt{all:List Oper}{op:Oper}{d e:Nat}{j:bV}{k:Int}(h:Kw I all op st=some (d,e,j,k)):
  ∃ s x t t' i i' kk,op.op = .call ⟨.builtin .append,#[s,x],#[t,t']⟩/\op.dst=some d/\aU all op st=some true/\I.ti t=some i/\I.ti t'=some i'/\i.und = .sl e/\i'.und = .int kk/\I.ti e=some j /\
   ev st s=some .nil/\ev st x=some (.t (.int .i64 k))/\1<=j.size/\1<=j.bytes/\j.zero.length=j.size:=by
 unfold Kw at h;split at h
 case h_2=>cases h
 rename_i c d' e1 e2 e3;split at h
 case h_2=>cases h
 rename_i s x t t' e4 e5 e6;split at h
 case h_2=>cases h
 rename_i i i' k' e7 e8 e9 e10;split at h
 case h_2=>cases h
 rename_i e' kk e11 e12;split at h
 case h_2=>cases h
 rename_i j' e13;split at h
 case h_2=>cases h
 rename_i e14;cases h;obtain⟨cal,args,ats⟩:=c;simp only at e4 e5 e6;have ha':args=#[s,x]:=by rw[<-iC (xs:=args),e5]
 have ht':ats=#[t,t']:=by rw[<-iC (xs:=ats),e6]
 subst ha'; subst ht'; subst e4;simp only[bJ]at e14;exact⟨s,x,t,t',i,i',kk,e1,e2,e3,e7,e8,e11,e12,e13,e9,e10,cP e14.1,cP e14.2.1,aZ e14.2.2⟩
theorem Hd(hG:cZ P E I){all l:List Oper}{op:Oper}{d e:Nat}{j:bV}{k:Int}{ts:List T}(h:Kw I all op st=some (d,e,j,k))(hts:nX j.zero ts)(hk0:0<=k)(hb:k.toNat*j.bytes<=140737488355328)
  (hn:cX I st d (.arr e j.size k.toNat (fun _=>ts)) (.own d)=some st')(hk:bY P E all Q l st'):bY P E all Q (op::l) st:=by
 obtain⟨s,x,t,t',i,i',kk,h1,h2,h3,h4,h5,h6,h7,h8,h9,h10,h11,h12,h13⟩:=Nt h;refine bW rfl h3 fun F g a w r=>?_;have hte:=(hG.ti _ _ h4).und;rw[h6]at hte;have hti:=(hG.ti _ _ h5).und;rw[h7]at hti;obtain⟨info,z,hi1,hi2,hi3,hi4,hi5⟩:=gH (hG.ti _ _ h8) (k.toNat*j.size) h13 h11;obtain⟨info',hi1',hi6,hi7,_⟩:=(hG.ti _ _ h8).info;rw[hi1]at hi1'; cases hi1';obtain⟨u,hu⟩:∃ u,a.eval s=u:=⟨_,rfl⟩;have hv:=aR r h9;rw[hu]at hv;cases hv;have hx:=(aR r h10).inv_int;have hm63:k.toNat<=140737488355328:=kG (qB k.toNat h12) hb;have hwr:IntKind.i64.wrap k=k:=by simp only[IntKind.wrap,IntKind.bits,IntKind.signed]; simp; omega
 have hzc:z.cells.size=j.size:=hi4
 suffices hmain:∃ u w',(Builtin.append_ #[t,t'] op.type #[a.eval s,a.eval x]).run P w = .ok u w'/\Rel E st' (a.put (some d) u) w' by obtain⟨u,w',e1,e2⟩:=hmain;exact⟨_,u,w',_,by unfold execOp; simp[h1,resolve,invoke,builtin,e1],.inl rfl,by rw[h2]; exact e2,hk⟩
 by_cases h0:k.toNat=0
 ·have hk00:k=0:=by omega
  subst hk00;have hrun:(Builtin.append_ #[t,t'] op.type #[a.eval s,a.eval x]).run P w = .ok (.slice none 0 0) w:=by rw[hu,hx];have e0:IntKind.i64.wrap 0=0:=hwr;clear hwr hx hu;simp[Builtin.append_,run_underlying hte,run_underlying hti,sizeOf,typeInfo,hi1,asInt,asIntOf,e0]
  refine⟨.slice none 0 0,w,hrun,?_⟩;unfold cX at hn;split at hn
  ·rename_i st1 g1 g2 g3;cases hn;have hd':d<E.nt:=by rw[hG.nt]; simpa[cB] using g1
   refine⟨F,upd g d (.slice none 0 0),r.putW hd' (fun b hb=>⟨hb,rfl⟩) (fun t y hy=>?_) ?_ (.own (aP ..))⟩
   ·obtain⟨e1,e2⟩:=St.erase_fr g3 t y hy;exact⟨e1,fun o ho=>aQ g _ (e2 o ho)⟩
   ·refine⟨HpR.change r.w.hp g3 (fun o ho=>aQ g _ ho) (fun b hb=>⟨hb,rfl⟩) (fun _ h=>h) (fun _ _ _ _ _ _=>rfl) (.inl ⟨aP ..,rfl⟩)
     (fun b hb=>by have hb:=hb.toBlk rfl; rw[aP]at hb; simp[blk]at hb) (fun o y b _ _ _ hb=>by have hb:=hb.toBlk rfl; rw[aP]at hb; simp[blk]at hb),r.w.f0,r.w.f1,r.w.ext,fun o ho=>?_,r.w.b0⟩
    rw[aQ g _ (fun e:o=d=>cI g2 (hG.N▸e▸ho))];exact r.w.names o ho
  ·cases hn
 ·have hb1:1<=k.toNat:=by omega
  have hneg:¬ k<0:=by omega
  have h48:¬ (281474976710656<k*(info.bytes:Int)):=by
   have:(k.toNat:Int)=k:=by omega
   rw[hi7,<-this];have h':((k.toNat*j.bytes:Nat):Int)<=((140737488355328:Nat):Int):=Int.ofNat_le.2 hb;rw[Int.natCast_mul]at h';generalize (k.toNat:Int)*(j.bytes:Int)=q at h' ⊢;omega
  have hsz0:¬ (k.toNat*j.size=0):=by
   intro h;rcases Nat.mul_eq_zero.1 h with h | h
   ·exact h0 h
   ·omega
  have h63:¬ (9223372036854775807<(k.toNat:Int)):=by omega
  have h60:¬ k<=0:=by omega
  have h61:¬ (9223372036854775807<max k 0):=by omega
  have h48':¬ (281474976710656<Builtin.nextslicecap k.toNat 0*info.bytes):=by rw[nextslicecap_zero hb1,hi7]; omega
  have hrun:(Builtin.append_ #[t,t'] op.type #[a.eval s,a.eval x]).run P w = .ok (.slice (some ⟨w.heap.size,0,none⟩) k.toNat (grownCap w k.toNat 0 e))
    (w.drew.alloc (.cells (Builtin.zeroCells z.cells k.toNat++Builtin.zeroCells z.cells (grownCap w k.toNat 0 e-k.toNat)) e)):=by
   rw[hu,hx];simp[Builtin.append_,run_underlying hte,run_underlying hti,sizeOf,typeInfo,zeroValue,hi1,hi2,asInt,asIntOf,hwr,hneg,h48,hsz0,h60,h61,h48',Question.forced,newRow,grownCap,Builtin.firstCells,hi6]
  have hcap:=grownCap_ge w k.toNat 0 e;have hcapm:=grownCap_le_maxLen w k.toNat 0 e (by simp only[maxLen]; omega);have hrel:Rel E st' (a.put (some d) (.slice (some ⟨w.heap.size,0,none⟩) k.toNat (grownCap w k.toNat 0 e))) (w.drew.alloc (.cells (Builtin.zeroCells z.cells k.toNat++Builtin.zeroCells z.cells (grownCap w k.toNat 0 e-k.toNat)) e)):=by
   refine iI hG.N hG.nt r hn rfl rfl rfl rfl rfl (fun g' _ hv=>?_) (fun g' hv=>.own hv);refine RowR.obj ⟨fun i hi=>by rw[hts.1,h13],fun i q y hi hy=>?_⟩ hv (heap_alloc_new w.drew _) hcap hcapm ?_
   ·have hq:q<j.size:=by rw[<-h13,<-hts.1]; exact(bZ.1 hy).1
    have hlt:i*j.size+q<k.toNat*j.size:=by have:(i+1)*j.size<=k.toNat*j.size:=dH _ hi;rw[dU,gL]at this;omega
    have hmod:(i*j.size+q) % j.size=q:=by rw[rC,Nat.mul_add_mod,Nat.mod_eq_of_lt hq]
    have hlz:q<z.cells.size:=by omega
    refine⟨z.cells[q],?_,?_⟩
    ·rw[hS (by simp only[size_zeroCells,hzc]; exact hlt)];simp only[Builtin.zeroCells,hzc,Al];rw[Bd];simp[hlt,hmod,hlz]
    ·have h2:=hi5 F g w (i*j.size+q) (j.zero[q]'(by omega)) z.cells[q] (by
      simp only[cQ,cR,h13];rw[List.getElem?_range hlt];simp[hmod,show q<j.zero.length by omega]) (by
      simp only[Al,hzc];rw[Bd];simp[hlt,hmod,hlz])
     have h3:=hts.2 q (j.zero[q]'(by omega)) y (by simp[show q<j.zero.length by omega]) hy _ _ _ _ h2;have hh:∀ b,F b->F b/\(w.drew.alloc (.cells (Builtin.zeroCells z.cells k.toNat++Builtin.zeroCells z.cells (grownCap w k.toNat 0 e-k.toNat)) e)).heap[b]? = w.heap[b]?:=fun b hb=>⟨hb,heap_alloc_old w.drew _ (r.w.f1 b hb).1⟩;exact(h3.cells_t rfl).mono hh
   ·simp only[gP,size_zeroCells,hzc,<-dU]
    congr 1; omega
  exact⟨_,_,hrun,hrel⟩
theorem Ma{all:List Oper}{op:Oper}{d e:Nat}{j:bV}{lv cv:Int}(h:Lj I all op st=some (d,e,j,lv,cv)):
  ∃ t l c i,op.op = .makeSlice t l c/\op.dst=some d/\aU all op st=some true/\I.ti t=some i/\i.und = .sl e/\I.ti e=some j /\
   ev st l=some (.t (.int .i64 lv))/\ev st c=some (.t (.int .i64 cv))/\1<=j.size/\1<=j.bytes/\j.zero.length=j.size:=by
 unfold Lj at h;split at h
 case h_2=>cases h
 rename_i t l c d' e1 e2 e3;split at h
 case h_2=>cases h
 rename_i i lv' cv' e4 e5 e6;split at h
 case h_2=>cases h
 rename_i e' e7;split at h
 case h_2=>cases h
 rename_i j' e8;split at h
 case h_2=>cases h
 rename_i e9;cases h;simp only[bJ]at e9;exact⟨t,l,c,i,e1,e2,e3,e4,e7,e8,e5,e6,cP e9.1,cP e9.2.1,aZ e9.2.2⟩
theorem Jf(hG:cZ P E I){all l:List Oper}{op:Oper}{d e:Nat}{j:bV}{lv cv:Int}{ts:List T}(h:Lj I all op st=some (d,e,j,lv,cv))(hts:nX j.zero ts)(hk0:0<=lv/\lv<=cv)(hb:cv.toNat*j.bytes<=140737488355328)
  (hn:cX I st d (.arr e j.size lv.toNat (fun _=>ts)) (.own d)=some st')(hk:bY P E all Q l st'):bY P E all Q (op::l) st:=by
 obtain⟨t,lo,co,i,h1,h2,h3,h4,h6,h8,h9,h10,h11,h12,h13⟩:=Ma h;refine bW rfl h3 fun F g a w r=>?_;have hte:=(hG.ti _ _ h4).und;rw[h6]at hte;obtain⟨info,z,hi1,hi2,hi3,hi4,hi5⟩:=gH (hG.ti _ _ h8) (lv.toNat*j.size) h13 h11;obtain⟨info',hi1',hi6,hi7,_⟩:=(hG.ti _ _ h8).info;rw[hi1]at hi1'; cases hi1';have hx:=(aR r h9).inv_int;have hy:=(aR r h10).inv_int;have hm63:cv.toNat<=140737488355328:=kG (qB cv.toNat h12) hb;have wl:IntKind.i64.wrap lv=lv:=by simp only[IntKind.wrap,IntKind.bits,IntKind.signed]; simp; omega
 have wc:IntKind.i64.wrap cv=cv:=by simp only[IntKind.wrap,IntKind.bits,IntKind.signed]; simp; omega
 have hzc:z.cells.size=j.size:=hi4;have n1:¬ cv<0:=by omega
 have n2:¬ (281474976710656<(info.bytes:Int)*cv):=by
  have:(cv.toNat:Int)=cv:=by omega
  rw[hi7,<-this,Int.mul_comm];have h':((cv.toNat*j.bytes:Nat):Int)<=((140737488355328:Nat):Int):=Int.ofNat_le.2 hb;rw[Int.natCast_mul]at h';generalize (cv.toNat:Int)*(j.bytes:Int)=q at h' ⊢;omega
 have n3:¬ lv<0:=by omega
 have n4:¬ cv<lv:=by omega
 have n5:¬ (140737488355328<cv.toNat*info.bytes):=by rw[hi7]; omega
 have hcap:lv.toNat<=cv.toNat:=by omega
 have hrun:(Instr.makeSlice t (.int .i64 lv) (.int .i64 cv)).run P w = .ok (.slice (some ⟨w.heap.size,0,none⟩) lv.toNat cv.toNat)
   (w.alloc (.cells ((Array.range (cv.toNat*j.size)).map fun q=>z.cells[q % j.size]!) e)):=by
  by_cases hz0:cv.toNat*j.size=0
  ·have hz1:cv.toNat*info.size=0:=by rw[hi6]; exact hz0
   simp[Instr.makeSlice,run_underlying hte,asInt,asIntOf,typeInfo,hi1,sizeOf,wl,wc,n1,n2,n3,n4,hz1,hz0,newRow,askRoom,roomBytes];have e0:∀ f:Nat->Value,(Array.range 0).map f=#[]:=fun f=>rO (by simp);rw[e0,e0]
  ·have hz1:¬ cv.toNat*info.size=0:=by rw[hi6]; exact hz0
   simp[Instr.makeSlice,run_underlying hte,asInt,asIntOf,typeInfo,hi1,sizeOf,zeroValue,hi2,wl,wc,n1,n2,n3,n4,hz0,newRow,askRoom,roomBytes,hi6,hzc]
 suffices hrel:Rel E st' (a.put (some d) (.slice (some ⟨w.heap.size,0,none⟩) lv.toNat cv.toNat)) (w.alloc (.cells ((Array.range (cv.toNat*j.size)).map fun q=>z.cells[q % j.size]!) e)) by exact⟨_,.slice (some ⟨w.heap.size,0,none⟩) lv.toNat cv.toNat,w.alloc (.cells ((Array.range (cv.toNat*j.size)).map fun q=>z.cells[q % j.size]!) e),_,by unfold execOp; simp[h1,hx,hy,hrun],.inl rfl,by rw[h2]; exact hrel,hk⟩
 refine iI hG.N hG.nt r hn rfl rfl rfl rfl rfl (fun g' _ hv=>?_) (fun g' hv=>.own hv);refine RowR.obj ⟨fun i hi=>by rw[hts.1,h13],fun i q y hi hy'=>?_⟩ hv (heap_alloc_new w _) hcap (by simp only[maxLen]; omega) (by simp);have hq:q<j.size:=by rw[<-h13,<-hts.1]; exact(bZ.1 hy').1
 have hlt:i*j.size+q<lv.toNat*j.size:=by have:(i+1)*j.size<=lv.toNat*j.size:=dH _ hi;rw[dU,gL]at this;omega
 have hlt':i*j.size+q<cv.toNat*j.size:=zW hlt (dH _ hcap);have hmod:(i*j.size+q) % j.size=q:=by rw[rC,Nat.mul_add_mod,Nat.mod_eq_of_lt hq]
 have hlz:q<z.cells.size:=by omega
 refine⟨z.cells[q],?_,?_⟩
 ·simp only[Al];rw[Bd];simp[hlt',hmod,hlz]
 ·have h2:=hi5 F g w (i*j.size+q) (j.zero[q]'(by omega)) z.cells[q] (by
   simp only[cQ,cR,h13];rw[List.getElem?_range hlt];simp[hmod,show q<j.zero.length by omega]) (by
   simp only[Al,hzc];rw[Bd];simp[hlt,hmod,hlz])
  have h3:=hts.2 q (j.zero[q]'(by omega)) y (by simp[show q<j.zero.length by omega]) hy' _ _ _ _ h2;have hh:∀ b,F b->F b/\(w.alloc (.cells ((Array.range (cv.toNat*j.size)).map fun q=>z.cells[q % j.size]!) e)).heap[b]? = w.heap[b]?:=fun b hb=>⟨hb,heap_alloc_old w _ (r.w.f1 b hb).1⟩;exact(h3.cells_t rfl).mono hh
theorem Ii(hG:cZ P E I){all l:List Oper}{op:Oper}{t d e:Nat}{i:bV}{st1:St}(hop:op.op = .alloc t)(hd:op.dst=some d)(hw:aU all op st=some true)(hnt:Nat.blt d I.nt=true)(hn:jN d I.N=true)
  (hi:I.ti t=some i)(hz:i.zero=[.np,.nil])(he:st.erase d=some st1)(hk:bY P E all Q l ({ st1 with hp:=(d,.bld t e ⟨#[]⟩)::st1.hp }.put d (.ptr d 0))):bY P E all Q (op::l) st:=by
 refine bW rfl hw fun F g a w r=>?_;have hd':d<E.nt:=by rw[hG.nt]; simpa[cB] using hnt
 obtain⟨info,z,h1,h2,h3,h4⟩:=iS (F:=F) (g:=g) (w:=w) (hG.ti _ _ hi);rw[hz]at h3 h4;have h3:z.cells.size=2:=h3;have hc:z.cells=#[.pointer none,.slice none 0 0]:=by
  have e0:z.cells[0]'(by omega) = .pointer none:=by have:=h4 0 .np (z.cells[0]'(by omega)) rfl (by simp);generalize z.cells[0]'(by omega)=u at this;cases this; rfl
  have e1:z.cells[1]'(by omega) = .slice none 0 0:=by have:=h4 1 .nil (z.cells[1]'(by omega)) rfl (by simp);generalize z.cells[1]'(by omega)=u at this;cases this; rfl
  apply Array.ext
  ·simp[h3]
  ·intro q hq _
   match q,hq with
   | 0,_=>simpa using e0
   | 1,_=>simpa using e1
   | q+2,hq=>omega
 have hnew:(w.alloc (.cells z.cells t)).heap[w.heap.size]? = some (.cells z.cells t (0,0)):=heap_alloc_new w _;rw[hc]at hnew;obtain⟨g',hg'⟩:=r.allocF (x:=.bld t e ⟨#[]⟩) (v:=.pointer (some ⟨w.heap.size,0,none⟩)) (w':=w.alloc (.cells z.cells t)) (ob:=.cells z.cells t (0,0)) hd' (by rw[hG.N]; exact cI hn) he rfl rfl rfl rfl rfl
  (fun g' b hg hb=>by
   cases hb with
   | self h=>rw[hg]at h; exact h
   | bld k1 k2 k3=>rw[hg]at k1; injection k1 with k1; injection k1 with k1; injection k1 with k1; subst k1;rw[hc,hnew]at k2; injection k2 with k2; injection k2 with k2; injection k2 with k2; injection k2 with k2 k4; injection k4 with k4; subst k4;simp[blk]at k3)
  (fun g' _ hg=>⟨w.heap.size,.pointer none,.slice none 0 0,hg,by rw[hc]; exact hnew,.inl rfl,.inl ⟨rfl,rfl⟩⟩)
  (.ptr d 0) (fun g' hg=>.ptr hg)
 have hex:(Instr.alloc t true (.tuple #[])).run P w = .ok (.pointer (some ⟨w.heap.size,0,none⟩)) (w.alloc (.cells z.cells t)):=by simp[Instr.alloc,dW h1 h2,newVar,newRow]
 exact⟨_,.pointer (some ⟨w.heap.size,0,none⟩),w.alloc (.cells z.cells t),_,by unfold execOp; simp[hop,hex],.inl rfl,by rw[hd]; exact⟨F,g',hg'⟩,hk⟩
end
section
variable {P:Program} {E:Env} {I:Inf}
theorem yX{st:St}{t:Nat}{x y:PV}(h:look st.fr t=some x)(hx:∀ F g w v,VR F g w x v->VR F g w y v):Le E st { st with fr:=(t,y)::del t st.fr }:=fun _ _ r=>r.slot h hx
theorem xM{α:Type}:∀ (l:List (Nat×α)) (xs:List α),(l.foldl (fun xs p=>xs.set p.1 p.2) xs).length=xs.length
 | [],xs=>rfl
 | p::l,xs=>by simp only[mJ]; rw[xM l]; simp
theorem oO{α:Type}(c:α->List T):∀ (l:List (Nat×α)) {f g:Nat->List T},(∀ q,f q=g q)->∀ q,l.foldl (fun f p=>kI f p.1 (c p.2)) f q=l.foldl (fun f p=>kI f p.1 (c p.2)) g q
 | [],_,_,h,q=>h q
 | p::l,f,g,h,q=>by simp only[mJ];exact oO c l (fun q=>by simp only[kI]; rw[h q]) q
theorem wU{α:Type}[Inhabited α](c:α->List T):∀ (l:List (Nat×α)) (xs:List α),(l.all fun p=>decide (p.1<xs.length))=true->∀ q,l.foldl (fun f p=>kI f p.1 (c p.2)) (eF c xs) q=eF c (l.foldl (fun xs p=>xs.set p.1 p.2) xs) q
 | [],xs,_,q=>rfl
 | p::l,xs,h,q=>by
  simp only[rR,bJ,tA]at h;simp only[mJ];rw[<-wU c l (xs.set p.1 p.2) (by simpa using h.2) q];refine oO c l (fun q=>?_) q;simp only[kI,eF];split
  ·rename_i e; subst e; simp[h.1]
  ·rename_i e; rw[bO,bO,lK,aT (fun e'=>e e'.symm)]
theorem sR{t:Nat}{j:bV}(h:vL I t=some j):∃ i e,I.ti t=some i/\i.und = .sl e/\I.ti e=some j:=by
 unfold vL at h;split at h
 ·rename_i i hi;split at h
  ·rename_i e he; exact⟨i,e,hi,he,h⟩
  ·cases h
 ·cases h
theorem Tr.sound(hG:cZ P E I){Y:Type}(t:Tr P Y):∀ {lt lf:Y->Exit->St->VT} {acc:Acc} {g:Cfg} {st:St} {Q:dQ} {R:Y->Prop},Vk P acc->chk P I true t lt acc g st=chk P I false t lf acc g st->t.wpT R ->
  (∀ y e s,R y->lt y e s=lf y e s->∃ u,Le E s u/\Q e u)->cwp P E g Q st:=by
 induction t with
 | ret n y=>
  intro lt lf acc g st Q R ha h hw hl;rcases hr:run I n g st with _ | ⟨g',st',C,fs⟩
  ·simp only[chk,hr]at h; exact(aA h).elim
  ·cases g' with
   | x e ks=>
    cases ks with
    | nil=>simp only[chk,hr]at h;obtain⟨h1,h2⟩:=aB h;obtain⟨hC,hf⟩:=bD h1 trivial;exact bM hG hr hC hf (hl y e st' hw h2)
    | cons=>simp only[chk,hr]at h; exact(aA h).elim
   | _=>simp only[chk,hr]at h; exact(aA h).elim
 | ite n c t e iht ihe=>
  intro lt lf acc g st Q R ha h hw hl;have hw1:c=true->t.wpT R:=fun hc=>by simp only[Tr.wpT,hc,if_true]at hw; exact hw
  have hw0:c=false->e.wpT R:=fun hc=>by simp only[Tr.wpT,hc]at hw; exact hw
  rcases hr:run I n g st with _ | ⟨g',st',C,fs⟩
  ·simp only[chk,hr]at h; exact(aA h).elim
  ·cases g' with
   | c x ks=>
    cases x with
    | cond o u v=>simp only[chk,hr]at h;obtain⟨h1,h2⟩:=aB h;obtain⟨h3,h4⟩:=aB h2;obtain⟨h5,h6⟩:=aB h4;obtain⟨hC,hf⟩:=bD h1 trivial;exact bM hG hr hC hf (rI (aI h3) (fun hc=>iht ha h5 (hw1 hc) hl) (fun hc=>ihe ha h6 (hw0 hc) hl))
    | _=>simp only[chk,hr]at h; exact(aA h).elim
   | o all l ks=>
    cases l with
    | nil=>simp only[chk,hr]at h; exact(aA h).elim
    | cons op l=>
     simp only[chk,hr]at h;cases hg:Fc all op with
     | none=>rw[hg]at h; exact(aA h).elim
     | some d=>rw[hg]at h;obtain⟨h1,h2⟩:=aB h;obtain⟨h3,h4⟩:=aB h2;obtain⟨h5,h6⟩:=aB h4;obtain⟨hC,hf⟩:=bD h1 trivial;exact bM hG hr hC hf (Dc (aI h3) (fun hc=>iht ha h5 (hw1 hc) hl) (fun hc=>ihe ha h6 (hw0 hc) hl))
   | x=>simp only[chk,hr]at h; exact(aA h).elim
 | grd n p t ih=>
  intro lt lf acc g st Q R ha h hw hl;rcases hr:run I n g st with _ | ⟨g',st',C,fs⟩
  ·simp only[chk,hr]at h; exact(aA h).elim
  ·simp only[chk,hr]at h;obtain⟨h1,h2⟩:=aB h;obtain⟨hC,hf⟩:=bD h1 hw.1;exact bM hG hr hC hf (ih ha h2 hw.2 hl)
 | gd n p hp t ih=>
  intro lt lf acc g st Q R ha h hw hl;rcases hr:run I n g st with _ | ⟨g',st',C,fs⟩
  ·simp only[chk,hr]at h; exact(aA h).elim
  ·simp only[chk,hr]at h;obtain⟨h1,h2⟩:=aB h;obtain⟨hC,hf⟩:=bD h1 hp;exact bM hG hr hC hf (ih ha h2 hw hl)
 | cv n l t ih=>
  intro lt lf acc g st Q R ha h hw hl;rcases hr:run I n g st with _ | ⟨g',st',C,fs⟩
  ·simp only[chk,hr]at h; exact(aA h).elim
  ·simp only[chk,hr]at h;obtain⟨h1,h2⟩:=aB h;obtain⟨h3,h4⟩:=aB h2;obtain⟨hC,hf⟩:=bD h1 trivial;cases hc:cvL I l st' with
   | none=>rw[hc]at h4; exact(aA h4).elim
   | some st''=>rw[hc]at h4;exact bM hG hr hC hf (gN (Id hG h3 hc) (ih ha h4 hw hl))
 | no=>intro lt lf acc g st Q R ha h hw hl; exact hw.elim
 | @foc Y α inh n o q i j c xs t ih=>
  intro lt lf acc g st Q R ha h hw hl;rcases hr:run I n g st with _ | ⟨g',st',C,fs⟩
  ·simp only[chk,hr]at h; exact(aA h).elim
  ·simp only[chk,hr]at h;obtain⟨h1,h2⟩:=aB h;obtain⟨hC,hf⟩:=bD h1 trivial;split at h2
   ·rename_i e s n' f hlk;obtain⟨h3,h4⟩:=aB h2;have h3:=aI h3;cases h3;split at h4
    ·rename_i e' s' m f' hx;split at h4
     ·rename_i s2 hs;exact bM hG hr hC hf (gN (fun _ _ r=>Rel.armFocus hG.N hlk hw.1 hx hs r) (ih ha h4 hw.2 hl))
     ·exact(aA h4).elim
    ·exact(aA h4).elim
   ·exact(aA h2).elim
 | @ca Y R' n k bps x ret hcon B ih=>
  intro lt lf acc g st Q R ha h hw hl;rcases hr:run I n g st with _ | ⟨g',st',C,fs⟩
  ·simp only[chk,hr]at h; exact(aA h).elim
  ·cases g' with
   | o all l ks=>
    cases l with
    | nil=>simp only[chk,hr]at h; exact(aA h).elim
    | cons op l=>
     simp only[chk,hr]at h;rcases hc:oM I all op st' with _ | ⟨d,k',as⟩
     ·rw[hc]at h; exact(aA h).elim
     ·rw[hc]at h;obtain⟨h1,h2⟩:=aB h;obtain⟨h3,h4⟩:=aB h2;obtain⟨h5,h6⟩:=aB h4;obtain⟨hC,hf⟩:=bD h1 trivial;have h3:=aI h3;subst h3;obtain⟨c,f,nf,caps,aps,e1,e2,e3,e4,e5,e6,e7,rfl⟩:=rH hc;obtain⟨r,hx,hB⟩:=hw;obtain⟨h7,h8⟩:=aB (fN h6 r);have h7:=aI h7;have h5:=vM h5;obtain⟨L,hL⟩:∃ L,L=fB (List.take nf caps++aps++List.drop nf caps) bps:=⟨_,rfl⟩;rw[<-hL]at h5 h7;refine bM hG hr hC hf (sY hG L rfl e1 e2 e3 e4 e5 e6 e7 hcon.c h5 (hcon.h r hx) fun r' H' hr'=>?_);unfold Ret at hr'; subst hr';exact⟨by cases L <;> exact h7,ih r ha h8 hB hl⟩
   | _=>simp only[chk,hr]at h; exact(aA h).elim
 | @cas Y n k bps x ret hcon m B ih=>
  intro lt lf acc g st Q R ha h hw hl;rcases hr:run I n g st with _ | ⟨g',st',C,fs⟩
  ·simp only[chk,hr]at h; exact(aA h).elim
  ·cases g' with
   | o all l ks=>
    cases l with
    | nil=>simp only[chk,hr]at h; exact(aA h).elim
    | cons op l=>
     simp only[chk,hr]at h;rcases hc:oM I all op st' with _ | ⟨d,k',as⟩
     ·rw[hc]at h; exact(aA h).elim
     ·rw[hc]at h;obtain⟨h1,h2⟩:=aB h;obtain⟨h3,h4⟩:=aB h2;obtain⟨h5,h6⟩:=aB h4;obtain⟨hC,hf⟩:=bD h1 trivial;have h3:=aI h3;subst h3;obtain⟨c,f,nf,caps,aps,e1,e2,e3,e4,e5,e6,e7,rfl⟩:=rH hc;obtain⟨r,hx,hm,hB⟩:=hw;have key:∀ m,r<m->Nat.rec (motive:=fun _=>VT) .ok (fun r acc'=>VT.and (.and (vt true (rQ (fB (List.take nf caps++aps++List.drop nf caps) bps) (ret r)) true) (chk P I true (B r) lt acc (.o all l ks) (st'.put d (ret r)))) acc') m =
        Nat.rec (motive:=fun _=>VT) .ok (fun r acc'=>VT.and (.and (vt false (rQ (fB (List.take nf caps++aps++List.drop nf caps) bps) (ret r)) true) (chk P I false (B r) lf acc (.o all l ks) (st'.put d (ret r)))) acc') m ->
        rQ (fB (List.take nf caps++aps++List.drop nf caps) bps) (ret r)=true/\chk P I true (B r) lt acc (.o all l ks) (st'.put d (ret r))=chk P I false (B r) lf acc (.o all l ks) (st'.put d (ret r)):=by
       intro m
       induction m with
       | zero=>intro hm; omega
       | succ m ihm=>
        intro hm he;obtain⟨a1,a2⟩:=aB he;by_cases hrm:r=m
        ·subst hrm;obtain⟨a3,a4⟩:=aB a1;exact⟨aI a3,a4⟩
        ·exact ihm (by omega) a2
      obtain⟨h7,h8⟩:=key m hm h6;have h5:=vM h5;obtain⟨L,hL⟩:∃ L,L=fB (List.take nf caps++aps++List.drop nf caps) bps:=⟨_,rfl⟩;rw[<-hL]at h5 h7;refine bM hG hr hC hf (sY hG L rfl e1 e2 e3 e4 e5 e6 e7 hcon.c h5 (hcon.h r hx) fun r' H' hr'=>?_);unfold Ret at hr'; subst hr';exact⟨by cases L <;> exact h7,ih r ha h8 hB hl⟩
   | _=>simp only[chk,hr]at h; exact(aA h).elim
 | @ch Y R' cur n k bps Hs N x ret Ht nw hcon B ih=>
  intro lt lf acc g st Q R ha h hw hl;rcases hr:run I n g st with _ | ⟨g',st',C,fs⟩
  ·simp only[chk,hr]at h; exact(aA h).elim
  ·cases g' with
   | o all l ks=>
    cases l with
    | nil=>simp only[chk,hr]at h; exact(aA h).elim
    | cons op l=>
     simp only[chk,hr]at h;rcases hc:oM I all op st' with _ | ⟨d,k',as⟩
     ·rw[hc]at h; exact(aA h).elim
     ·rw[hc]at h;obtain⟨h1,h2⟩:=aB h;obtain⟨h3,h4⟩:=aB h2;obtain⟨h5,h6⟩:=aB h4;obtain⟨h7,h8⟩:=aB h6;obtain⟨h9,h10⟩:=aB h8;obtain⟨hC,hf⟩:=bD h1 trivial;have h3:=aI h3;subst h3;obtain⟨c,f,nf,caps,aps,e1,e2,e3,e4,e5,e6,e7,rfl⟩:=rH hc;obtain⟨r,hx,hB⟩:=hw;obtain⟨h11,h12⟩:=aB (cur.ok _ _ h10 r);refine bM hG hr hC hf (xY hG (bU Hs) N nw rfl e1 e2 e3 e4 e5 e6 e7 hcon.c (jK h5 _) (aI h7) (aI h9) (hcon.h r hx) fun r' H' hr'=>?_);unfold mB at hr'; obtain⟨rfl,rfl⟩:=hr';exact⟨aI h11,ih r ha h12 hB hl⟩
   | _=>simp only[chk,hr]at h; exact(aA h).elim
 | @jn Y S cur n m tm A B ihA ihB=>
  intro lt lf acc g st Q R ha h hw hl;rcases hr:run I n g st with _ | ⟨g',st',C,fs⟩
  ·simp only[chk,hr]at h; exact(aA h).elim
  ·simp only[chk,hr]at h;obtain⟨h1,h2⟩:=aB h;obtain⟨h3,h4⟩:=aB h2;obtain⟨hC,hf⟩:=bD h1 trivial;refine bM hG hr hC hf ?_;have hA:cwp P E (Ha m g') (fun e s=>e = .normal/\∃ v,(B v).wpT R/\Le E s (tm v)) st':=ihA ⟨.nil,.nil,.nil⟩ h3 hw fun v e s hv hk=>⟨s,.refl,(jH (E:=E) hk).1,v,hv,(jH hk).2⟩;refine Fx hA fun e s he=>?_;obtain⟨rfl,v,hv,hle⟩:=he;obtain⟨u,hu,hq⟩:=ihB v ha (cur.ok _ _ h4 v) hv hl;exact⟨u,hle.trans hu,hq⟩
 | @pc Y S cur n m tm A B ihA ihB=>
  intro lt lf acc g st Q R ha h hw hl;rcases hr:run I n g st with _ | ⟨g',st',C,fs⟩
  ·simp only[chk,hr]at h; exact(aA h).elim
  ·simp only[chk,hr]at h;obtain⟨h1,h2⟩:=aB h;obtain⟨h3,h4⟩:=aB h2;obtain⟨hC,hf⟩:=bD h1 trivial;refine bM hG hr hC hf ?_;have hA:cwp P E (Ha m g') (fun e s=>(e = .normal/\∃ v,(B v).wpT R/\Le E s (tm v))\/∃ t,Le E s t/\kQ P E (xA m g') Q e t) st':=ihA ⟨.nil,.nil,.nil⟩ h3 hw fun z e s hz hk=>by
    cases z with
    | inl v=>exact⟨s,.refl,.inl ⟨(jH (E:=E) hk).1,v,hz,(jH hk).2⟩⟩
    | inr y=>exact⟨s,.refl,.inr (tP (P:=P) (E:=E) (Q:=Q) hk fun e s he=>hl y e s hz he).2⟩
   refine Fx hA fun e s he=>?_;rcases he with⟨rfl,v,hv,hle⟩ | he
   ·obtain⟨u,hu,hq⟩:=ihB v ha (cur.ok _ _ h4 v) hv hl;exact⟨u,hle.trans hu,hq⟩
   ·exact he
 | @lp Y S R' curS curR n tm bt ex s0 L B ihL ihB=>
  intro lt lf acc g st Q R ha h hw hl;rcases hr:run I n g st with _ | ⟨g',st',C,fs⟩
  ·simp only[chk,hr]at h; exact(aA h).elim
  ·cases g' with
   | c c ks=>
    cases c with
    | loop c=>
     simp only[chk,hr]at h;obtain⟨h1,h2⟩:=aB h;obtain⟨h3,h4⟩:=aB h2;obtain⟨h5,h6⟩:=aB h4;obtain⟨hC,hf⟩:=bD h1 trivial;refine bM hG hr hC hf ?_;refine gN (vD (aI h3)) ?_;refine Dl (Out:=fun (z:R'⊕Y) e s=>match z with | .inl r=>e = .exit ex/\Le E s (bt r) | .inr y=>R y->∃ t,Le E s t/\kQ P E ks Q e t) (fun s Z hZ=>?_) hw fun z e s hz ho=>?_
     ·refine uD (ihL s ⟨.nil,.nil,.nil⟩ (curS.ok _ _ h5 s) hZ (Q:=fun e st=>∃ z,Z z/\Fe E tm (fun (z:R'⊕Y) e s=>match z with | .inl r=>e = .exit ex/\Le E s (bt r) | .inr y=>R y->∃ t,Le E s t/\kQ P E ks Q e t) z e st) fun z e s hz hk=>?_) fun e s he=>⟨s,.refl,he⟩
      cases z with
      | inl v=>exact⟨s,.refl,_,hz,(jH (E:=E) hk).1,(jH hk).2⟩
      | inr z=>
       cases z with
       | inl r=>obtain⟨he,hle⟩:=Mc (E:=E) (bt:=bt) (ex:=ex) (r:=r) hk;exact⟨s,.refl,_,hz,by rw[he]; simp,he,hle⟩
       | inr y=>
        have hk:mR true lt ks y e s=mR false lf ks y e s:=hk;have hne:e ≠ .normal:=by rintro rfl; exact aA hk
        exact⟨s,.refl,_,hz,hne,fun hy=>(tP (P:=P) (E:=E) (Q:=Q) hk fun e s he=>hl y e s hy he).2⟩
     ·cases z with
      | inl r=>obtain⟨rfl,hle⟩:=ho;obtain⟨u,hu,hq⟩:=ihB r ha (curR.ok _ _ h6 r) hz hl;exact⟨u,hle.trans hu,hq⟩
      | inr y=>exact ho hz
    | _=>simp only[chk,hr]at h; exact(aA h).elim
   | _=>simp only[chk,hr]at h; exact(aA h).elim
 | sp n t r m a e iha ihe=>
  intro lt lf acc g st Q R ha h hw hl;rcases hr:run I n g st with _ | ⟨g',st',C,fs⟩
  ·simp only[chk,hr]at h; exact(aA h).elim
  ·simp only[chk,hr]at h;obtain⟨h1,h2⟩:=aB h;obtain⟨h3,h4⟩:=aB h2;obtain⟨h5,h6⟩:=aB h4;obtain⟨hC,hf⟩:=bD h1 trivial;refine bM hG hr hC hf ?_;have h3:=aI h3;by_cases hrm:r=m
   ·subst hrm;refine gN (yX h3 fun _ _ _ _ h=>h) (iha ha h5 ?_ hl);simpa only[Tr.wpT,if_true] using hw
   ·refine ihe ha h6 ?_ hl;simpa only[Tr.wpT,aT hrm] using hw
 | slc n t c xs lo hi k ih=>
  intro lt lf acc g st Q R ha h hw hl;rcases hr:run I n g st with _ | ⟨g',st',C,fs⟩
  ·simp only[chk,hr]at h; exact(aA h).elim
  ·simp only[chk,hr]at h;obtain⟨h1,h2⟩:=aB h;obtain⟨h3,h4⟩:=aB h2;have hCf:All C/\∀ f,f∈fs->∀ i,f i=true:=by
    cases n with
    | zero=>exact bD h1 trivial
    | succ n=>exact bD h1 hw.1
   obtain⟨hC,hf⟩:=hCf;exact bM hG hr hC hf (gN (yX (aI h3) (rY hw.1 rfl)) (ih ha h4 hw.2 hl))
 | sto n o c xs l k ih=>
  intro lt lf acc g st Q R ha h hw hl;rcases hr:run I n g st with _ | ⟨g',st',C,fs⟩
  ·simp only[chk,hr]at h; exact(aA h).elim
  ·simp only[chk,hr]at h;rcases hx:look st'.hp o with _ | x
   ·rw[hx]at h; exact(aA h).elim
   ·rw[hx]at h;cases x with
    | arr e s n' f=>simp only at h;obtain⟨h1,h2⟩:=aB h;obtain⟨h3,h4⟩:=aB h2;obtain⟨hC,hf⟩:=bD h1 trivial;have h3:=aI h3;cases h3;refine bM hG hr hC hf (gN (Le.obj _ hx (fun _ _ _=>bL.row (xM l xs).symm fun q _=>wU c l xs hw.1 q) rfl) (ih ha h4 hw.2 hl))
    | _=>exact(aA h).elim
 | cut n c xs hi k ih=>
  intro lt lf acc g st Q R ha h hw hl;rcases hr:run I n g st with _ | ⟨g',st',C,fs⟩
  ·simp only[chk,hr]at h; exact(aA h).elim
  ·cases g' with
   | o all l ks=>
    cases l with
    | nil=>simp only[chk,hr]at h; exact(aA h).elim
    | cons op l=>
     simp only[chk,hr]at h;split at h
     case h_2=>exact(aA h).elim
     rename_i t x lo hx d e1 e2 e3;split at h
     case h_2=>exact(aA h).elim
     rename_i q e4;split at h
     case h_2=>exact(aA h).elim
     rename_i e s n' f st1 j e5 e6 e7;split at h
     case h_2=>exact(aA h).elim
     rename_i s2 e8;obtain⟨h1,h2⟩:=aB h;obtain⟨h3,h4⟩:=aB h2;obtain⟨h5,h6⟩:=aB h4;obtain⟨h7,h8⟩:=aB h6;obtain⟨hC,hf⟩:=bD h1 trivial;have h3:=aI h3;cases h3;obtain⟨i,e',e9,e10,e11⟩:=sR e7;have hlk:look s2.hp d=some (.arr e s hi.toNat (eF c xs)):=by
      unfold cX at e8;split at e8
      ·cases e8; simp[St.put,look]
      ·cases e8
     have hle:hi.toNat<=xs.length:=by have:=hw.1; omega
     refine bM hG hr hC hf (Gz hG rfl e1 e2 e3 e4 e5 (aI h5) (aI h7) e9 e10 e11 hw.1 e6 e8 (cT (Le.obj _ hlk (fun _ _ _=>bL.row (by simp; omega) fun q hq=>?_) rfl) (ih ha h8 hw.2 hl)));simp only[eF];rw[bO,bO,dZ,aH hq]
   | _=>simp only[chk,hr]at h; exact(aA h).elim
 | @clr Y α inst n c xs lo k ih=>
  intro lt lf acc g st Q R ha h hw hl;rcases hr:run I n g st with _ | ⟨g',st',C,fs⟩
  ·simp only[chk,hr]at h; exact(aA h).elim
  ·cases g' with
   | o all l ks=>
    cases l with
    | nil=>simp only[chk,hr]at h; exact(aA h).elim
    | cons o1 l=>
     cases l with
     | nil=>simp only[chk,hr]at h; exact(aA h).elim
     | cons o2 l=>
      simp only[chk,hr]at h;split at h
      case h_2=>exact(aA h).elim
      rename_i t x lx d cl e1 e2 e3 e4 e5 e6;split at h
      case h_2=>exact(aA h).elim
      rename_i d' t2 e7 e8 e9;split at h
      case h_2=>exact(aA h).elim
      rename_i q j e10 e11 e12;split at h
      case h_2=>exact(aA h).elim
      rename_i e s n' f e13;obtain⟨h1,h2⟩:=aB h;obtain⟨h3,h4⟩:=aB h2;obtain⟨h5,h6⟩:=aB h4;obtain⟨h7,h8⟩:=aB h6;obtain⟨h9,h10⟩:=aB h8;obtain⟨h11,h12⟩:=aB h10;obtain⟨hC,hf⟩:=bD h1 trivial;have h3:=aI h3;cases h3;have h7:=aI h7;injection h7 with h7 h7';subst h7;have h9:=aI h9;injection h9 with h13 h9;injection h9 with h14 h9;injection h9 with h15 h16;obtain⟨i,e',e14,e15,e16⟩:=sR e11;have himp:nX j.zero (c default):=(cO h11).get;refine bM hG hr hC hf (Gv hG rfl e1 e2 e3 e4 e7 (vK e8) e9 h7' e5 e6 e12 e10 e13 (aI h5) e14 e15 e16 h13 (cP h14) (aZ h15) h16 himp hw.1 ?_);have hle:lo.toNat<=xs.length:=by have:=hw.1; omega
      have hlk:look ((({ st' with hp:=(q,.arr e s xs.length (uN (eF c xs) lo.toNat (c default)))::del q st'.hp }:St).put d' .any).hp) q=some (.arr e s xs.length (uN (eF c xs) lo.toNat (c default))):=by simp[St.put,look]
      refine cT (Le.trans (Le.obj (.arr e s (xs.take lo.toNat++List.replicate (xs.length-lo.toNat) default).length (eF c (xs.take lo.toNat++List.replicate (xs.length-lo.toNat) default))) hlk (fun _ _ _=>bL.row (by simp; omega) fun q hq=>?_) rfl) ?_) (ih ha h12 hw.2 hl)
      ·simp only[uN,eF];rw[bO,bO];split
       ·rename_i hq'; rw[dB (by simp; omega),dZ,aH hq']
       ·rename_i hq';rw[dF (by simp; omega),qY,aH (by simp; omega)];rfl
      ·refine fun a w r=>r.sub (fun e he=>he) (fun e he=>?_);simp only[St.put]at he ⊢;rcases aL.1 he with rfl | he
       ·exact bT ..
       ·refine bI _ ?_;obtain⟨k,y⟩:=e;obtain⟨h9,h10⟩:=aJ.1 he;exact aJ.2 ⟨bI _ (aJ.2 ⟨h9,h10⟩),h10⟩
   | _=>simp only[chk,hr]at h; exact(aA h).elim
 | apz n c byt m k ih=>
  intro lt lf acc g st Q R ha h hw hl;rcases hr:run I n g st with _ | ⟨g',st',C,fs⟩
  ·simp only[chk,hr]at h; exact(aA h).elim
  ·cases g' with
   | o all l ks=>
    cases l with
    | nil=>simp only[chk,hr]at h; exact(aA h).elim
    | cons op l=>
     simp only[chk,hr]at h;split at h
     case h_2=>exact(aA h).elim
     rename_i d e j k' e1;split at h
     case h_2=>exact(aA h).elim
     rename_i s2 e2;obtain⟨h1,h2⟩:=aB h;obtain⟨h3,h4⟩:=aB h2;obtain⟨h5,h6⟩:=aB h4;obtain⟨hC,hf⟩:=bD h1 trivial;have h3:=aI h3;injection h3 with h3 h3';subst h3; subst h3';have himp:nX j.zero (c default):=(cO h5).get;have hlk:look s2.hp d=some (.arr e j.size k'.toNat (fun _=>c default)):=by
      unfold cX at e2;split at e2
      ·cases e2; simp[St.put,look]
      ·cases e2
     refine bM hG hr hC hf (Hd hG e1 himp hw.1.1 hw.1.2 e2 (cT (Le.obj _ hlk (fun _ _ _=>bL.row (by simp) fun q hq=>?_) rfl) (ih ha h6 hw.2 hl)));simp only[eF];rw[bO,qY,aH hq];rfl
   | _=>simp only[chk,hr]at h; exact(aA h).elim
 | mks n c byt lv cv k ih=>
  intro lt lf acc g st Q R ha h hw hl;rcases hr:run I n g st with _ | ⟨g',st',C,fs⟩
  ·simp only[chk,hr]at h; exact(aA h).elim
  ·cases g' with
   | o all l ks=>
    cases l with
    | nil=>simp only[chk,hr]at h; exact(aA h).elim
    | cons op l=>
     simp only[chk,hr]at h;split at h
     case h_2=>exact(aA h).elim
     rename_i d e j lv' cv' e1;split at h
     case h_2=>exact(aA h).elim
     rename_i s2 e2;obtain⟨h1,h2⟩:=aB h;obtain⟨h3,h4⟩:=aB h2;obtain⟨h5,h6⟩:=aB h4;obtain⟨hC,hf⟩:=bD h1 trivial;have h3:=aI h3;injection h3 with h3 h3';injection h3' with h3' h3'';subst h3; subst h3'; subst h3'';have himp:nX j.zero (c default):=(cO h5).get;have hlk:look s2.hp d=some (.arr e j.size lv'.toNat (fun _=>c default)):=by
      unfold cX at e2;split at e2
      ·cases e2; simp[St.put,look]
      ·cases e2
     refine bM hG hr hC hf (Jf hG e1 himp hw.1.1 hw.1.2 e2 (cT (Le.obj _ hlk (fun _ _ _=>bL.row (by simp) fun q hq=>?_) rfl) (ih ha h6 hw.2 hl)));simp only[eF];rw[bO,qY,aH hq];rfl
   | _=>simp only[chk,hr]at h; exact(aA h).elim
 | abl n e k ih=>
  intro lt lf acc g st Q R ha h hw hl;rcases hr:run I n g st with _ | ⟨g',st',C,fs⟩
  ·simp only[chk,hr]at h; exact(aA h).elim
  ·cases g' with
   | o all l ks=>
    cases l with
    | nil=>simp only[chk,hr]at h; exact(aA h).elim
    | cons op l=>
     simp only[chk,hr]at h;split at h
     case h_2=>exact(aA h).elim
     rename_i t d e1 e2 e3;split at h
     case h_2=>exact(aA h).elim
     rename_i st1 i e4 e5 e6 e7;obtain⟨h1,h2⟩:=aB h;obtain⟨h3,h4⟩:=aB h2;obtain⟨hC,hf⟩:=bD h1 trivial;exact bM hG hr hC hf (Ii hG e1 e2 e3 e4 e5 e7 (aI h3) e6 (ih ha h4 hw hl))
   | _=>simp only[chk,hr]at h; exact(aA h).elim
 | dfr n hh t ih=>
  intro lt lf acc g st Q R ha h hw hl;rcases hr:run I n g st with _ | ⟨g',st',C,fs⟩
  ·simp only[chk,hr]at h; exact(aA h).elim
  ·cases g' with
   | o all l ks=>
    cases l with
    | nil=>simp only[chk,hr]at h; exact(aA h).elim
    | cons op l=>
     simp only[chk,hr]at h;rcases hb:dfI all op st' with _ | f'
     ·rw[hb]at h; exact(aA h).elim
     rw[hb]at h;obtain⟨h1,h2⟩:=aB h;obtain⟨h3,h4⟩:=aB h2;obtain⟨hC,hf⟩:=bD h1 trivial;have h3:=aI h3;subst h3;exact bM hG hr hC hf (Ik hG hb hh (ih ha h4 hw hl))
   | _=>simp only[chk,hr]at h; exact(aA h).elim
 | eqi n s x i t ih=>
  intro lt lf acc g st Q R ha h hw hl;rcases hr:run I n g st with _ | ⟨g',st',C,fs⟩
  ·simp only[chk,hr]at h; exact(aA h).elim
  ·simp only[chk,hr]at h;split at h
   case h_2=>exact(aA h).elim
   rename_i k y hy;obtain⟨h1,h2⟩:=aB h;obtain⟨h3,h4⟩:=aB h2;obtain⟨hC,hf⟩:=bD h1 trivial;have h3:=aI h3;subst h3;obtain⟨hx,hw⟩:=hw;subst hx;refine bM hG hr hC hf (gN (fun a w r=>?_) (ih ha h4 hw hl));obtain⟨F,g0,r⟩:=r;refine⟨F,g0,r.nt,r.df,fun t' z hz=>?_,r.w⟩;simp only[St.put]at hz;rcases aL.1 hz with hz | hz
   ·cases hz; exact r.fr _ _ (aE hy)
   ·exact r.fr _ _ (aJ.1 hz).1
 | cb n s t ih=>
  intro lt lf acc g st Q R ha h hw hl;rcases hr:run I n g st with _ | ⟨g',st',C,fs⟩
  ·simp only[chk,hr]at h; exact(aA h).elim
  ·cases g' with
   | o all l ks=>
    cases l with
    | nil=>simp only[chk,hr]at h; exact(aA h).elim
    | cons op l=>
     simp only[chk,hr]at h;rcases hb:cbI I all op st' with _ | ⟨d,y⟩
     ·rw[hb]at h; exact(aA h).elim
     rw[hb]at h;obtain⟨h1,h2⟩:=aB h;obtain⟨h3,h4⟩:=aB h2;obtain⟨hC,hf⟩:=bD h1 trivial;have h3:=aI h3;subst h3;exact bM hG hr hC hf (Kd hG hb (ih ha h4 hw hl))
   | _=>simp only[chk,hr]at h; exact(aA h).elim
 | bs n own c xs t ih=>
  intro lt lf acc g st Q R ha h hw hl;rcases hr:run I n g st with _ | ⟨g',st',C,fs⟩
  ·simp only[chk,hr]at h; exact(aA h).elim
  ·cases g' with
   | o all l ks=>
    cases l with
    | nil=>simp only[chk,hr]at h; exact(aA h).elim
    | cons op l=>
     simp only[chk,hr]at h;rcases hb:bsI I all op st' with _ | ⟨d,e,j,len,cs⟩
     ·rw[hb]at h; exact(aA h).elim
     rw[hb]at h;obtain⟨h1,h2⟩:=aB h;obtain⟨h3,h4⟩:=aB h2;obtain⟨h5,h6⟩:=aB h4;obtain⟨h7,h8⟩:=aB h6;obtain⟨hC,hf⟩:=bD h1 trivial;have h5:=aI h5;have h7:=eW (aI h7);have himp:nX cs (xs.flatMap c):=(cO h3).get;cases own with
     | false=>
      refine bM hG hr hC hf (Fo hG hb himp ?_);refine cT (yX (st:=st'.put d (.t (.sl len (eT (xs.flatMap c) j.size)))) (t:=d) (y:=.t (eL c xs)) (by simp[St.put,look]) (qM (x:=eL c xs) (n':=xs.length) (f':=eF c xs) rfl h5.symm h7)) ?_;refine cT (fun a w r=>?_) (ih ha h8 hw hl);refine r.sub (fun e he=>?_) (fun e he=>he);simp only[St.put]at he ⊢;rcases aL.1 he with rfl | he
      ·exact bT ..
      ·refine bI _ ?_;obtain⟨k,y⟩:=e;obtain⟨h9,h10⟩:=aJ.1 he;exact aJ.2 ⟨bI _ (aJ.2 ⟨h9,h10⟩),h10⟩
     | true=>
      simp only at h8;split at h8
      ·rename_i s2 hs2;refine bM hG hr hC hf (Hi hG hb himp hs2 ?_);have hlk:look s2.hp d=some (.arr e j.size len (eT (xs.flatMap c) j.size)):=by
        unfold cX at hs2;split at hs2
        ·cases hs2; simp[St.put,look]
        ·cases hs2
       exact cT (Le.obj _ hlk (fun _ _ _=>bL.row h5 h7) rfl) (ih ha h8 hw hl)
      ·exact(aA h8).elim
   | _=>simp only[chk,hr]at h; exact(aA h).elim
 | ndb n m a e iha ihe=>
  intro lt lf acc g st Q R ha h hw hl;rcases hr:run I n g st with _ | ⟨g',st',C,fs⟩
  ·simp only[chk,hr]at h; exact(aA h).elim
  ·cases g' with
   | o all l ks=>
    cases l with
    | nil=>simp only[chk,hr]at h; exact(aA h).elim
    | cons op l=>
     simp only[chk,hr]at h;rcases hb:Im I all op st' with _ | ⟨d,ng,m'⟩
     ·rw[hb]at h; exact(aA h).elim
     rw[hb]at h;obtain⟨h1,h2⟩:=aB h;obtain⟨h2a,h2b⟩:=aB h2;obtain⟨h3,h4⟩:=aB h2b;have hmm:=aI h2a;subst hmm;obtain⟨hC,hf⟩:=bD h1 trivial;exact bM hG hr hC hf (Bz hG hb (fun hm=>iha ha h3 (hw.1 hm) hl) (ihe ha h4 hw.2 hl))
   | _=>simp only[chk,hr]at h; exact(aA h).elim
 | @dc Y R' j as k bps x ret hcon B ih=>intro lt lf acc g st Q R ha h hw hl;simp only[chk]at h;obtain⟨h1,h2⟩:=aB h;obtain⟨hk,h2⟩:=aB h2;obtain⟨r,hx,hB⟩:=hw;obtain⟨h3,h4⟩:=aB (fN h2 r);exact ih r (acc:=⟨(j,k,as,ret r,[],none)::acc.calls,acc.lits,acc.conds⟩) ⟨.cons (.inr <| .call (aI hk) (oW (aI h3)) ⟨hcon.c,.inl ⟨rfl,rfl,bps,jK h1,hcon.h r hx⟩,aI h3⟩) ha.c,ha.l,ha.p⟩ h4 hB hl
 | @dch Y R' j as k bps Hs N x ret Ht hcon ch B ih=>intro lt lf acc g st Q R ha h hw hl;simp only[chk]at h;obtain⟨h1,h2⟩:=aB h;obtain⟨hk,h2⟩:=aB h2;obtain⟨r,hx,hB⟩:=hw;obtain⟨h3,h4⟩:=aB (fN h2 r);obtain⟨h5,h6⟩:=aB h4;obtain⟨h7,h8⟩:=aB h6;obtain⟨h9,h10⟩:=aB h8;have hp:=hcon.h r hx;rw[aI h5]at hp;exact ih r (acc:=⟨(j,k,as,ret r,Hs,ch r)::acc.calls,acc.lits,acc.conds⟩) ⟨.cons (.inr <| .call (aI hk) (oW (aI h3)) ⟨hcon.c,.inr ⟨bps,N,jK h1,hp,aI h7,Pz (aI h9)⟩,aI h3⟩) ha.c,ha.l,ha.p⟩ h10 hB hl
 | @dcn Y R' j d as k bps Hs N x ret Ht hcon B ih=>
  intro lt lf acc g st Q R ha h hw hl;simp only[chk]at h;obtain⟨h1,h2⟩:=aB h;obtain⟨hk,h2⟩:=aB h2;obtain⟨hHs,h2⟩:=aB h2;obtain⟨hN,h2⟩:=aB h2;obtain⟨r,hx,hB⟩:=hw;have h3:=fN h2 r;have hHs:=aI hHs;have hN:=aI hN;subst hHs hN;split at h3
  ·rename_i o e s n f o' e1 e2;obtain⟨h4,h5⟩:=aB h3;have h4:=aI h4;subst h4;have hp:=hcon.h r hx;rw[e1,e2]at hp;exact ih r (acc:=⟨(j,k,as,.own d,[],some (d,.arr e s n f))::acc.calls,acc.lits,acc.conds⟩) ⟨.cons (.inr <| .new (aI hk) rfl rfl rfl hcon.c (jK h1) (hp.renNew d)) ha.c,ha.l,ha.p⟩ h5 hB hl
  ·exact(aA h3).elim
 | @dcm Y R' j d as k bps Hs N x ret Ht hcon B ih=>
  intro lt lf acc g st Q R ha h hw hl;simp only[chk]at h;obtain⟨h1,h2⟩:=aB h;obtain⟨hk,h2⟩:=aB h2;obtain⟨r,hx,hB⟩:=hw;have h3:=fN h2 r;split at h3
  ·rename_i o m _;obtain⟨h4,h5⟩:=aB h3;obtain⟨h6,h5⟩:=aB h5;obtain⟨h7,h5⟩:=aB h5;have h7:=aI h7;simp only[Vo,bJ,gC]at h7;obtain⟨⟨⟨⟨a1,a2⟩,a3⟩,a4⟩,a5⟩:=h7;have nin:∀ {q:Nat} {l:List Nat},inN q l=false->q∉l:=fun hq hm=>by rw[bS.2 hm]at hq; cases hq
   have hp:=hcon.h r hx;rw[aI h4,aI h6]at hp;exact ih r (acc:=⟨(j,k,as,.map d,Hs,some (d,.mp none m none))::acc.calls,acc.lits,acc.conds⟩)
    ⟨.cons (.inr <| .newH (aI hk) rfl rfl hcon.c (jK h1) (hp.renMap d (nin a1) (nin a2) (fun e he q hq e'=>jL (cU.1 a3 e he) q hq (bX.2 e')) (nin a4)) a5) ha.c,ha.l,ha.p⟩ h5 hB hl
  ·exact(aA h3).elim
 | @dap Y j n f x himp t ih=>intro lt lf acc g st Q R ha h hw hl;simp only[chk]at h;exact ih (acc:=⟨(j,fzN,[.t (.sl n f)],.t x,[],none)::acc.calls,acc.lits,acc.conds⟩) ⟨.cons (.inl ⟨rfl,n,f,x,rfl,rfl,himp⟩) ha.c,ha.l,ha.p⟩ h hw hl
 | @dlk Y K mk j ty ob v k t1 ih=>
  intro lt lf acc g st Q R ha h hw hl;simp only[chk]at h;obtain⟨h1,h2⟩:=aB h;obtain⟨c,hc,hB⟩:=hw;obtain⟨k',hk'⟩:=Fy hc;have hz:=aI h1;cases hm:gZ I.ti ty (MKey.kT k) with
  | none=>rw[hm]at hz; cases hz
  | some et=>
   rw[hm]at hz;refine ih c (acc:=⟨(j,lkN+ty,[.map ob,.t (MKey.kT k)],.fn (.func c) 0 [],[(ob,.mp none (eM (fun c=>.d (.fv c)) v) none)],none)::acc.calls,acc.lits,acc.conds⟩) ⟨.cons (.inr <| .look (by cases hb:Nat.blt (lkN+ty) lkN with | false=>rfl | true=>rw[cB]at hb; omega) ?_) ha.c,ha.l,ha.p⟩ (zS h2 _ hk') hB hl
   rw[Nat.add_sub_cancel_left];exact Hz hG.ti v k hm (lQ hz) hc
 | dl j c t e iht ihe=>
  intro lt lf acc g st Q R ha h hw hl;simp only[chk]at h;obtain⟨h1,h2⟩:=aB h;cases hc:c with
  | true=>exact iht (acc:=⟨acc.calls,(j,c,true)::acc.lits,acc.conds⟩) ⟨ha.c,.cons hc ha.l,ha.p⟩ h1 (by simp only[Tr.wpT,hc,if_true]at hw; exact hw) hl
  | false=>exact ihe (acc:=⟨acc.calls,(j,c,false)::acc.lits,acc.conds⟩) ⟨ha.c,.cons hc ha.l,ha.p⟩ h2 (by simp only[Tr.wpT,hc]at hw; exact hw) hl
 | dg j p t ih=>intro lt lf acc g st Q R ha h hw hl;simp only[chk]at h;exact ih (acc:=⟨acc.calls,acc.lits,(j,[p])::acc.conds⟩) ⟨ha.c,ha.l,.cons hw.1 ha.p⟩ h hw.2 hl
 | dr n e ol ts t ih=>
  intro lt lf acc g st Q R ha h hw hl;rcases hr:run I n g st with _ | ⟨g',st',C,fs⟩
  ·simp only[chk,hr]at h; exact(aA h).elim
  ·cases g' with
   | c x ks=>
    cases x with
    | region id ops dw=>
     cases dw with
     | true=>
      simp only[chk,hr]at h;obtain⟨h1,h2⟩:=aB h;obtain⟨h3,h4⟩:=aB h2;obtain⟨hC,hf⟩:=bD h1 trivial;obtain⟨h5,h6⟩:=aB h3;obtain⟨h7,h8⟩:=aB h6;cases hk:(drS I ops.toList (ops.toList.take (ops.toList.length-e)) acc st' ts ol).keep (bU (drS I ops.toList (ops.toList.take (ops.toList.length-e)) acc st' ts ol).fr) (bU (drS I ops.toList (ops.toList.take (ops.toList.length-e)) acc st' ts ol).hp) with
      | none=>rw[hk]at h4; exact(aA h4).elim
      | some s=>
       rw[hk]at h4;have hq:=ih ⟨.nil,.nil,.nil⟩ h4 hw hl;refine bM hG hr hC hf ?_;have hops:ops=ops.toList.toArray:=by simp
       show pwp P E (.region id ops true) _ _;rw[hops];exact Lf hG (aI h7) (L:=ops.toList) (l:=ops.toList.take (ops.toList.length-e)) (tl:=ops.toList.drop (ops.toList.length-e)) (sT _ _).symm acc.calls acc.lits acc.conds ol ts ha.c ha.l ha.p _ _ (aI h5) (aI h8) hk hq
     | false=>simp only[chk,hr]at h; exact(aA h).elim
    | _=>simp only[chk,hr]at h; exact(aA h).elim
   | _=>simp only[chk,hr]at h; exact(aA h).elim
 | @mk Y K V mk n enc t ih=>
  intro lt lf acc g st Q R ha h hw hl;rcases hr:run I n g st with _ | ⟨g',st',C,fs⟩
  ·simp only[chk,hr]at h; exact(aA h).elim
  ·cases g' with
   | o all l ks=>
    cases l with
    | nil=>simp only[chk,hr]at h; exact(aA h).elim
    | cons op l=>
     simp only[chk,hr]at h;split at h
     case h_2=>exact(aA h).elim
     rename_i ty d e1 e2 e3;split at h
     case h_2=>exact(aA h).elim
     rename_i st1 e4 e5 e6;obtain⟨h1,h2⟩:=aB h;obtain⟨hC,hf⟩:=bD h1 trivial;exact bM hG hr hC hf (xW hG (K:=K) enc rfl e1 e2 e3 e4 e5 e6 (ih ha h2 hw hl))
   | _=>simp only[chk,hr]at h; exact(aA h).elim
 | @mlen Y K V mk n enc v t ih=>
  intro lt lf acc g st Q R ha h hw hl;rcases hr:run I n g st with _ | ⟨g',st',C,fs⟩
  ·simp only[chk,hr]at h; exact(aA h).elim
  ·cases g' with
   | o all l ks=>
    cases l with
    | nil=>simp only[chk,hr]at h; exact(aA h).elim
    | cons op l=>
     simp only[chk,hr]at h;split at h
     case h_2=>exact(aA h).elim
     rename_i c d e1 e2 e3;split at h
     case h_2=>exact(aA h).elim
     rename_i x ty e4 e5 e6 e7;split at h
     case h_2=>exact(aA h).elim
     rename_i ob e8;split at h
     case h_2=>exact(aA h).elim
     rename_i it m ho e9;obtain⟨h1,h2⟩:=aB h;obtain⟨h3,h4⟩:=aB h2;obtain⟨h5,h6⟩:=aB h4;obtain⟨hC,hf⟩:=bD h1 trivial;have h5:=aI h5;cases h5;exact bM hG hr hC hf (Db hG v rfl e1 e4 (vK e5) e6 e2 e3 e7 e8 (aI h3) e9 (ih ha h6 hw hl))
   | _=>simp only[chk,hr]at h; exact(aA h).elim
 | @lkr Y K V mk n e s nn ff dflt v k t ih=>
  intro lt lf acc g st Q R ha h hw hl;rcases hr:run I n g st with _ | ⟨g',st',C,fs⟩
  ·simp only[chk,hr]at h; exact(aA h).elim
  ·cases g' with
   | o all l ks=>
    cases l with
    | nil=>simp only[chk,hr]at h; exact(aA h).elim
    | cons op l=>
     simp only[chk,hr]at h;rcases hlk:oS I all op st' with _ | ⟨d,ty,ob,kp⟩
     ·rw[hlk]at h; exact(aA h).elim
     rw[hlk]at h;obtain⟨x,kx,e1,e2,e3,e4,e5,e6⟩:=rS hlk;simp only at h;split at h
     case h_2=>exact(aA h).elim
     rename_i it m ho et e7 e8;obtain⟨h1,h2⟩:=aB h;obtain⟨h3,h4⟩:=aB h2;obtain⟨h5,h6⟩:=aB h4;obtain⟨h7,h8⟩:=aB h6;obtain⟨h9,h10⟩:=aB h8;obtain⟨h11,h12⟩:=aB h10;obtain⟨hC,hf⟩:=bD h1 trivial;have h3:=aI h3;subst h3;have h5:=aI h5;cases h5;split at h12
     ·rename_i s2 hs;exact bM hG hr hC hf (uL hG v k dflt rfl e1 e2 e3 e4 e5 e6 e7 e8 (lQ (aI h7)) (aI h9) (aI h11) hs (ih ha h12 hw hl))
     ·exact(aA h12).elim
   | _=>simp only[chk,hr]at h; exact(aA h).elim
 | @lkt Y B K mk n e s nn ff v k t ih=>
  intro lt lf acc g st Q R ha h hw hl;rcases hr:run I n g st with _ | ⟨g',st',C,fs⟩
  ·simp only[chk,hr]at h; exact(aA h).elim
  ·cases g' with
   | o all l ks=>
    cases l with
    | nil=>simp only[chk,hr]at h; exact(aA h).elim
    | cons op l=>
     simp only[chk,hr]at h;rcases hlk:oS I all op st' with _ | ⟨d,ty,ob,kp⟩
     ·rw[hlk]at h; exact(aA h).elim
     rw[hlk]at h;obtain⟨x,kx,e1,e2,e3,e4,e5,e6⟩:=rS hlk;simp only at h;split at h
     case h_2=>exact(aA h).elim
     rename_i it m ho et e7 e8;obtain⟨h1,h2⟩:=aB h;obtain⟨h3,h4⟩:=aB h2;obtain⟨h5,h6⟩:=aB h4;obtain⟨h7,h8⟩:=aB h6;obtain⟨h9,h12⟩:=aB h8;obtain⟨hC,hf⟩:=bD h1 trivial;have h3:=aI h3;subst h3;have h5:=aI h5;cases h5;simp only[Tr.wpT]at hw;rcases hm:cC v k with _ | _ | c
     ·rw[hm]at hw; exact hw.elim
     ·rw[hm]at hw; exact hw.elim
     ·rw[hm]at hw;have h13:=fN h12 c;split at h13
      ·rename_i s2 hs;exact bM hG hr hC hf (Cm hG (enc:=Gd e s nn ff) v (some c) none rfl e1 e2 e3 e4 e5 e6 e7 e8 (lQ (aI h7)) (aI h9) hm rfl rfl hs (ih c ha h13 hw hl))
      ·exact(aA h13).elim
   | _=>simp only[chk,hr]at h; exact(aA h).elim
 | @lkd Y K V mk n zv eD v k t0 t1 ih0 ih1=>
  intro lt lf acc g st Q R ha h hw hl;rcases hr:run I n g st with _ | ⟨g',st',C,fs⟩
  ·simp only[chk,hr]at h; exact(aA h).elim
  ·cases g' with
   | o all l ks=>
    cases l with
    | nil=>simp only[chk,hr]at h; exact(aA h).elim
    | cons op l=>
     simp only[chk,hr]at h;rcases hlk:oS I all op st' with _ | ⟨d,ty,ob,kp⟩
     ·rw[hlk]at h; exact(aA h).elim
     rw[hlk]at h;obtain⟨x,kx,e1,e2,e3,e4,e5,e6⟩:=rS hlk;simp only at h;split at h
     case h_2=>exact(aA h).elim
     rename_i it m ho et zp e7 e8 e9;obtain⟨h1,h2⟩:=aB h;obtain⟨h3,h4⟩:=aB h2;obtain⟨h5,h6⟩:=aB h4;obtain⟨h7,h8⟩:=aB h6;obtain⟨h9,h10⟩:=aB h8;obtain⟨hC,hf⟩:=bD h1 trivial;have h3:=aI h3;subst h3;have h5:=aI h5;cases h5;refine bM hG hr hC hf (yO hG v k rfl e1 e2 e3 e4 e5 e6 e7 e8 (lQ (aI h7)) e9 (fun hn=>?_) fun c hc=>?_)
     ·exact ih0 ha h9 (by simp only[Tr.wpT,hn]at hw; exact hw) hl
     ·exact ih1 c ha (fN h10 c) (by simp only[Tr.wpT,hc]at hw; exact hw) hl
   | _=>simp only[chk,hr]at h; exact(aA h).elim
 | @upd Y K V mk n enc v k t ih=>
  intro lt lf acc g st Q R ha h hw hl;rcases hr:run I n g st with _ | ⟨g',st',C,fs⟩
  ·simp only[chk,hr]at h; exact(aA h).elim
  ·cases g' with
   | o all l ks=>
    cases l with
    | nil=>simp only[chk,hr]at h; exact(aA h).elim
    | cons op l=>
     simp only[chk,hr]at h;split at h
     case h_2=>exact(aA h).elim
     rename_i ty x kx vx e1 e2 e3;split at h
     case h_2=>exact(aA h).elim
     rename_i ob kp p e4 e5 e6;split at h
     case h_2=>exact(aA h).elim
     rename_i it m ho et e7 e8;obtain⟨h1,h2⟩:=aB h;obtain⟨h3,h4⟩:=aB h2;obtain⟨h5,h6⟩:=aB h4;obtain⟨h9,h6⟩:=aB h6;obtain⟨hC,hf⟩:=bD h1 trivial;have h3:=aI h3;subst h3;have h5:=aI h5;cases h5;have hcur:wI it (MKey.kT k):=by intro i hi;subst hi;exact aI h9
     exact bM hG hr hC hf (Iy hG v k p rfl (Ex e1) e2 e3 e4 e5 e6 e7 e8 hcur (ih ha h6 hw hl))
   | _=>simp only[chk,hr]at h; exact(aA h).elim
 | @dlt Y K V mk n enc v k hp t ih=>
  intro lt lf acc g st Q R ha h hw hl;rcases hr:run I n g st with _ | ⟨g',st',C,fs⟩
  ·simp only[chk,hr]at h; exact(aA h).elim
  ·cases g' with
   | o all l ks=>
    cases l with
    | nil=>simp only[chk,hr]at h; exact(aA h).elim
    | cons op l=>
     simp only[chk,hr]at h;split at h
     case h_2=>exact(aA h).elim
     rename_i c e1 e2 e3;split at h
     case h_2=>exact(aA h).elim
     rename_i x kx ty e4 e5 e6;split at h
     case h_2=>exact(aA h).elim
     rename_i ob kp et e7 e8 e9;split at h
     case h_2=>exact(aA h).elim
     rename_i it m ho e10;obtain⟨h1,h2⟩:=aB h;obtain⟨h3,h4⟩:=aB h2;obtain⟨h5,h6⟩:=aB h4;obtain⟨h7,h8⟩:=aB h6;obtain⟨hC,hf⟩:=bD h1 trivial;have h3:=aI h3;subst h3;have h5:=aI h5;cases h5;have hcur:wI it (MKey.kT k):=by intro i hi;subst hi;exact aI h7
     exact bM hG hr hC hf (vU hG v k rfl e1 e4 (vK e5) e6 e2 e3 e7 e8 e10 e9 hcur (ih ha h8 hw hl))
   | _=>simp only[chk,hr]at h; exact(aA h).elim
 | @rng Y K V mk n enc v t ih=>
  intro lt lf acc g st Q R ha h hw hl;rcases hr:run I n g st with _ | ⟨g',st',C,fs⟩
  ·simp only[chk,hr]at h; exact(aA h).elim
  ·cases g' with
   | o all l ks=>
    cases l with
    | nil=>simp only[chk,hr]at h; exact(aA h).elim
    | cons op l=>
     simp only[chk,hr]at h;split at h
     case h_2=>exact(aA h).elim
     rename_i ty x d e1 e2 e3;split at h
     case h_2=>exact(aA h).elim
     rename_i ob e4 e5;split at h
     case h_2=>exact(aA h).elim
     rename_i m ho s2 e6 e7;obtain⟨h1,h2⟩:=aB h;obtain⟨h3,h4⟩:=aB h2;obtain⟨h5,h6⟩:=aB h4;obtain⟨hC,hf⟩:=bD h1 trivial;have h5:=aI h5;cases h5;exact bM hG hr hC hf (yN hG v rfl e1 e2 e3 e5 e4 (aI h3) e6 e7 (ih ha h6 hw hl))
   | _=>simp only[chk,hr]at h; exact(aA h).elim
 | @nxd Y K V mk n eD v rem t0 t1 ih0 ih1=>
  intro lt lf acc g st Q R ha h hw hl;rcases hr:run I n g st with _ | ⟨g',st',C,fs⟩
  ·simp only[chk,hr]at h; exact(aA h).elim
  ·cases g' with
   | o all l ks=>
    cases l with
    | nil=>simp only[chk,hr]at h; exact(aA h).elim
    | cons op l=>
     simp only[chk,hr]at h;rcases hnx:zI I all op st' with _ | ⟨d,di⟩
     ·rw[hnx]at h; exact(aA h).elim
     rw[hnx]at h;obtain⟨x,e1,e2,e3,e4,e5⟩:=Hg hnx;simp only at h;split at h
     case h_2=>exact(aA h).elim
     rename_i ob _;split at h
     case h_2=>exact(aA h).elim
     rename_i it m ho e6;obtain⟨h1,h2⟩:=aB h;obtain⟨h3,h4⟩:=aB h2;obtain⟨h5,h6⟩:=aB h4;obtain⟨hC,hf⟩:=bD h1 trivial;have h3:=aI h3;obtain⟨io,irem,icur⟩:=it;cases h3;have h5:=aI h5;cases h5;obtain⟨h7,h8⟩:=aB h6;refine bM hG hr hC hf (yR hG v rem rfl e1 e2 e3 e4 e5 e6 (fun hn=>ih0 ha h7 (hw.1 hn) hl) fun k c hk hc=>?_);refine cT (Le.trans (Le.gapd (o:=ob) (it:=some ⟨io,kTs (rem.erase k),some (MKey.kT k)⟩) (eD:=eD) v k c hc (by simp[qK,St.put,look])) fun a w r=>?_) (ih1 k c ha (fN (fN h8 k) c) (hw.2.1 k c hk hc) hl);refine r.sub (fun e he=>he) (fun e he=>?_);simp only[St.put,qK]at he ⊢;rcases aL.1 he with rfl | he
     ·exact bT ..
     ·obtain⟨k',y⟩:=e;obtain⟨h9,h10⟩:=aJ.1 he;exact bI _ (aJ.2 ⟨bI _ (aJ.2 ⟨h9,h10⟩),h10⟩)
   | _=>simp only[chk,hr]at h; exact(aA h).elim
end
def fZ(fn:Func):Code:=match fn.body with | some c=>c | none=>.skip
def rZ{Y:Type}(b:Bool)(I:Inf)(rs:List ResultVar)(ret:Y->PV)(Ht:Y->Hp)(y:Y)(e:Exit)(s:St):VT:=
 match e with
 | .normal=>.and (vt b (If I rs s) (some (ret y))) (vt b (gM s.hp (bU (Ht y))) (some (Ht y)))
 | .ret=>.and (vt b (If I rs s) (some (ret y))) (vt b (gM s.hp (bU (Ht y))) (some (Ht y)))
 | _=>bad b
section
variable {P:Program} {ti:Nat->Option bV} {k:FuncId} {fn:Func} {args:List PV} {Y:Type}
theorem nI{H:Hp}{N:List Nat}{ret:Y->PV}{Ht:Y->Hp}(hf:P.funcs[k]? = some fn)(hI:gE P ti)(t:Tr P Y)(h1:(fn.body.isSome,Nat.ble args.length fn.ntmps)=(true,true))
  (h2:chk P ⟨ti,N,fn.ntmps⟩ true t (rZ true ⟨ti,N,fn.ntmps⟩ fn.results.toList ret Ht) nQ (.c (fZ fn) []) ⟨eQ args 0,H⟩=chk P ⟨ti,N,fn.ntmps⟩ false t (rZ false ⟨ti,N,fn.ntmps⟩ fn.results.toList ret Ht) nQ (.c (fZ fn) []) ⟨eQ args 0,H⟩)
  {y:Y}(hy:t.wpT (·=y)):dK P k args H N (mB (ret y) (Ht y)):=by
 injection h1 with h3 h4;obtain⟨c,hc⟩:=wJ.1 h3;have hb:fZ fn=c:=by unfold fZ; rw[hc]
 rw[hb]at h2;refine Ij (I:=⟨ti,N,fn.ntmps⟩) hf hc hI rfl (cP h4) fun E hG=>?_;refine uD (t.sound hG ⟨.nil,.nil,.nil⟩ h2 hy (Q:=Uc ⟨ti,N,fn.ntmps⟩ fn.results.toList (mB (ret y) (Ht y))) fun y' e s hy' he=>?_) fun e s he=>⟨s,.refl,he⟩;subst hy';refine⟨s,.refl,?_⟩;unfold rZ at he;cases e with
 | normal=>obtain⟨h5,h6⟩:=aB he; exact⟨.inl rfl,_,_,_,aI h5,aI h6,rfl,rfl⟩
 | ret=>obtain⟨h5,h6⟩:=aB he; exact⟨.inr rfl,_,_,_,aI h5,aI h6,rfl,rfl⟩
 | _=>exact(aA he).elim
theorem dK.noH{H N:_}{ret:PV}{Ht:Hp}(h:dK P k args H N (mB ret Ht)):dK P k args H N (Ret ret):=h.mono fun _ _ hr=>hr.1
theorem fW{H:Hp}{N:List Nat}{ret:Y->PV}{Ht:Y->Hp}(hf:P.funcs[k]? = some fn)(hI:gE P ti)(t:Tr P Y)
  (h1:(fn.body.isSome,Nat.ble args.length fn.ntmps)=(true,true):=by kernel_rfl)(h3:(fn.body.isNone,fn.name == "runtime.NumGoroutine")=(false,false):=by kernel_rfl)
  (h2:chk P ⟨ti,N,fn.ntmps⟩ true t (rZ true ⟨ti,N,fn.ntmps⟩ fn.results.toList ret Ht) nQ (.c (fZ fn) []) ⟨eQ args 0,H⟩=chk P ⟨ti,N,fn.ntmps⟩ false t (rZ false ⟨ti,N,fn.ntmps⟩ fn.results.toList ret Ht) nQ (.c (fZ fn) []) ⟨eQ args 0,H⟩:=by kernel_rfl):
  eA P k args H N t.den ret Ht:=⟨bH hf h3,fun _ hy=>nI hf hI t h1 h2 (t.of_den hy rfl)⟩
theorem Up{H:Hp}{N:List Nat}{ret:Y->PV}{Ht:Y->Hp}(hf:P.funcs[k]? = some fn)(hI:gE P ti)(t:Tr P Y)
  (h1:(fn.body.isSome,Nat.ble args.length fn.ntmps)=(true,true):=by kernel_rfl)(h3:(fn.body.isNone,fn.name == "runtime.NumGoroutine")=(false,false):=by kernel_rfl)
  (h2:chk P ⟨ti,N,fn.ntmps⟩ true t (rZ true ⟨ti,N,fn.ntmps⟩ fn.results.toList ret Ht) nQ (.c (fZ fn) []) ⟨eQ args 0,H⟩=chk P ⟨ti,N,fn.ntmps⟩ false t (rZ false ⟨ti,N,fn.ntmps⟩ fn.results.toList ret Ht) nQ (.c (fZ fn) []) ⟨eQ args 0,H⟩:=by kernel_rfl):
  eA P k args H N (Det t) ret Ht:=⟨bH hf h3,fun _ hy=>nI hf hI t h1 h2 (Det.ok hy)⟩
theorem con{ret:Y->PV}(hf:P.funcs[k]? = some fn)(hI:gE P ti)(t:Tr P Y)
  (h1:(fn.body.isSome,Nat.ble args.length fn.ntmps)=(true,true):=by kernel_rfl)(h3:(fn.body.isNone,fn.name == "runtime.NumGoroutine")=(false,false):=by kernel_rfl)
  (h2:chk P ⟨ti,[],fn.ntmps⟩ true t (rZ true ⟨ti,[],fn.ntmps⟩ fn.results.toList ret (fun _=>[])) nQ (.c (fZ fn) []) ⟨eQ args 0,[]⟩=chk P ⟨ti,[],fn.ntmps⟩ false t (rZ false ⟨ti,[],fn.ntmps⟩ fn.results.toList ret (fun _=>[])) nQ (.c (fZ fn) []) ⟨eQ args 0,[]⟩:=by kernel_rfl):
  Con P k args t.den ret:=⟨bH hf h3,fun _ hy=>(nI hf hI t h1 h2 (t.of_den hy rfl)).noH⟩
theorem Xx{ret:Y->PV}(hf:P.funcs[k]? = some fn)(hI:gE P ti)(t:Tr P Y)
  (h1:(fn.body.isSome,Nat.ble args.length fn.ntmps)=(true,true):=by kernel_rfl)(h3:(fn.body.isNone,fn.name == "runtime.NumGoroutine")=(false,false):=by kernel_rfl)
  (h2:chk P ⟨ti,[],fn.ntmps⟩ true t (rZ true ⟨ti,[],fn.ntmps⟩ fn.results.toList ret (fun _=>[])) nQ (.c (fZ fn) []) ⟨eQ args 0,[]⟩=chk P ⟨ti,[],fn.ntmps⟩ false t (rZ false ⟨ti,[],fn.ntmps⟩ fn.results.toList ret (fun _=>[])) nQ (.c (fZ fn) []) ⟨eQ args 0,[]⟩:=by kernel_rfl):
  Con P k args (Det t) ret:=⟨bH hf h3,fun _ hy=>(nI hf hI t h1 h2 (Det.ok hy)).noH⟩
theorem Tn{α R:Type}[Inhabited α](l1:List PV)(c:α->List T)(xs:List α)(lo hi:Int)(l2:List PV){x:Option R}{ret:R->PV}(h:Con P k (l1 ++ .t (eL c ((xs.drop lo.toNat).take (hi-lo).toNat))::l2) x ret):
  Con P k (l1 ++ .t (.sl (hi-lo).toNat (fun q=>eF c xs (lo.toNat+q)))::l2) (if 0<=lo/\lo<=hi/\hi<=(xs.length:Int) then x else none) ret:=by
 refine⟨h.c,fun y hy=>?_⟩;split at hy
 case isFalse=>cases hy
 rename_i hc;intro F g w vs hs hv;refine h.h y hy F g w vs (by simpa using hs) fun j p v hj hvj=>?_;by_cases hj1:j=l1.length
 ·subst hj1;have hj:PV.t (eL c ((xs.drop lo.toNat).take (hi-lo).toNat))=p:=by simpa using hj
  subst hj;exact rY hc rfl F g w v (hv l1.length _ v (by simp) hvj)
 ·refine hv j p v ?_ hvj;rw[List.getElem?_append]at hj ⊢;split at hj
  ·rename_i hlt; rw[aH hlt]; exact hj
  ·rename_i hlt;rw[aT hlt];obtain⟨m,hm⟩:∃ m,j-l1.length=m+1:=⟨j-l1.length-1,by omega⟩;rw[hm]at hj ⊢;simpa using hj
variable {A R:Type}
noncomputable def Pd {C:A->Option R->Prop}(c0:∀ a,C a none)(B:{f:A->Option R // ∀ a,C a (f a)}->A->Tr P R)(ok:∀ f a,C a (B f a).den):Nat->{f:A->Option R // ∀ a,C a (f a)}
 | 0=>⟨fun _=>none,c0⟩
 | n+1=>⟨fun a=>(B (Pd c0 B ok n) a).den,ok _⟩
noncomputable def zD {C:A->Option R->Prop}(c0:∀ a,C a none)(B:{f:A->Option R // ∀ a,C a (f a)}->A->Tr P R)(ok:∀ f a,C a (B f a).den)(a:A):Option R:=Lim fun n=>(Pd c0 B ok n).1 a
theorem nH{C:A->Option R->Prop}(c0:∀ a,C a none)(B:{f:A->Option R // ∀ a,C a (f a)}->A->Tr P R)(ok:∀ f a,C a (B f a).den)(a:A):C a (zD c0 B ok a):=by
 unfold zD;rcases Lim.or (fun n=>(Pd c0 B ok n).1 a) with⟨y,n,hn,hl⟩ | ⟨hl,_⟩
 ·rw[hl,<-hn];exact(Pd c0 B ok n).2 a
 ·rw[hl];exact c0 a
end
end Go.PL
