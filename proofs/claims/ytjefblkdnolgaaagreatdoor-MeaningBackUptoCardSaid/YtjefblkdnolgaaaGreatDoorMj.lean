/-
  Parts: Plain law of the meanings: what the meaning is at a time comes from the rows near it. Own work. Plain law of the meanings: MeaningBack. Own work.
-/
import Derived.Test.YtjefblkdnolgaaaGreatDoorMi
set_option maxHeartbeats 4000000
namespace Go.PL
open Go
set_option linter.unusedVariables false
set_option maxRecDepth 20000
variable {A B l:List aB} {b e step t:Int} {fs:List aV} {n:aG} {p:Pl->Bool} {ta tb:List Int}
theorem aRB{lo hi:Int}(hp:∀ r,p r=true->lo<=r.1/\r.1<=hi)(l:List aB):wt p (bZ l lo hi)=wt p l:=by
 have h:=kZ p (fun r=>decide (lo<=r.1)&&decide (r.1<=hi)) l;have e:(fun r=>p r&&(decide (lo<=r.1)&&decide (r.1<=hi)))=p:=by
  funext r;cases hr:p r with
  | false=>rfl
  | true=>have:=hp r hr; rw[bJ this.1,bJ this.2]; rfl
 rw[e]at h;exact h
theorem Ds{α:Type}{p:Pl->Bool}(f:α->aB)(q:α->Bool):∀ {l:List α},(∀ x,x∈l->q x=false->p (pl (f x))=false)->wt p ((l.filter q).map f)=wt p (l.map f)
 | [],_=>rfl
 | x::l,h=>by
  have ih:=Ds f q (l:=l) fun y hy=>h y (cH _ hy);rw[kG];by_cases hq:q x=true
  ·rw[aA hq,fI,fI];simp only[wt,ih]
  ·have hq':q x=false:=by simpa using hq
   rw[aE hq,ih,fI];simp only[wt,h x cC hq',dO,dL];omega
theorem Jh(l:List aB)(a b c d:Int):bZ (bZ l a b) c d=bZ (bZ l c d) a b:=by unfold bZ;rw[mA,mA];refine pE fun x _=>?_;rw[Bool.and_comm]
theorem pN(n:aG)(i:Int)(k:ByteArray)(l:List aB)(a b:Int):ofK n i k (bZ l a b)=bZ (ofK n i k l) a b:=by unfold bZ ofK;rw[mA,mA];refine pE fun x _=>?_;rw[Bool.and_comm]
theorem iF{a:Int}{d:aB}:d∈bZ l a b↔d∈l/\a<=d.Time/\d.Time<=b:=by unfold bZ;rw[fE,cI,eJ,eJ]
theorem NIn.near{ts:List Int}(h:NIn ts A)(a b:Int):NIn ts (bZ A a b):=
 ⟨h.can.filter _,gY (pM _ _ _) h.len,fun d hd=>h.v d (iF.1 hd).1,fun d hd=>h.t d (iF.1 hd).1,fun d hd=>h.row d (iF.1 hd).1,fun d hd=>h.n d (iF.1 hd).1⟩
theorem Rk{α β:Type}{f:α->β}{g:α->List β}:∀ {l:List α},(∀ x,x∈l->g x=[f x])->l.map f=l.flatMap g
 | [],_=>rfl
 | x::l,h=>by rw[fI,fH,h x cC,Rk fun y hy=>h y (cH _ hy)]; rfl
theorem wZ{α β:Type}{f g:α->List β}:∀ {l:List α},(∀ x,x∈l->f x=g x)->l.flatMap f=l.flatMap g
 | [],_=>rfl
 | x::l,h=>by rw[fH,fH,h x cC,wZ fun y hy=>h y (cH _ hy)]
def gW(n:aG)(b:Int)(r:List aB):List aB:=if r=[] then [] else [sE n r ⟨b,b+n.Size,r⟩]
def gS(n:aG)(b:Int)(r:List aB):List aB:=(ses n.Step (b+n.Size) r).map (sE n r)
theorem Ro{k:ByteArray}{r:List aB}(hs:∀ d,d∈r->d∈ofK n 0 k l)(h0:r≠[])(w:aL):sE n (ofK n 0 k l) w=sE n r w:=by unfold sE;have hr:=hs _ (aQ (gR.2 h0));rw[Ni hr _ (aQ (gR.2 fun h=>by rw[h]at hr; cases hr))]
def sT(n:aG):Int:=if n.Kind=1 then n.Step else n.Size
def gN(n:aG):Int->List aB->List aB:=if n.Kind=0\/n.Kind=1 then gW n else gS n
theorem Po(hn:Ep n)(ks:List ByteArray)(l:List aB):jT n ks l=yQ n n.Size (sT n) (gN n) ks l:=by
 have hz:=hn.size;unfold jT yQ;refine wZ fun k _=>?_;have sub:∀ len step b,∀ d,d∈inB len step b (ofK n 0 k l)->d∈ofK n 0 k l:=fun len step b d hd=>(fE.1 hd).1;unfold oS sT gN;have fx:∀ step,0<step->(He n.Size step (ofK n 0 k l)).map (sE n (ofK n 0 k l))=(kL n.Size step (ofK n 0 k l)).flatMap fun b=>gW n b (inB n.Size step b (ofK n 0 k l)):=fun step hs=>by unfold He;rw[qM];refine Rk fun b hb=>?_;have h0:=(jW hs).1 hb;unfold gW;rw[aE h0];exact congrArg (fun x=>[x]) (Ro (sub _ _ _) h0 _).symm
 rcases hn.kind with h | ⟨h,hs⟩ | ⟨h,hs⟩
 ·rw[aA h,aE (show ¬ n.Kind=1 by omega),aA (show n.Kind=0\/n.Kind=1 from .inl h)];exact fx n.Size (by omega)
 ·rw[aE (show ¬ n.Kind=0 by omega),aA h,aA h,aA (show n.Kind=0\/n.Kind=1 from .inr h)];exact fx n.Step (by omega)
 ·rw[aE (show ¬ n.Kind=0 by omega),aE (show ¬ n.Kind=1 by omega),aE (show ¬ n.Kind=1 by omega),aE (show ¬ (n.Kind=0\/n.Kind=1) by omega)];unfold Mf;rw[List.map_flatMap];refine wZ fun b hb=>?_;have h0:=(jW (show 0<n.Size by omega)).1 hb;unfold gS;exact Nm fun w _=>Ro (sub _ _ _) h0 w
theorem Ap(step e:Int)(l:List aB)(x:aB):gH step e (l++[x])=(xA step e (gH step e l).1 (gH step e l).2 x,x.Time):=by unfold gH; rw[zU]; rfl
theorem Hg{s:List aL}{last:Int}{x:aB}(h:s=[]\/x.Time-last>=step):xA step e s last x=s++[⟨x.Time,jJ (x.Time+step) e,[x]⟩]:=by unfold xA; rw[aA h]
theorem Eo{s:List aL}{w:aL}{last:Int}{x:aB}(h:¬ x.Time-last>=step):xA step e (s++[w]) last x=s++[⟨w.begin_,jJ (x.Time+step) e,w.rows_++[x]⟩]:=by unfold xA;rw[aE (fun h'=>h'.elim (by simp) h),nB _ _ (by simp),Ha _ _ _ (by simp)];rfl
theorem Ew{α:Type}{P:List α->Prop}(h0:P [])(h1:∀ l x,P l->P (l++[x]))(l:List α):P l:=by
 have:∀ r:List α,P r.reverse:=by
  intro r
  induction r with
  | nil=>exact h0
  | cons x r ih=>rw[List.reverse_cons]; exact h1 _ _ ih
 have h:=this l.reverse
 rwa [List.reverse_reverse]at h
theorem Jm(step e:Int)(l:List aB):(gH step e l).1=[]/\l=[]\/∃ s w,(gH step e l).1=s++[w]/\w.end_=jJ ((gH step e l).2+step) e:=by
 refine Ew (P:=fun l=>(gH step e l).1=[]/\l=[]\/∃ s w,(gH step e l).1=s++[w]/\w.end_=jJ ((gH step e l).2+step) e) (.inl ⟨rfl,rfl⟩) (fun l x ih=>.inr ?_) l;rw[Ap];simp only;by_cases hx:(gH step e l).1=[]\/x.Time-(gH step e l).2>=step
 ·rw[Hg hx]; exact⟨_,_,rfl,rfl⟩
 ·obtain⟨s,w,h1,h2⟩:=ih.resolve_left fun h=>hx (.inl h.1);rw[h1,Eo fun h=>hx (.inr h)];exact⟨_,_,rfl,rfl⟩
theorem aNT(hs:1<=step)(P:List aB):∀ Q:List aB,(∀ x,x∈Q->t<x.Time/\x.Time<e)->(ses step e (P++Q)).filter (fun w=>decide (w.end_=t+1))=(ses step e P).filter (fun w=>decide (w.end_=t+1)):=by
 refine Ew (P:=fun Q=>(∀ x,x∈Q->t<x.Time/\x.Time<e)->(ses step e (P++Q)).filter (fun w=>decide (w.end_=t+1))=(ses step e P).filter (fun w=>decide (w.end_=t+1))) (fun _=>by rw[eU]) fun Q x ih hQ=>?_;have ih:=ih fun y hy=>hQ y (pZ _ hy);have hx:=hQ x (by simp);rw[<-ih,<-cL];unfold ses;rw[Ap];simp only;have hm:∀ y:Int,t+1<y->jJ y e≠t+1:=fun y hy=>by unfold jJ; split <;> omega
 by_cases hc:(gH step e (P++Q)).1=[]\/x.Time-(gH step e (P++Q)).2>=step
 ·rw[Hg hc,qU,kG,aE (cB (hm _ (by omega))),wK,eU]
 ·obtain⟨s,w,h1,h2⟩:=(Jm step e (P++Q)).resolve_left fun h=>hc (.inl h.1);rw[h1,Eo fun h=>hc (.inr h),qU,qU,kG,kG,aE (cB (hm _ (by omega))),aE (cB (by rw[h2]; exact hm _ (by omega)))]
theorem aNL(hs:1<=step)(he:b<e):∀ l:List aB,(∀ x,x∈l->b<=x.Time/\x.Time<e)->∀ w,w∈ses step e l->b<w.end_/\w.end_<=e:=by
 refine Ew (P:=fun l=>(∀ x,x∈l->b<=x.Time/\x.Time<e)->∀ w,w∈ses step e l->b<w.end_/\w.end_<=e) (fun _ w hw=>by simp[ses,gH]at hw) fun l x ih hl w hw=>?_;have ih:=ih fun y hy=>hl y (pZ _ hy);have hx:=hl x (by simp);have hm:b<jJ (x.Time+step) e/\jJ (x.Time+step) e<=e:=by unfold jJ; split <;> omega
 unfold ses at ih hw;rw[Ap]at hw;simp only at hw;by_cases hc:(gH step e l).1=[]\/x.Time-(gH step e l).2>=step
 ·rw[Hg hc]at hw;rcases dH.1 hw with hw | hw
  ·exact ih w hw
  ·rw[bY.1 hw]; exact hm
 ·obtain⟨s,v,h1,h2⟩:=(Jm step e l).resolve_left fun h=>hc (.inl h.1);rw[h1]at hw ih;rw[Eo fun h=>hc (.inr h)]at hw;rcases dH.1 hw with hw | hw
  ·exact ih w (pZ _ hw)
  ·rw[bY.1 hw]; exact hm
theorem TS.sublist{r:List aB}(h:TS l)(hs:r.Sublist l):TS r:=zL hs h
theorem aAY{s:Int}(hs:0<s)(h:s∣b)(h1:b<=t)(h2:t<b+s):b=t / s*s:=by
 obtain⟨k,rfl⟩:=h;have h3:k<=t / s:=(Int.le_ediv_iff_mul_le hs).2 (by rw[rM]; exact h1);have h4:t / s<k+1:=(Int.ediv_lt_iff_lt_mul hs).2 (by rw[Int.add_mul,rM k]; omega);have:t / s=k:=by omega
 rw[this,rM]
theorem aVK(hn:Ep n)(hts:TS A)(hp:∀ r,p r=true->r.1=t):
  wt p (jT n (cS (aW (bW n 0 A))) A)=wt p (jT n (cS (aW (bW n 0 (bZ A (t-(n.Size-1)) t)))) (bZ A (t-(n.Size-1)) t)):=by
 have hz:=hn.size;rw[Po hn,Po hn];have hsub:∀ x,x∈bZ A (t-(n.Size-1)) t->x∈A:=fun x hx=>(iF.1 hx).1;have emp:∀ len step b k,ofK n 0 k (bZ A (t-(n.Size-1)) t)=[]->inB len step b (ofK n 0 k (bZ A (t-(n.Size-1)) t))=[]:=fun len step b k h=>by rw[h]; rfl
 have hstep:0<sT n:=by
  unfold sT;rcases hn.kind with h | ⟨h,hs⟩ | ⟨h,hs⟩
  ·rw[aE (by omega)]; omega
  ·rw[aA h]; omega
  ·rw[aE (by omega)]; omega
 have hg:∀ b,gN n b []=[]:=fun b=>by
  unfold gN;split
  ·rfl
  ·rfl
 have fin:∀ B,(∀ b r,b≠B->sT n∣b->(∀ x,x∈r->b<=x.Time/\x.Time<b+n.Size)->∀ x,x∈gN n b r->x.Time≠t)->(∀ k,wt p (gN n B (inB n.Size (sT n) B (ofK n 0 k A)))=wt p (gN n B (inB n.Size (sT n) B (ofK n 0 k (bZ A (t-(n.Size-1)) t)))))->wt p (yQ n n.Size (sT n) (gN n) (cS (aW (bW n 0 A))) A)=wt p (yQ n n.Size (sT n) (gN n) (cS (aW (bW n 0 (bZ A (t-(n.Size-1)) t)))) (bZ A (t-(n.Size-1)) t)):=fun B h1 h2=>by rw[Cx hstep hg h1 hp,Cx hstep hg h1 hp,wV (l:=A) hsub fun k hk=>by rw[emp _ _ _ _ hk,hg]; rfl];exact jM fun k _=>h2 k
 by_cases h2:n.Kind=2
 ·have hs:1<=n.Step/\n.Step<=10000:=by
   rcases hn.kind with h | ⟨h,_⟩ | ⟨_,h⟩
   ·omega
   ·omega
   ·exact h
  have eN:gN n=gS n:=by unfold gN; rw[aE (by omega)]
  have eS:sT n=n.Size:=by unfold sT; rw[aE (by omega)]
  refine fin (t / n.Size*n.Size) (fun b r hb hd hr x hx ht=>?_) fun k=>?_
  ·rw[eN]at hx;rw[eS]at hd;obtain⟨w,hw,rfl⟩:=dC.1 hx;have:=aNL hs.1 (show b<b+n.Size by omega) r hr w hw;have ht:w.end_-1=t:=ht;exact hb (aAY (by omega) hd (by omega) (by omega))
  ·rw[eN,eS];have hB1:t / n.Size*n.Size<=t:=Gt _ (by omega);have hB2:t<t / n.Size*n.Size+n.Size:=by have:=Int.lt_ediv_add_one_mul_self t (show 0<n.Size by omega);rw[Int.add_mul]at this; omega
   have hBd:n.Size∣t / n.Size*n.Size:=⟨t / n.Size,rM _ _⟩;generalize t / n.Size*n.Size=B at hB1 hB2 hBd;rw[wI (by omega),wI (by omega),aA hBd,aA hBd,pN];have htk:TS (ofK n 0 k A):=hts.sublist nI;generalize ofK n 0 k A=L at htk;have e1:tC n.Size B (bZ L (t-(n.Size-1)) t)=(tC n.Size B L).filter fun d=>decide (d.Time<t+1):=by unfold tC bZ;rw[mA,mA];refine pE fun d _=>?_;rw[sN];simp only[cI,eJ];omega
   have hW:TS (tC n.Size B L):=htk.sublist nI;have e2:=zV (t+1) hW;rw[e1];have hQ:∀ x,x∈(tC n.Size B L).filter (fun d=>decide (t+1<=d.Time))->t<x.Time/\x.Time<B+n.Size:=fun x hx=>by obtain⟨q1,q2⟩:=fE.1 hx;have q3:=(fE.1 q1).2;rw[cI,eJ,eJ]at q3;have q2:=dP q2;omega
   have e3:=aNT (step:=n.Step) hs.1 ((tC n.Size B L).filter fun d=>decide (d.Time<t+1)) _ hQ;rw[<-e2]at e3;unfold gS;rw[<-Ds (sE n (tC n.Size B L)) (fun w=>decide (w.end_=t+1)) (l:=ses n.Step (B+n.Size) (tC n.Size B L)),<-Ds (sE n ((tC n.Size B L).filter fun d=>decide (d.Time<t+1))) (fun w=>decide (w.end_=t+1)) (l:=ses n.Step (B+n.Size) ((tC n.Size B L).filter fun d=>decide (d.Time<t+1))),e3]
   ·by_cases h0:(tC n.Size B L).filter (fun d=>decide (d.Time<t+1))=[]
    ·rw[h0]; rfl
    ·congr 1
     refine Nm fun w _=>?_;have eq0:(tC n.Size B L).getD 0 default=((tC n.Size B L).filter fun d=>decide (d.Time<t+1)).getD 0 default:=by
      conv=>lhs; rw[e2]
      rw[bH,aA (gR.2 h0)]
     unfold sE;rw[eq0]
   all_goals
    intro w _ hw;cases hc:p (pl (sE n _ w)) with
    | false=>rfl
    | true=>have h1:=hp _ hc;have h3:w.end_-1=t:=h1;exact absurd (bJ (show w.end_=t+1 by omega)) (by rw[hw]; simp)
 ·have hk01:n.Kind=0\/n.Kind=1:=by
   rcases hn.kind with h | ⟨h,_⟩ | ⟨h,_⟩
   ·exact .inl h
   ·exact .inr h
   ·exact absurd h h2
  have eN:gN n=gW n:=by unfold gN; rw[aA hk01]
  refine fin (t+1-n.Size) (fun b r hb hd hr x hx ht=>?_) fun k=>?_
  ·rw[eN]at hx;unfold gW at hx;split at hx
   ·cases hx
   ·rw[bY.1 hx]at ht;have ht:b+n.Size-1=t:=ht;exact hb (by omega)
  ·congr 2
   rw[wI hstep,wI hstep,pN];split
   ·unfold tC bZ;rw[mA];refine pE fun d _=>?_;rw[sN];simp only[cI,eJ];omega
   ·rfl
theorem aUZ(hn:aAP n){S:List aB->List aB}(hS0:S []=[])(hp:∀ r,p r=true->r.1=t):
  wt p (oQ n S (cS (aW (bW n 0 A))) A)=wt p (oQ n S (cS (aW (bW n 0 (bZ A (t-(n.Size-1)) t)))) (bZ A (t-(n.Size-1)) t)):=by
 have hz:=hn.size;have hstep:0<n.Size:=by omega
 have hsub:∀ x,x∈bZ A (t-(n.Size-1)) t->x∈A:=fun x hx=>(iF.1 hx).1;have hg:∀ b,Cr n S b []=[]:=fun b=>by unfold Cr; rw[hS0]; rfl
 have htm:∀ tm (r:List aB) left,∀ x,x∈rZ tm left r->x.Time=tm:=fun tm r=>by
  induction r with
  | nil=>intro left x hx; cases hx
  | cons d r ih=>
   intro left x hx;rw[rZ]at hx;rcases aU.1 hx with rfl | hx
   ·rfl
   ·exact ih _ x hx
 have h1:∀ b r,b≠t+1-n.Size->n.Size∣b->(∀ x,x∈r->b<=x.Time/\x.Time<b+n.Size)->∀ x,x∈Cr n S b r->x.Time≠t:=fun b r hb hd hr x hx ht=>by have:=htm _ _ _ x hx;exact hb (by omega)
 unfold oQ;rw[Cx hstep hg h1 hp,Cx hstep hg h1 hp,wV (l:=A) hsub fun k hk=>by rw[show inB n.Size n.Size (t+1-n.Size) (ofK n 0 k (bZ A (t-(n.Size-1)) t))=[] by rw[hk]; rfl,hg]; rfl];refine jM fun k _=>?_
 congr 2
 rw[wI hstep,wI hstep,pN];split
 ·unfold tC bZ;rw[mA];refine pE fun d _=>?_;rw[sN];simp only[cI,eJ];omega
 ·rfl
theorem aPS(h6:n.Op=6)(hB:okB n)(hp:∀ r,p r=true->r.1=t):
  wt p (rG n A B)=wt p (rG n (bZ A (t-dR n) t) (bZ B (t-dR n) t)):=by
 have hb:=hB.b;have ha:=hB.a;have hm:n.Before<=dR n/\n.After<=dR n:=by unfold dR;rw[aE (by omega),aA h6];split <;> omega
 have hr:∀ R a,qT n R a=tX n 0 R a:=fun R a=>by unfold qT; rw[aA h6]
 have e0:∀ (c:List aB) (a:aB),tX n 0 c a=(bZ c (a.Time-n.Before) (a.Time+n.After)).map (mG 0 a):=fun c a=>by unfold tX;rw[aE (by decide),aE (by decide)]
 have pt:∀ a b:aB,p (pl (mG 0 a b))=true->(if b.Time>a.Time then b.Time else a.Time)=t:=fun a b h=>by have:=hp _ h;rw[Yg]at this;exact this
 unfold rG;rw[uF,uF,sU (l:=A) fun d=>decide (t-dR n<=d.Time)&&decide (d.Time<=t)]
 ·show Em _ (bZ A (t-dR n) t)=_;refine Fy fun a hna=>?_;have hna:=(iF.1 hna).2;rw[hr,hr,e0,e0,pN,Jh];refine(Ds (mG 0 a) (fun d=>decide (t-dR n<=d.Time)&&decide (d.Time<=t)) fun b hb' hq=>?_).symm;have hbt:=(iF.1 hb').2;cases hc:p (pl (mG 0 a b)) with
  | false=>rfl
  | true=>
   have h1:=pt a b hc;have:t-dR n<=b.Time/\b.Time<=t:=by split at h1 <;> omega
   rw[bJ this.1,bJ this.2]at hq;cases hq
 ·intro a ha' hq;rw[hr,e0];refine vL fun y hy=>?_;obtain⟨b,hb',rfl⟩:=dC.1 hy;have hbt:=(iF.1 hb').2;cases hc:p (pl (mG 0 a b)) with
  | false=>rfl
  | true=>
   have h1:=pt a b hc;have:t-dR n<=a.Time/\a.Time<=t:=by split at h1 <;> omega
   rw[bJ this.1,bJ this.2]at hq;cases hq
theorem aRJ(h7:n.Op=7)(hK:1<=n.Keep/\n.Keep<=10000)(hp:∀ r,p r=true->r.1=t):
  wt p (rG n A B)=wt p (rG n (bZ A (t-dR n) t) (bZ B (t-dR n) t)):=by
 have hm:dR n=n.Keep-1:=by unfold dR;rw[aE (by omega),aE (by omega),aA h7]
 have hr:∀ R a,qT n R a=kJ n R a:=fun R a=>by unfold qT; rw[aE (by omega)]
 have none:∀ R a,a.Time≠t->wt p (kJ n R a)=0:=fun R a ha=>vL fun y hy=>by
  unfold kJ at hy;split at hy
  ·cases hy
  ·rw[bY.1 hy];cases hc:p (pl (tH a ((bZ R (a.Time-n.Keep+1) a.Time).getD ((bZ R (a.Time-n.Keep+1) a.Time).length-1) default) a.Time a.N)) with
   | false=>rfl
   | true=>exact absurd (hp _ hc) ha
 unfold rG;rw[uF,uF,sU (l:=A) fun d=>decide (t-dR n<=d.Time)&&decide (d.Time<=t)]
 ·show Em _ (bZ A (t-dR n) t)=_;refine Fy fun a hna=>?_;rw[hr,hr,pN];by_cases hat:a.Time=t
  ·congr 1
   refine Ug ?_;rw[Jh];unfold bZ;rw[mA];refine pE fun d _=>?_;rw[sN];simp only[cI,eJ];omega
  ·rw[none _ _ hat,none _ _ hat]
 ·intro a ha' hq;rw[hr];refine none _ _ fun hat=>?_;rw[bJ (show t-dR n<=a.Time by omega),bJ (show a.Time<=t by omega)]at hq;cases hq
theorem Xp{n:aG}{key:List aF}{lo:Int}:∀ {qs u:List dM} {x:aB},x∈jK n key lo u qs->∃ q,q∈qs/\x.Time=q.time_
 | [],u,x,hx=>by cases hx
 | q::qs,u,x,hx=>by
  rw[jK]at hx;rcases dH.1 hx with hx | hx
  ·refine⟨q,cC,?_⟩;split at hx
   ·unfold Ck at hx;split at hx
    ·rw[bY.1 hx];show ((u++[q]).getLastD default).time_=q.time_;rw[uW]
    ·cases hx
   ·cases hx
  ·obtain⟨r,hr,e⟩:=Xp hx;exact⟨r,cH _ hr,e⟩
theorem aZG(hz:1<=n.Size/\n.Size<=10000){L:List aB}{key:List aF}(hts:TS L)(hk:∀ d,d∈L->nT n d.Row=key)(hp:∀ r,p r=true->r.1=t):
  wt p (Nq fs n L)=wt p (Nq fs n (bZ L (t-(n.Size-1)) t)):=by
 rw[Ot hk,Ot (key:=key) fun d hd=>hk d (iF.1 hd).1];have out:∀ (u qs:List dM),(∀ q,q∈qs->q.time_≠t)->wt p (jK n key 0 u qs)=0:=fun u qs h=>vL fun y hy=>by
  obtain⟨q,hq,e⟩:=Xp hy;cases hc:p (pl y) with
  | false=>rfl
  | true=>exact absurd (e.symm.trans (hp _ hc)) (h q hq)
 have e1:=zV (t-(n.Size-1)) hts;have e2:=zV t (hts.filter fun d=>decide (t-(n.Size-1)<=d.Time));have e3:=zV (t+1) ((hts.filter fun d=>decide (t-(n.Size-1)<=d.Time)).filter fun d=>decide (t<=d.Time));have eN:bZ L (t-(n.Size-1)) t=((L.filter fun d=>decide (t-(n.Size-1)<=d.Time)).filter fun d=>decide (d.Time<t))++(((L.filter fun d=>decide (t-(n.Size-1)<=d.Time)).filter fun d=>decide (t<=d.Time)).filter fun d=>decide (d.Time<t+1)):=by
  have e4:=zV t ((hts.filter fun d=>decide (t-(n.Size-1)<=d.Time)).filter fun d=>decide (d.Time<=t));have e5:bZ L (t-(n.Size-1)) t=(L.filter fun d=>decide (t-(n.Size-1)<=d.Time)).filter fun d=>decide (d.Time<=t):=by unfold bZ;rw[mA];exact pE fun d _=>by rw[Bool.and_comm]
  rw[e5,e4]
  congr 1
  ·rw[mA];refine pE fun d _=>?_;rw[sN];simp only[cI,eJ];omega
  ·simp only[mA];refine pE fun d _=>?_;rw[sN];simp only[cI,eJ];omega
 rw[eN]
 conv=>lhs; rw[e1,e2,e3]
 have m1:∀ q,q∈plA fs n (L.filter fun d=>decide (d.Time<t-(n.Size-1)))->q.time_<t-(n.Size-1):=fun q hq=>by obtain⟨d,hd,e⟩:=Da hq;have:=dP (fE.1 hd).2;omega
 have m2:∀ q,q∈plA fs n ((L.filter fun d=>decide (t-(n.Size-1)<=d.Time)).filter fun d=>decide (d.Time<t))->q.time_<t:=fun q hq=>by obtain⟨d,hd,e⟩:=Da hq;have:=dP (fE.1 hd).2;omega
 have m3:∀ q,q∈plA fs n (((L.filter fun d=>decide (t-(n.Size-1)<=d.Time)).filter fun d=>decide (t<=d.Time)).filter fun d=>decide (d.Time<t+1))->q.time_=t:=fun q hq=>by obtain⟨d,hd,e⟩:=Da hq;have h1:=dP (fE.1 hd).2;have h2:=dP (fE.1 (fE.1 hd).1).2;omega
 have m4:∀ q,q∈plA fs n (((L.filter fun d=>decide (t-(n.Size-1)<=d.Time)).filter fun d=>decide (t<=d.Time)).filter fun d=>decide (t+1<=d.Time))->t<q.time_:=fun q hq=>by obtain⟨d,hd,e⟩:=Da hq;have:=dP (fE.1 hd).2;omega
 generalize L.filter (fun d=>decide (d.Time<t-(n.Size-1)))=S1 at m1;generalize (L.filter fun d=>decide (t-(n.Size-1)<=d.Time)).filter (fun d=>decide (d.Time<t))=S2 at m2;generalize ((L.filter fun d=>decide (t-(n.Size-1)<=d.Time)).filter fun d=>decide (t<=d.Time)).filter (fun d=>decide (d.Time<t+1))=S3 at m3;generalize ((L.filter fun d=>decide (t-(n.Size-1)<=d.Time)).filter fun d=>decide (t<=d.Time)).filter (fun d=>decide (t+1<=d.Time))=S4 at m4;rw[Cz,Cz,Cz,Cz,qA,qA,qA,qA,gE,gE,gE,gE];rw[out _ _ fun q hq=>by have:=m1 q hq; omega,out _ (plA fs n S2) fun q hq=>by have:=m2 q hq; omega,out _ (plA fs n S4) fun q hq=>by have:=m4 q hq; omega,out _ (plA fs n S2) fun q hq=>by have:=m2 q hq; omega];rw[oU,oU,Oq fun u hu q hq=>by have h3:=m1 u hu; have h4:=m3 q hq; omega];omega
theorem aDK(hz:1<=n.Size/\n.Size<=10000)(hts:TS A)(hp:∀ r,p r=true->r.1=t):
  wt p (rV fs n (cS (aW (bW n 0 A))) A)=wt p (rV fs n (cS (aW (bW n 0 (bZ A (t-(n.Size-1)) t)))) (bZ A (t-(n.Size-1)) t)):=by
 have hsub:∀ x,x∈bZ A (t-(n.Size-1)) t->x∈A:=fun x hx=>(iF.1 hx).1;unfold rV;rw[uA,uA,wV (l:=A) hsub fun k hk=>by rw[hk]; rfl];refine jM fun k _=>?_;rw[pN];by_cases h0:ofK n 0 k A=[]
 ·rw[h0]; rfl
 ·exact aZG hz (hts.sublist nI) (fun d hd=>Ni (aQ (gR.2 h0)) d hd) hp
theorem gG.wn(h:gG fs n ta tb)(h4:n.Op=4)(hk:n.Key.length<=20):Ep n:=by
 obtain⟨hz,hkd⟩:=h.b.w h4;obtain⟨_,_,h12⟩:=h.w h4;refine⟨hz,?_,hk,by omega⟩;rcases hkd with h | ⟨h,hs,_⟩ | ⟨h,hs⟩
 ·exact .inl h
 ·exact .inr (.inl ⟨h,hs⟩)
 ·exact .inr (.inr ⟨h,by omega,by omega⟩)
theorem gG.ag(h:gG fs n ta tb)(h4:n.Op=4)(hA:NIn ta A):Kv n A:=fun g hg=>by
 by_cases h0:g.Kind=0
 ·exact .inl h0
 ·refine .inr fun d hd=>?_;have:=((h.w h4).2.1 g hg).2.1 h0;rw[(hA.row d hd).1]; exact this
theorem gG.tp(h:gG fs n ta tb)(h5:n.Op=5)(hk:n.Key.length<=20):aAP n:=⟨(h.b.t h5).1,(h.b.t h5).2,hk⟩
theorem gG.ts(h:gG fs n ta tb)(h5:n.Op=5)(hA:NIn ta A):St.okTs n A:=fun d hd=>by have:=(h.t h5).2;exact⟨this.1,by rw[(hA.row d hd).1]; exact this.2⟩
theorem gG.pn(h:gG fs n ta tb)(h8:n.Op=8):aID n:=⟨h8,(h.b.p h8).2,(h.b.p h8).1,(h.p h8).2.2⟩
theorem gG.gt(h:gG fs n ta tb)(h8:n.Op=8)(hl:okL 104 eH fs)(hn:kH n)(hA:NIn ta A):aAZ fs n A:=by obtain⟨_,_,_,_,_,_,_,_,_,_,_,_,_,_,hS,_⟩:=hn;have hp:=h.p h8;have ev:=fun {d:aB} (hd:d∈A) {i:Nat} (hi:i<n.Seq.length)=>evE hl h.fr hA (hS.2 _ (aQ hi)).1 (hp.1 i hi).1 hd;have hla:=h.la;exact⟨hA.okI (by omega) hp.2.1,fun d hd i hi=>by rw[(ev hd hi).1]; rfl,fun d hd i hi=>(ev hd hi).2.1,fun d hd=>(hA.n d hd).2,by have:=hA.len; omega⟩
theorem ksl(n:aG)(h:A.length<=200):(cS (aW (bW n 0 A))).length<=200:=by have:=jG n 0 A;rw[jP]; unfold aW; rw[bQ]; omega
noncomputable def Pv (fs:List aV)(n:aG)(A B:List aB):List aB:=
 if n.Op=1 then A.filter fun d=>Gi fs n (pl d) else if n.Op=2 then A.map (Mg fs n) else if n.Op=3 then A++B
 else if n.Op=4 then jT n (cS (aW (bW n 0 A))) A else if n.Op=5 then oQ n (Ax n) (cS (aW (bW n 0 A))) A
 else if n.Op=8 then rV fs n (cS (aW (bW n 0 A))) A else rG n A B
theorem Jf{fs:List aV}{n:aG}{A:List aB}(hA:∀ d,d∈A->d.N<=1000)(hl:A.length<=200):∀ ks:List ByteArray,(rV fs n ks A).length<=ks.length*200000
 | []=>by simp[rV]
 | k::ks=>by have h1:=Pi (fs:=fs) (n:=n) (l:=ofK n 0 k A) fun d hd=>hA d (jX.1 hd).1;have h2:=iU n 0 k A;have h3:=Jf (fs:=fs) (n:=n) hA hl ks;unfold rV at h3 ⊢;rw[fH,bX,dA]; omega
theorem Yb(hR:gG fs n ta tb)(hk:n.Key.length<=20)(h1:1<=n.Op)(hl:okL 104 eH fs)(hn:kH n)(hA:NIn ta A)(hB:NIn tb B):okD (Pv fs n A B)/\(Pv fs n A B).length<=10000000000000 / 100:=by
 have hla:=hR.la;have hlb:=hR.lb;have hal:=hA.len;have hbl:=hB.len;have hks:=ksl n hal;have hop:=hR.b.op;unfold Pv;by_cases o1:n.Op=1
 ·rw[aA o1];have:=tY (fun d=>Gi fs n (pl d)) A;exact⟨(hA.okD hla.2).sub fun x hx=>(fE.1 hx).1,by omega⟩
 ·rw[aE o1];by_cases o2:n.Op=2
  ·rw[aA o2];have he:=(hR.m o2).1;refine⟨⟨fun x hx'=>?_,fun x hx'=>?_⟩,by rw[bQ]; omega⟩
   ·obtain⟨d,hd,rfl⟩:=dC.1 hx';unfold okR Mg Nr;simp only[bQ]; omega
   ·obtain⟨d,hd,rfl⟩:=dC.1 hx';exact hA.can.n64 d hd
  ·rw[aE o2];by_cases o3:n.Op=3
   ·rw[aA o3];exact⟨(hA.okD hla.2).app (hB.okD hlb.2),by rw[bX]; omega⟩
   ·rw[aE o3];by_cases o4:n.Op=4
    ·rw[aA o4];have hw:=hR.wn o4 hk;have:=Hk hw hA.t (by omega) (cS (aW (bW n 0 A)));exact⟨Gd hw _ _,by omega⟩
    ·rw[aE o4];by_cases o5:n.Op=5
     ·rw[aA o5];have hS:=Ky (n:=n) hA.can.lt (hR.ts o5 hA) (by omega);have hm:=Ql (n:=n) (S:=Ax n) (ks:=cS (aW (bW n 0 A))) (fun d hd=>by have:=hA.n d hd; omega) (by have:=(hR.b.t o5).2; omega) fun r hr=>(hS r hr).2;have:=Gw (hR.tp o5 hk) hA.t (by omega) (fun r hr=>(hS r hr).2) (cS (aW (bW n 0 A)));have hkp:=(hR.b.t o5).2;refine⟨⟨fun x hx=>?_,fun x hx=>?_⟩,by omega⟩
      ·obtain⟨⟨d,hd,e⟩,_⟩:=hm x hx;have:=(hA.row d hd).1;unfold okR; rw[e]; omega
      ·have:=(hm x hx).2;exact⟨by omega,by omega⟩
     ·rw[aE o5];by_cases o8:n.Op=8
      ·rw[aA o8];have:=Jf (fs:=fs) (n:=n) (fun d hd=>(hA.n d hd).2) hal (cS (aW (bW n 0 A)));exact⟨Rt (hR.pn o8) _ _,by omega⟩
      ·rw[aE o8];obtain⟨j1,j2,_⟩:=hR.j (by omega);have ho:=Lw (hA.okI hla.2 (n:=n) (i:=0) j1) (hB.okI hlb.2 (n:=n) (i:=1) j2);exact⟨ho,gY (gY (Fw (c:=200) hbl) (sX hal (cR _))) (by omega)⟩
theorem Rl(hR:gG fs n ta tb)(hk:n.Key.length<=20)(h1:1<=n.Op)(hl:okL 104 eH fs)(hn:kH n)(hA:NIn ta A)(hB:NIn tb B)(l:List (List aB))(hc:nIn n=1/\l=[A]\/nIn n=2/\l=[A,B]):
  mC fs n l=some (cons (Pv fs n A B)):=by
 have hla:=hR.la;have hlb:=hR.lb;have hal:=hA.len;have hop:=hR.b.op;have hE:=hn.2.2.2.2.1;have two:n.Op=3\/n.Op=6\/n.Op=7->l=[A,B]:=fun h=>hc.elim (fun h'=>by unfold nIn at h'; rw[aE (by omega),aA h]at h'; omega) fun h'=>h'.2;obtain⟨r,hr⟩:∃ r,l=A::r:=hc.elim (fun h=>⟨[],h.2⟩) fun h=>⟨[B],h.2⟩;unfold Pv;by_cases o1:n.Op=1
 ·rw[aA o1,hr]; exact aXR o1 hl hR.fr hE (hR.f o1) hla.2 hA r
 ·rw[aE o1];by_cases o2:n.Op=2
  ·rw[aA o2,hr]; exact aSE o2 hl hR.fr hE (hR.m o2) hA r
  ·rw[aE o2];by_cases o3:n.Op=3
   ·rw[aA o3,two (.inl o3)];have:=hR.u o3;subst this;exact aRX o3 hla.2 hA hB
   ·rw[aE o3];by_cases o4:n.Op=4
    ·rw[aA o4,hr]; exact Uj o4 (hR.wn o4 hk) (hA.okI hla.2 (hR.w o4).1) (hR.ag o4 hA) (by omega) r
    ·rw[aE o4];by_cases o5:n.Op=5
     ·rw[aA o5,hr]; exact aHG o5 (hR.tp o5 hk) (hA.okI hla.2 (hR.t o5).1) (fun d hd=>by have:=hA.n d hd; omega) hA.can.lt (hR.ts o5 hA) (by omega) r
     ·rw[aE o5];by_cases o8:n.Op=8
      ·rw[aA o8,hr]; exact aTY (hR.pn o8) (hR.gt o8 hl hn hA) hA.can (by omega) r
      ·rw[aE o8];obtain⟨j1,j2,j3,_⟩:=hR.j (by omega);by_cases o6:n.Op=6
       ·rw[two (.inr (.inl o6))]; exact aVH o6 (hR.b.j o6) ⟨hk,by omega⟩ hla.2 hlb.2 j1 j2 hA hB
       ·rw[two (.inr (.inr (by omega)))]; exact aTQ (by omega) (hR.b.a (by omega)) ⟨hk,by omega⟩ hla.2 hlb.2 j1 j2 hA hB
theorem Rc(hR:gG fs n ta tb):0<=dR n/\dR n<=10000:=by
 unfold dR;by_cases h:n.Op=4\/n.Op=5\/n.Op=8
 ·rw[aA h];have hz:1<=n.Size/\n.Size<=10000:=by
   rcases h with h | h | h
   ·exact(hR.b.w h).1
   ·exact(hR.b.t h).1
   ·exact(hR.b.p h).1
  omega
 ·rw[aE h];by_cases h6:n.Op=6
  ·rw[aA h6];have h1:=(hR.b.j h6).b;have h2:=(hR.b.j h6).a;split <;> omega
  ·rw[aE h6];by_cases h7:n.Op=7
   ·rw[aA h7];have:=hR.b.a h7;omega
   ·rw[aE h7]; omega
theorem aWS(hR:gG fs n ta tb)(hk:n.Key.length<=20)(h1:1<=n.Op)(hA:NIn ta A)(hB:NIn tb B)(hp:∀ r,p r=true->r.1=t):
  wt p (Pv fs n A B)=wt p (Pv fs n (bZ A (t-dR n) t) (bZ B (t-dR n) t)):=by
 have hbk:=Rc hR;have hal:=hA.len;have near:∀ {q:Pl->Bool},(∀ r,q r=true->r.1=t)->∀ l,wt q (bZ l (t-dR n) t)=wt q l:=fun hq l=>aRB (fun r hr=>by have:=hq r hr; omega) l;have e458:n.Op=4\/n.Op=5\/n.Op=8->dR n=n.Size-1:=fun h=>by unfold dR; rw[aA h]
 unfold Pv;by_cases o1:n.Op=1
 ·rw[aA o1,aA o1,kZ,kZ];refine(near (fun r hr=>?_) A).symm;rw[cI]at hr;exact hp r hr.1
 ·rw[aE o1,aE o1];by_cases o2:n.Op=2
  ·rw[aA o2,aA o2,Mk,Mk];exact(near (q:=fun r=>p (r.1,Nr fs n r)) (fun r hr=>hp (r.1,Nr fs n r) hr) A).symm
  ·rw[aE o2,aE o2];by_cases o3:n.Op=3
   ·rw[aA o3,aA o3,gE,gE,near hp,near hp]
   ·rw[aE o3,aE o3];by_cases o4:n.Op=4
    ·rw[aA o4,aA o4,e458 (.inl o4)];exact aVK (hR.wn o4 hk) hA.can.ts hp
    ·rw[aE o4,aE o4];by_cases o5:n.Op=5
     ·rw[aA o5,aA o5,e458 (.inr (.inl o5))];have hS:=Ky (n:=n) hA.can.lt (hR.ts o5 hA) (by omega);exact aUZ (hR.tp o5 hk) (List.Perm.eq_nil (hS [] (List.nil_sublist _)).2) hp
     ·rw[aE o5,aE o5];by_cases o8:n.Op=8
      ·rw[aA o8,aA o8,e458 (.inr (.inr o8))];exact aDK (hR.b.p o8).1 hA.can.ts hp
      ·rw[aE o8,aE o8];have:=hR.b.op;by_cases o6:n.Op=6
       ·exact aPS o6 (hR.b.j o6) hp
       ·exact aRJ (by omega) (hR.b.a (by omega)) hp
theorem aFE{l l':List (List aB)}{X Y:List aB}(g1:mC fs n l=some (cons X))(g2:mC fs n l'=some (cons Y))(hX:okD X)(hY:okD Y)(lX:X.length<=100000000000)(lY:Y.length<=100000000000)(h:∀ p:Pl->Bool,(∀ r,p r=true->r.1=t)->wt p X=wt p Y):
  Sp ((mC fs n l).bind fun r=>(aHV r t t).bind fun r_1=>(mC fs n l').bind fun r_2=>(aHV r_2 t t).bind fun r_3=>(if True then (aOH r_1 r_3).bind fun r=>some r else some false).bind fun r=>some r) (fun z=>z=true):=by
 have k1:=sO X;have k2:=sO Y;have e:bZ (cons X) t t=bZ (cons Y) t t:=by
  unfold bZ;have f1:=Qo hX.n fun r=>decide (t<=r.1)&&decide (r.1<=t);have f2:=Qo hY.n fun r=>decide (t<=r.1)&&decide (r.1<=t);refine f1.symm.trans (Eq.trans ?_ f2);refine(iO fun x hx=>hX.n x (fE.1 hx).1).ext (iO fun x hx=>hY.n x (fE.1 hx).1) fun p=>?_;rw[iW _ p,iW _ p,kZ p (fun r=>decide (t<=r.1)&&decide (r.1<=t)),kZ p (fun r=>decide (t<=r.1)&&decide (r.1<=t))]
  congr 1
  refine h _ fun r hr=>?_;simp only[cI,eJ]at hr;omega
 have hl:=pM (cons Y) t t;rw[g1];simp only[aJ];rw[Lf _ _ _ (by omega)];simp only[aJ];rw[g2];simp only[aJ];rw[Lf _ _ _ (by omega)];simp only[aJ,fJ];rw[e,aBO _ (fun x hx=>hY.cons.r x (iF.1 hx).1) (by omega)];exact aC.2 rfl
theorem aCI(t:Int)(r2:List (List aB)×Bool)(bk f:Int)(l:List (List aB))(h:r2.1=l)(hl:l.length<=2)(hb:0<=bk/\bk<=10000)(ht:0<=t/\t<=4398046511104)(hL:∀ x,x∈l->x.length<=1000):cK (fun s=>(yG t r2 (bk,f) s).den) ([],0)=some (.inl (l.map fun x=>bZ x (t-bk) t)):=by
 subst h;have h2:=bB (bd:=fun s=>(yG t r2 (bk,f) s).den) (fun k=>((r2.1.take k).map fun x=>bZ x (t-bk) t,(k:Int))) r2.1.length (r:=.inl (r2.1.map fun x=>bZ x (t-bk) t)) (fun k hk=>?_) ?_
 ·rw[<-h2]; rfl
 ·unfold yG;simp only[Tr.den,aR];have:=hL _ (aQ hk);rw[aA (bJ (by omega)),aA (by omega),bE (n:=t-bk) (by omega) (by omega),Lf _ _ _ (by omega)];simp only[aJ];rw[aA (by simp only[bQ,cE,eE]; omega),aN (by omega),aO hk,lR];rfl
 ·unfold yG;simp only[Tr.den];rw[aE (cB (by omega)),dI]
theorem aBQ(fs:List aV)(n:aG)(a b:List aB)(ts:List (List Int))(t:Int)(hl:okL 104 eH fs)(hn:kH n)(ha:okL 40 eC a)(hb:okL 40 eC b)(ht:okL 24 (okL 8 eI) ts)(_:eI t):aAJ fs n a b ts t=some true:=by
 unfold aAJ aUO;simp only[Tr.den];rw[aLJ];simp only[aJ];refine Sp.eq ?_;refine Sq.bind _ (aLK fs n a b ts 40 (by omega) hl hn ha hb ht.1 fun t h=>(ht.2 t h).1) fun r2 hr=>?_;refine Sq.bind (fun j:Bool=>j=false->r2.2=true/\0<=t/\t<=4398046511104) ?_ fun j hj=>?_
 ·refine bP (fun _=>aC.2 fun h=>by cases h) fun q=>bP (fun _=>aC.2 fun h=>by cases h) fun q1=>aC.2 fun q2=>?_;have q1:=gM q1;have q2:=gM q2;exact⟨by simpa using q,by omega,by omega⟩
 ·cases j with
  | true=>exact aC.2 rfl
  | false=>
   obtain⟨q,htm⟩:=hj rfl;obtain⟨ta,tb,hR,hk20,hF,_,hcase⟩:=hr q;simp only[dO,dL];have NA:=hF.nin (by omega) ha;have hop:=hR.b.op;have h1:1<=n.Op:=by
    by_cases h0:n.Op=0
    ·have:nIn n=0:=by unfold nIn; rw[aA h0]
     rcases hcase with⟨_,_,h2,_⟩ | ⟨_,h2,_⟩ <;> omega
    ·omega
   obtain⟨f,hf⟩:=aOZ hR.b h1;have hbk:=Rc hR;rw[hf];simp only[aJ];have hal:=NA.len;obtain⟨B,l,NB,e,hl2,hL,hc⟩:∃ B l,NIn tb B/\r2.1=l/\l.length<=2/\(∀ x,x∈l->x.length<=1000)/\(nIn n=1/\l=[cons a]\/nIn n=2/\l=[cons a,B]):=by
    rcases hcase with⟨e,hab,hin,hr1⟩ | ⟨e,hin,hFb,hr1⟩
    ·exact⟨[],_,NIn.nil tb,hr1,by simp,fun x hx=>by rw[bY.1 hx]; omega,.inl ⟨hin,rfl⟩⟩
    ·have NB:=hFb.nin (by omega) hb;have hbl:=NB.len;exact⟨cons b,_,NB,hr1,by simp,fun x hx=>by
      rcases aU.1 hx with rfl | hx
      ·omega
      ·rw[bY.1 hx]; omega,.inr ⟨hin,rfl⟩⟩
   rw[aCI t r2 (dR n) f l e hl2 hbk htm hL];simp only[aJ,sel];rw[e];have NA':=NA.near (t-dR n) t;have NB':=NB.near (t-dR n) t;have o1:=Yb hR hk20 h1 hl hn NA NB;have o2:=Yb hR hk20 h1 hl hn NA' NB';exact aFE (Rl hR hk20 h1 hl hn NA NB l hc) (Rl hR hk20 h1 hl hn NA' NB' _ (hc.imp (fun h=>⟨h.1,by rw[h.2]; rfl⟩) fun h=>⟨h.1,by rw[h.2]; rfl⟩)) o1.1 o2.1 o1.2 o2.2 fun p hp=>aWS hR hk20 h1 NA NB hp
end Go.PL
