/-
  Parts: Plain law of the meanings: what the meaning is at a time comes from the rows near it. Own work. Plain law of the meanings: MeaningBack. Own work. Plain law of the reference's meanings: groups by key and window, as 'put' keeps them. Own work. Plain law of the reference's meanings: windows. Own work. Plain law of the reference's meanings: what windows yield. Own work. Plain law of the reference's meanings: tops. Own work. Plain law of patterns: the reference's matches of the rows of one key. Own work. Plain law of patterns: the reference's matches of the rows of one key, all together. Own work. Plain law of patterns: the reference's matches of one key: the result. Own work. Plain law of the reference's meanings: a node. Own work. Plain law of the meanings: MeaningTells. Own work.
-/
import Derived.Test.YtjefblkdnolgaaaGreatDoorMj
set_option maxHeartbeats 4000000
namespace Go.PL
open Go
set_option linter.unusedVariables false
set_option maxRecDepth 20000
variable {A B P:List aB} {a2:aT} {fs:List aS} {i j k:Nat} {l:List (List aB)} {len step:Int} {n:aG} {ta tb:List Int}
theorem fV.wn(h:fV fs n ta tb)(h4:n.Op=4)(hk:n.Key.length<=20):wO n:=by obtain⟨D,G⟩:=h.b.w h4;obtain⟨_,_,J⟩:=h.w h4;refine⟨D,?_,hk,by omega⟩;omega
theorem fV.ag(h:fV fs n ta tb)(h4:n.Op=4)(hA:NIn ta A):Ct n A:=fun g hg=>by
 by_cases G:g.Kind=0
 ·omega
 ·refine .inr fun d D=>?_;have:=((h.w h4).2.1 g hg).2.1 G;rw[(hA.row d D).1]; omega
theorem fV.tp(h:fV fs n ta tb)(D:n.Op=5)(hk:n.Key.length<=20):Tf n:=⟨(h.b.t D).1,(h.b.t D).2,hk⟩
theorem fV.ts(h:fV fs n ta tb)(G:n.Op=5)(hA:NIn ta A):St.okTs n A:=fun d D=>by have:=(h.t G).2;exact⟨this.1,by rw[(hA.row d D).1]; omega⟩
theorem fV.pn(h:fV fs n ta tb)(D:n.Op=8):Rk n:=⟨D,(h.b.p D).2,(h.b.p D).1,(h.p D).2.2⟩
theorem fV.gt(h:fV fs n ta tb)(J:n.Op=8)(hl:okL 104 dK fs)(hn:iO n)(hA:NIn ta A):aDJ fs n A:=by obtain⟨_,_,_,_,_,_,_,_,_,_,_,_,_,_,G,_⟩:=hn;have hp:=h.p J;have ev:=fun {d:aB} (D:d∈A) {i:Nat} (hi:i<n.Seq.length)=>evE hl h.fr hA (G.2 _ (aM hi)).1 (hp.1 i hi).1 D;have M:=h.la;exact⟨hA.okI (by omega) hp.2.1,fun d D i hi=>by simp_all,fun d D i hi=>(ev D hi).2.1,fun d D=>(hA.n d D).2,by have:=hA.len; omega⟩
theorem ksl(n:aG)(h:A.length<=200):(cK (aY (bO n 0 A))).length<=200:=by have:=jD n 0 A;rw[kI]; unfold aY; grind
noncomputable def Mn (fs:List aS)(n:aG)(A B:List aB):List aB:=
 if n.Op=1 then A.filter fun d=>rR fs n (pl d) else if n.Op=2 then A.map (rQ fs n) else if n.Op=3 then A++B
 else if n.Op=4 then kB n (cK (aY (bO n 0 A))) A else if n.Op=5 then mN n (rK n) (cK (aY (bO n 0 A))) A
 else if n.Op=8 then rP fs n (cK (aY (bO n 0 A))) A else mA n A B
theorem Au{fs:List aS}{n:aG}{A:List aB}(hA:∀ d,d∈A->d.N<=1000)(hl:A.length<=200):∀ ks:List ByteArray,(rP fs n ks A).length<=ks.length*200000
 | []=>by simp[rP]
 | k::ks=>by have h1:=Gc (fs:=fs) (n:=n) (l:=ofK n 0 k A) fun d hd=>hA d (gW.1 hd).1;have h2:=iR n 0 k A;have h3:=Au (fs:=fs) (n:=n) hA hl ks;unfold rP at h3 ⊢;grind
theorem aBL(D:fV fs n ta tb)(hk:n.Key.length<=20)(h1:1<=n.Op)(hl:okL 104 dK fs)(hn:iO n)(hA:NIn ta A)(hB:NIn tb B):okD (Mn fs n A B)/\(Mn fs n A B).length<=10000000000000 / 100:=by
 have M:=D.la;have hlb:=D.lb;have Q:=hA.len;have hbl:=hB.len;have hks:=ksl n Q;have hop:=D.b.op;unfold Mn;by_cases o1:n.Op=1
 ·rw[aA o1];have:=lM (fun d=>rR fs n (pl d)) A;exact⟨(hA.okD M.2).sub fun x hx=>(iQ.1 hx).1,by omega⟩
 ·rw[aF o1];by_cases o2:n.Op=2
  ·rw[aA o2];have he:=(D.m o2).1;refine⟨⟨fun x J=>?_,fun x J=>?_⟩,by grind⟩
   ·obtain⟨d,G,rfl⟩:=cU.1 J;unfold okR rQ Qw;grind
   ·obtain⟨d,G,rfl⟩:=cU.1 J;exact hA.can.n64 d G
  ·rw[aF o2];by_cases o3:n.Op=3
   ·rw[aA o3];exact⟨(hA.okD M.2).app (hB.okD hlb.2),by grind⟩
   ·rw[aF o3];by_cases o4:n.Op=4
    ·rw[aA o4];have hw:=D.wn o4 hk;have:=Gr hw hA.t (by omega) (cK (aY (bO n 0 A)));exact⟨xU hw _ _,by omega⟩
    ·rw[aF o4];by_cases Z:n.Op=5
     ·rw[aA Z];have hS:=aAC (n:=n) hA.can.lt (D.ts Z hA) (by omega);have hm:=Ui (n:=n) (S:=rK n) (ks:=cK (aY (bO n 0 A))) (fun d G=>by have:=hA.n d G; omega) (by have:=(D.b.t Z).2; omega) fun r hr=>(hS r hr).2;have:=Gz (D.tp Z hk) hA.t (by omega) (fun r hr=>(hS r hr).2) (cK (aY (bO n 0 A)));have hkp:=(D.b.t Z).2;refine⟨⟨fun x hx=>?_,fun x hx=>?_⟩,by omega⟩
      ·obtain⟨⟨d,G,e⟩,_⟩:=hm x hx;have:=(hA.row d G).1;unfold okR; rw[e]; omega
      ·have:=(hm x hx).2;exact⟨by omega,by omega⟩
     ·rw[aF Z];by_cases o8:n.Op=8
      ·rw[aA o8];have:=Au (fs:=fs) (n:=n) (fun d G=>(hA.n d G).2) Q (cK (aY (bO n 0 A)));exact⟨Ia (D.pn o8) _ _,by omega⟩
      ·rw[aF o8];obtain⟨j1,j2,_⟩:=D.j (by omega);have ho:=Og (hA.okI M.2 (n:=n) (i:=0) j1) (hB.okI hlb.2 (n:=n) (i:=1) j2);exact⟨ho,fW (fW (yB (c:=200) hbl) (qW Q (cM _))) (by omega)⟩
theorem aIC(D:fV fs n ta tb)(hk:n.Key.length<=20)(h1:1<=n.Op)(hl:okL 104 dK fs)(hn:iO n)(hA:NIn ta A)(hB:NIn tb B)(l:List (List aB))(hc:nIn n=1/\l=[A]\/nIn n=2/\l=[A,B]):
  oO fs n l=some (cons (Mn fs n A B)):=by
 have G:=D.la;have Q:=D.lb;have hal:=hA.len;have hop:=D.b.op;have hE:=hn.2.2.2.2.1;have J:n.Op=3\/n.Op=6\/n.Op=7->l=[A,B]:=fun h=>hc.elim (fun h'=>by unfold nIn at h'; grind) fun h'=>h'.2;obtain⟨r,hr⟩:∃ r,l=A::r:=hc.elim (fun h=>⟨[],h.2⟩) fun h=>⟨[B],h.2⟩;unfold Mn;by_cases o1:n.Op=1
 ·rw[aA o1,hr]; exact bCM o1 hl D.fr hE (D.f o1) G.2 hA r
 ·rw[aF o1];by_cases o2:n.Op=2
  ·rw[aA o2,hr]; exact bBE o2 hl D.fr hE (D.m o2) hA r
  ·rw[aF o2];by_cases o3:n.Op=3
   ·rw[aA o3,J (.inl o3)];have:=D.u o3;subst this;exact bCE o3 G.2 hA hB
   ·rw[aF o3];by_cases o4:n.Op=4
    ·rw[aA o4,hr]; exact Xb o4 (D.wn o4 hk) (hA.okI G.2 (D.w o4).1) (D.ag o4 hA) (by omega) r
    ·rw[aF o4];by_cases M:n.Op=5
     ·rw[aA M,hr]; exact aJC M (D.tp M hk) (hA.okI G.2 (D.t M).1) (fun d hd=>by have:=hA.n d hd; omega) hA.can.lt (D.ts M hA) (by omega) r
     ·rw[aF M];by_cases Z:n.Op=8
      ·rw[aA Z,hr]; exact aXU (D.pn Z) (D.gt Z hl hn hA) hA.can (by omega) r
      ·rw[aF Z];obtain⟨j1,j2,j3,_⟩:=D.j (by omega);by_cases o6:n.Op=6
       ·rw[J (.inr (.inl o6))]; exact aXM o6 (D.b.j o6) ⟨hk,by omega⟩ G.2 Q.2 j1 j2 hA hB
       ·rw[J (.inr (.inr (by omega)))]; exact bBY (by omega) (D.b.a (by omega)) ⟨hk,by omega⟩ G.2 Q.2 j1 j2 hA hB
abbrev Ev:=Int×Int×aB
abbrev EQ:=Int×Int×ByteArray
noncomputable section
open Classical in
def xV(qs:List EQ)(q:EQ):List EQ:=if q∈qs then qs else qs++[q]
def evK(n:aG)(x:Ev):EQ:=(x.1,x.2.1,kd n 0 x.2.2)
def qsE(n:aG)(E:List Ev):List EQ:=(E.map (evK n)).foldl xV []
open Classical in
def ofE(n:aG)(q:EQ)(E:List Ev):List aB:=(E.filter fun x=>decide (evK n x=q)).map (·.2.2)
def mL(n:aG)(E:List Ev)(q:EQ):aT:=⟨gP n ((ofE n q E).getD 0 default).Row,q.1,q.2.1,ofE n q E⟩
def gsE(n:aG)(E:List Ev):List aT:=(qsE n E).map (mL n E)
theorem Si(n:aG)(E:List Ev)(x:Ev):qsE n (E++[x])=xV (qsE n E) (evK n x):=by unfold qsE;simp_all
theorem Fs(n:aG)(q:EQ)(E:List Ev)(x:Ev):ofE n q (E++[x])=ofE n q E++(if evK n x=q then [x.2.2] else []):=by unfold ofE;grind
theorem Hq(l:List EQ):∀ qs:List EQ,qs.Nodup->(l.foldl xV qs).Nodup/\∀ q,q∈l.foldl xV qs↔q∈qs\/q∈l:=by
 induction l with
 | nil=>simp_all
 | cons a l ih=>
  intro qs h;rw[lU];by_cases ha:a∈qs
  ·have e:xV qs a=qs:=by unfold xV; rw[aA ha]
   grind
  ·have e:xV qs a=qs++[a]:=by unfold xV; rw[aF ha]
   rw[e];have D:(qs++[a]).Nodup:=zH.2 ⟨h,by simp,fun x hx y hy=>by grind⟩;refine⟨(ih _ D).1,fun q=>?_⟩;rw[(ih _ D).2 q,bE,dW,cZ,or_assoc]
theorem zX(n:aG)(E:List Ev):(qsE n E).Nodup:=(Hq _ [] List.nodup_nil).1
theorem nQ{E:List Ev}{q:EQ}:q∈qsE n E↔ofE n q E≠[]:=by unfold qsE;rw[(Hq _ [] List.nodup_nil).2 q];unfold ofE;simp_all
theorem Zu(n:aG)(E:List Ev):(qsE n E).length<=E.length:=by
 have:∀ (l:List EQ) (D:List EQ),(l.foldl xV D).length<=D.length+l.length:=by
  intro l
  induction l with
  | nil=>simp_all
  | cons a l ih=>
   intro D;rw[lU,fX];have:=ih (xV D a);have:(xV D a).length<=D.length+1:=by unfold xV; split <;> simp
   omega
 have h:=this (E.map (evK n)) [];rw[dH,rV]at h;unfold qsE; omega
theorem aNY{q:EQ}{E:List Ev}{d:aB}(h:d∈ofE n q E):(q.1,q.2.1,d)∈E/\kd n 0 d=q.2.2:=by unfold ofE at h;obtain⟨x,hx,rfl⟩:=cU.1 h;obtain⟨h1,h2⟩:=iQ.1 hx;have h2:=fK h2;subst h2;exact⟨h1,rfl⟩
theorem aSU(n:aG)(q:EQ)(E:List Ev):(ofE n q E).length<=E.length:=by unfold ofE; grind
theorem hdE{a:List aB}(h:a≠[]):a.getD 0 default∈a:=aM (fM.2 h)
theorem Um{E:List Ev}{q:EQ}(h:ofE n q E≠[]):Ad (mL n E q).key_=q.2.2:=(aNY (hdE h)).2
theorem Ak{E:List Ev}{q:EQ}{x:Ev}(h:ofE n q E≠[]):mL n (E++[x]) q=⟨(mL n E q).key_,q.1,q.2.1,ofE n q E++(if evK n x=q then [x.2.2] else [])⟩:=by
 have D:0<(ofE n q E).length:=fM.2 h;unfold mL;rw[Fs]
 congr 3
 rw[dV,dV,pO D]
theorem nO(n:aG)(E:List Ev):(gsE n E).length<=E.length:=by unfold gsE; rw[dH]; exact Zu n E
theorem Fq(E:List Ev)(b e:Int)(x:aB)(hk:n.Key.length<=20)(hE:E.length<=1000000000):
  Vt (gP n x.Row) b e x (gsE n E)=some (gsE n (E++[(b,e,x)])):=by
 obtain⟨Q,G⟩:∃ Q,evK n (b,e,x)=Q:=⟨_,rfl⟩;have hgl:∀ q,(mL n E q).key_.length<=20:=fun q=>by show (gP n _).length<=20; rw[pV]; exact hk
 have hof:=fun q=>aSU n q E;have hql:=Zu n E;refine Sp.eq ?_;unfold Vt Xs;simp only[Tr.den];refine Sq.bind (fun z:List aT⊕List aT=>match z with | .inl g=>g=gsE n E/\Q∉qsE n E | .inr r=>r=gsE n (E++[(b,e,x)])/\Q∈qsE n E) ?_ fun z hz=>?_
 ·refine dB (fun s:List aT×Int=>s.2) (qsE n E).length (by omega) (fun s=>s.1=gsE n E/\∀ j:Nat,(j:Int)<s.2->(qsE n E).getD j default≠Q) (fun s k hI hk hkN=>?_) ⟨rfl,fun j M=>absurd M (by omega)⟩ rfl;obtain⟨v1,v2⟩:=s;obtain⟨e1,hno⟩:=hI;simp only at hk e1 hno;subst hk;have hvl:v1.length=(qsE n E).length:=by rw[e1]; exact dH _
  unfold Js;simp only[Tr.den,aL];by_cases hc:k<(qsE n E).length
  ·obtain⟨q,J⟩:∃ q,(qsE n E).getD k default=q:=⟨_,rfl⟩;have D:v1.getD k default=mL n E q:=by rw[e1,<-J]; unfold gsE;rw[bU (by simp_all),mW,<-bU hc]
   have hkm:q∈qsE n E:=J▸aM hc;have hne:=nQ.1 hkm;have hb3:(v1.getD k default).key_.length<=1073741824:=by grind
   rw[aA bL,aA,aA ⟨by omega,trivial⟩];have hcmp:yE (v1.getD k default).key_ (gP n x.Row)=0↔q.2.2=kd n 0 x:=by
    rw[D,TO.row.eq];constructor
    ·intro h; rw[<-Um hne,h]; rfl
    ·intro h; exact Ix (by rw[Um hne,h]; rfl)
   have key:(if ((v1.getD k default).begin_==b)=true then (if 0<=(k:Int)/\(k:Int)<(v1.length:Int) then (if k<v1.length/\True then (if ((v1.getD k default).end_==e)=true then (if 0<=(k:Int)/\(k:Int)<(v1.length:Int) then (if k<v1.length/\True then (Oz (v1.getD k default).key_ (gP n x.Row)).bind fun r6=>some (v1,r6) else none) else none) else some (v1,false)) else none) else none) else some (v1,false))=some (v1,decide (q=Q)):=by
    by_cases h1:q.1=b
    ·rw[aA (fA (by rw[D]; exact h1)),aA,aA ⟨by omega,trivial⟩];by_cases h2:q.2.1=e
     ·rw[aA (fA (by rw[D]; exact h2)),aA,aA ⟨by omega,trivial⟩,nY _ _ hb3 (by rw[pV]; omega)];simp only[aI]
      congr 2
      rw[Bool.eq_iff_iff,dP,jX,hcmp,<-G];obtain⟨q1,q2,q3⟩:=q;simp only at h1 h2;subst h1 h2;exact⟨fun h=>by simp only at h; subst h; rfl,fun h=>by injection h with _ h; injection h⟩
     ·rw[aF (dJ (by rw[D]; exact h2)),kU];intro h; apply h2; rw[h,<-G]; rfl
    ·rw[aF (dJ (by rw[D]; exact h1)),kU];intro h; apply h1; rw[h,<-G]; rfl
   refine Sq.bind (fun z=>z=(v1,decide (q=Q))) (.of_eq key rfl) fun z hz=>?_;subst hz;simp only;refine bK (fun he=>?_) fun he=>?_
   ·have he:=fK he;have hl2:(v1.getD k default).l_=ofE n q E:=by rw[D]; rfl
    have hol:=hof q;have hc1:(((v1.getD k default).l_).length+1)*40<=140737488355328:=by grind
    rw[aA,aA,aA ⟨by omega,trivial,trivial⟩,aA hc1,aA,aA];refine aC.2 ⟨?_,he▸hkm⟩;have Z:qsE n (E++[(b,e,x)])=qsE n E:=by rw[Si,G]; unfold xV; rw[aA (he▸hkm)]
    rw[D,e1];unfold gsE;rw[Z];refine Rr (by simp) fun j h1 h2=>?_;rw[dH]at h2;rw[List.getElem_set,mW,mW];by_cases M:k=j
    ·subst M;rw[aA rfl];rw[bU hc]at J;rw[J,Ak hne,G,aA he.symm]; rfl
    ·rw[aF M];have hne2:=nQ.1 (Ri h2);have hnk:evK n (b,e,x)≠(qsE n E)[j]:=fun h=>by rw[bU hc]at J;exact M ((List.getElem_inj (zX n E)).1 (J.trans (he.trans (G.symm.trans h))))
     rw[Ak hne2,aF hnk,eQ]; rfl
   ·have he:=vY he;rw[aK];refine aC.2 ⟨rfl,hc,e1,fun j M=>?_⟩;grind
  ·rw[aF bQ];refine aC.2 ⟨e1,fun hm=>?_⟩;obtain⟨j,M,h⟩:=Oa hm;grind
 ·cases z with
  | inr r=>exact aC.2 hz.1
  | inl g=>
   obtain⟨rfl,hm⟩:=hz;simp only[sel];have hgl2:=nO n E;rw[aA (by grind)];refine aC.2 ?_;have h0:ofE n Q E=[]:=Rt fun h=>hm (nQ.2 h);have Z:qsE n (E++[(b,e,x)])=qsE n E++[Q]:=by rw[Si,G]; unfold xV; rw[aF hm]
   unfold gsE;rw[Z,eI,fY,Ce]
   congr 1
   ·refine List.map_congr_left fun q J=>?_;have hnk:evK n (b,e,x)≠q:=fun h=>hm (G▸h▸J);rw[Ak (nQ.1 J),aF hnk,eQ]; rfl
   ·congr 1
    unfold mL;rw[Fs,h0,G,aA rfl,kK];subst G; rfl
end
theorem Yl{a b:Int}(ha:0<=a)(hb:0<b)(h:a<=9223372036854775807):bAU a b=some (a / b):=by unfold bAU aYE;simp only[Tr.den];have h1:0<=a / b:=vX ha (by omega);have h2:a / b<=a:=Int.ediv_le_self b ha;have h3:0<=Int.tmod a b:=Int.tmod_nonneg _ ha;rw[aA,aA,aF bQ,Int.tdiv_eq_ediv_of_nonneg ha,aV];rfl
noncomputable section
def evD(len step:Int)(d:aB):List Ev:=(mY len step d.Time).map fun b=>(b,b+len,d)
def evs(len step:Int)(A:List aB):List Ev:=A.flatMap (evD len step)
theorem Yg(n:aG)(q:EQ)(E F:List Ev):ofE n q (E++F)=ofE n q E++ofE n q F:=by unfold ofE; rw[oU,eI]
theorem Tx(n:aG)(q:EQ)(x:Ev)(E:List Ev):ofE n q (x::E)=(if evK n x=q then [x.2.2] else [])++ofE n q E:=by have:=Fs n q [] x;rw[show x::E=([]++[x])++E from rfl,Yg,this]; rfl
theorem aHI(n:aG)(q:EQ)(len:Int)(d:aB):∀ bs:List Int,bs.Nodup->ofE n q (bs.map fun b=>(b,b+len,d))=if q.2.1=q.1+len/\q.1∈bs/\kd n 0 d=q.2.2 then [d] else []
 | [],_=>by rw[aF (fun h=>by cases h.2.1)]; rfl
 | b::bs,h=>by
  have h:=xE.1 h;rw[fY,Tx,aHI n q len d bs h.2];obtain⟨q1,q2,q3⟩:=q;by_cases hq:evK n (b,b+len,d)=(q1,q2,q3)
  ·have e1:b=q1:=congrArg (·.1) hq;have e2:b+len=q2:=congrArg (·.2.1) hq;have e3:kd n 0 d=q3:=congrArg (·.2.2) hq;simp_all
  ·rw[aF hq,kK];by_cases hc:q2=q1+len/\q1∈bs/\kd n 0 d=q3
   ·rw[aA hc,aA ⟨hc.1,cO _ hc.2.1,hc.2.2⟩]
   ·rw[aF hc,if_neg];rintro⟨h1,h2,h3⟩;rcases bE.1 h2 with h4 | h4
    ·simp only at h1 h4 h3;apply hq; rw[h1,h4,<-h3]; rfl
    simp_all
theorem zN{n:aG}{q:EQ}{len step:Int}(hs:0<step):∀ A:List aB,ofE n q (evs len step A)=if q.2.1=q.1+len then ofK n 0 q.2.2 (inB len step q.1 A) else []
 | []=>by split <;> rfl
 | d::A=>by
  rw[show evs len step (d::A)=evD len step d++evs len step A from fL,Yg,zN hs A];unfold evD;rw[aHI n q len d _ (vR hs)];by_cases h:q.2.1=q.1+len
  ·rw[aA h,aA h];unfold inB ofK;grind
  simp_all
theorem lY{len step:Int}(hl:1<=len/\len<=10000)(hs:1<=step/\step<=10000):∀ {A:List aB},fZ A->(evs len step A).length<=A.length*10000
 | [],_=>by simp[evs]
 | d::A,h=>by
  rw[show evs len step (d::A)=evD len step d++evs len step A from fL,dR,fX];have h1:=lY hl hs (A:=A) fun x hx=>h x (cO _ hx);have h2:(evD len step d).length<=10000:=by unfold evD;rw[dH,xT];exact wF hl hs (h d cS).1
  omega
theorem Rw(hk:k<A.length):evs len step (A.take (k+1))=evs len step (A.take k)++evD len step (A.getD k default):=by unfold evs;rw[aJ hk,jC,iT]
theorem Jy(h:fZ A)(k:Nat):fZ (A.take k):=fun d D=>h d (oK D)
theorem Gb(n:aG)(row:List aE):(n.Key.map fun c=>row.getD c.toNat default)=gP n row:=rfl
theorem aBZ(G:1<=n.Size/\n.Size<=10000)(hk:n.Key.length<=20)(h:okI n 0 A)(hl:A.length<=1000):aZW n A=some (gsE n (evs n.Size n.Size A)):=by
 unfold aZW bCP;simp only[Tr.den];have h1:=aP (bd:=fun s=>(Ez n A s).den) (fun k=>(gsE n (evs n.Size n.Size (A.take k)),(k:Int))) A.length (r:=.inl (gsE n (evs n.Size n.Size A))) (fun k D=>?_) ?_
 ·exact(congrArg (fun x=>Option.bind x _) h1).trans rfl
 ·have J:=h.t _ (aM D);have M:=lY G G (Jy h.t k);rw[dU]at M;have hc:=h.c _ (aM D);have Z:(A.getD k default).Time / n.Size*n.Size<=(A.getD k default).Time:=wT _ (by omega);have Q:0<=(A.getD k default).Time / n.Size*n.Size:=wK (vX J.1 (by omega)) (by omega);unfold Ez;simp only[Tr.den,aL];rw[aA bL,aA,Yl J.1 (by omega) (by omega)];simp only[aI];rw[aA,Ds _ n.Key hc (by omega),Gb];simp only[aI];rw[aA,aV (n:=(A.getD k default).Time / n.Size*n.Size),aV,Fq _ _ _ _ hk (by omega)];simp only[aI];rw[aK,Rw D];have:evD n.Size n.Size (A.getD k default)=[((A.getD k default).Time / n.Size*n.Size,(A.getD k default).Time / n.Size*n.Size+n.Size,A.getD k default)]:=by unfold evD mY;rw[aMS (show 0<n.Size by omega)];simp_all
  rw[this]
 ·unfold Ez;simp only[Tr.den];rw[aF bQ,cF]
theorem aSD(hz:1<=n.Size/\n.Size<=10000)(hs:1<=n.Step/\n.Step<=10000)(hk:n.Key.length<=20)(hk':k<A.length)(hc:oL (eC n 0) (A.getD k default).Row)(J:0<=(A.getD k default).Time/\(A.getD k default).Time<=2199023255552)
  (E:List Ev)(hE:E.length<=100000000):
  bW (fun s=>(zT n A (k:Int) s).den) (gsE n E,(A.getD k default).Time / n.Step)=some (.inl (gsE n (E++evD n.Size n.Step (A.getD k default)))):=by
 have hn:=xT n.Size n.Step (A.getD k default).Time;have Q:=wF hz hs J.1;have G:=fun i=>mZ (len:=n.Size) (t:=(A.getD k default).Time) (show 0<n.Step by omega) i;have h0:(A.getD k default).Time / n.Step*n.Step<=(A.getD k default).Time:=wT _ (by omega);have h00:0<=(A.getD k default).Time / n.Step*n.Step:=wK (vX J.1 (by omega)) (by omega);have h01:0<=(A.getD k default).Time / n.Step:=vX J.1 (by omega);have h02:(A.getD k default).Time / n.Step<=(A.getD k default).Time:=Int.ediv_le_self _ J.1;have M:(evD n.Size n.Step (A.getD k default)).length=zP n.Size n.Step (A.getD k default).Time:=by unfold evD; rw[dH,hn]
 have ei:∀ i,i<zP n.Size n.Step (A.getD k default).Time->(evD n.Size n.Step (A.getD k default)).getD i default=((A.getD k default).Time / n.Step*n.Step-(i:Int)*n.Step,(A.getD k default).Time / n.Step*n.Step-(i:Int)*n.Step+n.Size,A.getD k default):=fun i hi=>by rw[bU (by omega)]; simp[evD,mY]
 have D:∀ i:Nat,i<=10000->0<=(i:Int)*n.Step/\(i:Int)*n.Step<=10000*10000:=fun i hi=>
  ⟨wK (by omega) (by omega),Int.mul_le_mul (by omega) hs.2 (by omega) (by omega)⟩
 have Z:∀ i:Nat,((A.getD k default).Time / n.Step-(i:Int))*n.Step=(A.getD k default).Time / n.Step*n.Step-(i:Int)*n.Step:=fun i=>Int.sub_mul _ _ _;have h1:=aP (bd:=fun s=>(zT n A (k:Int) s).den) (fun i=>(gsE n (E++(evD n.Size n.Step (A.getD k default)).take i),(A.getD k default).Time / n.Step-(i:Int))) (zP n.Size n.Step (A.getD k default).Time) (r:=.inl (gsE n (E++evD n.Size n.Step (A.getD k default)))) (fun i hi=>?_) ?_
 ·simp_all
 ·have g1:=D i (by omega);unfold zT;simp only[Tr.den,aL,Z];rw[aA,aV (n:=(A.getD k default).Time / n.Step*n.Step-(i:Int)*n.Step),aV,aA (bL ((G i).1 hi)),aA,Ds _ n.Key hc (by omega),Gb];simp only[aI];rw[aA,Fq _ _ _ _ hk (by grind)];simp only[aI];rw[aV,aJ (by omega),ei i hi,<-cR]
  congr 3
  omega
 ·have g1:=D (zP n.Size n.Step (A.getD k default).Time) Q;unfold zT;simp only[Tr.den,aL,Z];rw[aA,aV (n:=(A.getD k default).Time / n.Step*n.Step-_),aV,aF (bQ (show ¬ (_>_) from fun h=>absurd ((G _).2 h) (Kq _))),<-M,cF]
def gwS(key:List aE)(w:aO):aT:=⟨key,w.begin_,w.end_,w.rows_⟩
def yY(n:aG)(g:aT):List aT:=(ses n.Step g.end_ g.l_).map (gwS g.key_)
theorem aTJ{g:aT}(hs:1<=n.Step/\n.Step<=10000)(ht:fZ g.l_)(hl:g.l_.length<=1000)(he:-10000<=g.end_/\g.end_<=4398046511104):aZL n g=some (yY n g):=by
 obtain⟨key,beg,E,R⟩:=g;simp only at ht hl he;unfold aZL aWE yY;simp only[Tr.den];have h1:=aP (bd:=fun s=>(Er n ⟨key,beg,E,R⟩ s).den) (fun i=>((kM n.Step E (R.take i)).1.map (gwS key),(i:Int))) R.length (r:=.inl ((ses n.Step E R).map (gwS key))) (fun i hi=>?_) ?_
 ·exact(congrArg (fun x=>Option.bind x _) h1).trans rfl
 ·have hm:=ht _ (aM hi);have hr:=xN n.Step E R i (by omega);have G:=wY n.Step E (R.take i);rw[dU]at G;have D:0<i->(kM n.Step E (R.take i)).2=(R.getD (i-1) default).Time/\(kM n.Step E (R.take i)).1≠[]:=fun h0=>by obtain⟨j,rfl⟩:∃ j,i=j+1:=⟨i-1,by omega⟩;exact⟨by rw[jH (by omega)]; rfl,Zs (by omega)⟩
  have M:i=0->(kM n.Step E (R.take i)).1=[]:=by rintro rfl; rfl
  unfold ses at hr G;rw[jH hi];generalize hF:kM n.Step E (R.take i)=F at hr G D M ⊢;obtain⟨s,last⟩:=F;simp only at hr G D M ⊢;have hml:(s.map (gwS key)).length=s.length:=dH _;unfold Er;simp only[Tr.den,aL];rw[aA bL,aA];rw[aV (n:=(R.getD i default).Time+n.Step),aK,aV (n:=(i:Int)-1)];have J:((if decide ((i:Int)>0)=true then (if 0<=(if (0:Int)>(i:Int)-1 then (0:Int) else (i:Int)-1)/\(if (0:Int)>(i:Int)-1 then (0:Int) else (i:Int)-1)<(R.length:Int) then some (s.map (gwS key),decide (IntKind.i64.wrap ((R.getD i default).Time-(R.getD (if (0:Int)>(i:Int)-1 then (0:Int) else (i:Int)-1).toNat default).Time)<n.Step)) else none) else some (s.map (gwS key),false)):Option (List aT×Bool)) =
    some (s.map (gwS key),!decide (s=[]\/(R.getD i default).Time-last>=n.Step)):=by
   by_cases h:i=0
   ·simp_all
   ·have hp:=D (by omega);have hm2:=ht _ (aM (show i-1<R.length by omega));rw[aA bL,aF (show ¬ ((0:Int)>(i:Int)-1) by omega),aA,show ((i:Int)-1).toNat=i-1 by omega,aV]
    congr 2
    grind
  refine(congrArg (fun x=>Option.bind x _) J).trans ?_;simp only[aI];generalize R.getD i default=x at hm ⊢;have Z:(if E<x.Time+n.Step then E else x.Time+n.Step)=kF (x.Time+n.Step) E:=rfl;rw[Z];by_cases hc:s=[]\/x.Time-last>=n.Step
  ·rw[bL hc];simp only[Bool.not_true,eO,eH];rw[aA (by grind)];simp only[aI];unfold Cy;rw[aA hc,eI];rfl
  ·rw[kU hc];simp only[Bool.not_false,gT];have hs0:s≠[]:=fun h=>hc (.inl h);have h0:0<s.length:=fM.2 hs0;have hrr:=hr _ (aM (show s.length-1<s.length by omega));have w:IntKind.i64.wrap (((s.map (gwS key)).length:Int)-1)=((s.length-1:Nat):Int):=by rw[hml,aV]; omega
   have hg:(s.map (gwS key)).getD (s.length-1) default=gwS key (s.getD (s.length-1) default):=by rw[bU (by omega),mW,<-bU (by omega)]
   rw[w,aL,hg];have Q:((gwS key (s.getD (s.length-1) default)).l_.length+1)*40<=140737488355328:=by show ((s.getD (s.length-1) default).rows_.length+1)*40<=_; omega
   rw[aA,aA,aA ⟨by omega,trivial,trivial⟩,aA Q,aA,aA,aA,aA];unfold Cy;rw[aF hc,List.map_set];rfl
 ·unfold Er;simp only[Tr.den];rw[aF bQ,cF];rfl
end
def jP(g:gO)(l:List aB):Nat->aE×Int
 | 0=>(⟨0,0,⟨#[]⟩⟩,0)
 | k+1=>
  if g.Kind=0 then ((jP g l k).1,W ((jP g l k).2+(l.getD k default).N))
  else if g.Kind=1 then ((jP g l k).1,W ((jP g l k).2+W ((l.getD k default).N*((l.getD k default).Row.getD g.Col.toNat default).N)))
  else (if k=0\/(g.Kind=2/\gC ((l.getD k default).Row.getD g.Col.toNat default) (jP g l k).1<0)\/(g.Kind=3/\gC ((l.getD k default).Row.getD g.Col.toNat default) (jP g l k).1>0) then (l.getD k default).Row.getD g.Col.toNat default else (jP g l k).1,(jP g l k).2)
theorem Hk{g:gO}{l:List aB}(h:g.Kind=0\/g.Kind=1):∀ k,(jP g l k).2=(kA g l k).2
 | 0=>rfl
 | k+1=>by
  have ih:=Hk (l:=l) h k;by_cases h0:g.Kind=0
  ·rw[jP,aA h0,kA,aA h0]; simp only; rw[ih]
  ·rw[jP,aF h0,aA (h.resolve_left h0),kA,aF h0]; simp only; rw[ih]
theorem Kz{g:gO}{l:List aB}(h0:g.Kind≠0)(h1:g.Kind≠1):∀ k,(jP g l k).1=(kA g l k).1
 | 0=>rfl
 | k+1=>by have ih:=Kz (l:=l) h0 h1 k;rw[jP,aF h0,aF h1,kA,aF h0]; simp only; rw[ih]
theorem aPL{g:gO}{l:List aB}(hc:g.Kind=0\/∀ d,d∈l->0<=g.Col/\g.Col<d.Row.length)(hn:l.length<=1000000):aWY g l=some (Cr g l):=by
 unfold aWY aYF;simp only[Tr.den];have h1:=aP (bd:=fun s=>(Du g l s).den) (fun k=>((jP g l k).1.Kind,(jP g l k).1.N,(jP g l k).1.S,(jP g l k).2,(k:Int))) l.length (r:=.inl ((jP g l l.length).1.Kind,(jP g l l.length).1.N,(jP g l l.length).1.S,(jP g l l.length).2)) (fun k hk=>?_) ?_
 ·refine(congrArg (fun x=>Option.bind x _) h1).trans ?_;simp only[aI,sel];unfold Cr;by_cases D:g.Kind=0
  ·rw[aA (fA D),aA (.inl D)];simp only[aI,gT];rw[Hk (.inl D)]; rfl
  ·rw[aF (dJ D)];simp only[aI];by_cases h2:g.Kind=1
   ·rw[aA (fA h2),aA (.inr h2),Hk (.inr h2)]; rfl
   ·rw[aF (dJ h2),aF (fun h=>h.elim D h2),<-Kz D h2]
 ·unfold Du;simp only[Tr.den,aL];rw[aA bL,aK];by_cases D:g.Kind=0
  ·rw[aA (fA D),aA];simp only[aI];rw[show jP g l (k+1)=((jP g l k).1,W ((jP g l k).2+(l.getD k default).N)) by rw[jP,aA D]]
  ·rw[aF (dJ D),aA,aA ((hc.resolve_left D) _ (aM hk))];by_cases h2:g.Kind=1
   ·rw[aA (fA h2),aA];simp only[aI];rw[show jP g l (k+1)=_ by rw[jP,aF D,aA h2]]
   ·rw[aF (dJ h2),Pn];simp only[aI];have Z:=show jP g l (k+1)=_ by rw[jP,aF D,aF h2]
    rw[Z];generalize jP g l k=p at *
    generalize (l.getD k default).Row.getD g.Col.toNat default=v at *
    obtain⟨⟨M,J,G⟩,nn⟩:=p;simp only;have Q:((if ((k:Int)==0)=true then some true else if (g.Kind==2)=true then if decide (gC v ⟨M,J,G⟩<0)=true then some true else if (g.Kind==3)=true then some (decide (gC v ⟨M,J,G⟩>0)) else some false else if (g.Kind==3)=true then some (decide (gC v ⟨M,J,G⟩>0)) else some false):Option Bool) =
      some (decide (k=0\/(g.Kind=2/\gC v ⟨M,J,G⟩<0)\/(g.Kind=3/\gC v ⟨M,J,G⟩>0))):=by
     grind
    grind
 ·unfold Du;simp only[Tr.den];rw[aF bQ]
noncomputable section
def lS(n:aG)(A:List aB):List aT:=
 if n.Kind=1 then gsE n (evs n.Size n.Step A) else if n.Kind=0 then gsE n (evs n.Size n.Size A) else (gsE n (evs n.Size n.Size A)).flatMap (yY n)
structure Sd (A:List aB)(g:aT):Prop where
 key:g.key_.length<=20
 sub:∀ d,d∈g.l_->d∈A
 len:g.l_.length<=A.length
 e:-10000<=g.end_/\g.end_<=4398046511104
theorem aVO(hs:0<step){q:EQ}(D:q∈qsE n (evs len step A)):q.2.1=q.1+len/\ofE n q (evs len step A)=ofK n 0 q.2.2 (inB len step q.1 A)/\ofK n 0 q.2.2 (inB len step q.1 A)≠[]:=by have h:=nQ.1 D;rw[zN hs]at h ⊢;simp_all
theorem aPH(hl:1<=len/\len<=10000)(hs:0<step)(J:fZ A)(hk:n.Key.length<=20){q:EQ}(M:q∈qsE n (evs len step A)):Sd A (mL n (evs len step A) q):=by
 obtain⟨h1,h2,h3⟩:=aVO hs M;have G:inB len step q.1 A≠[]:=fun h=>h3 (by rw[h]; rfl);have hr:=jE hs J G;refine⟨by show (gP n _).length<=20; rw[pV]; exact hk,fun d D=>?_,?_,?_⟩
 ·have D:d∈ofE n q (evs len step A):=D;rw[h2]at D;exact(iQ.1 (gW.1 D).1).1
 ·show (ofE n q (evs len step A)).length<=_;rw[h2];have Z:=iR n 0 q.2.2 (inB len step q.1 A);have Q:=nM len step q.1 A;omega
 ·show -10000<=q.2.1/\q.2.1<=_;omega
theorem sF(hl:1<=len/\len<=10000)(hs:0<step)(D:fZ A)(hk:n.Key.length<=20):∀ g,g∈gsE n (evs len step A)->Sd A g:=fun g hg=>by obtain⟨q,G,rfl⟩:=cU.1 hg;exact aPH hl hs D hk G
theorem aQZ(hs:1<=n.Step/\n.Step<=10000)(G:fZ A){g:aT}(h:Sd A g):∀ x,x∈yY n g->Sd A x:=fun x hx=>by obtain⟨w,J,rfl⟩:=cU.1 hx;have h1:=aJH hs (fun d D=>G d (h.sub d D)) h.e g.l_.length (cM _) w (by simp_all);have h2:=xN n.Step g.end_ g.l_ g.l_.length (cM _) w (by simp_all);have:=h.len;exact⟨h.key,fun d D=>h.sub d (h1.1 d D),by show w.rows_.length<=_; omega,h1.2⟩
theorem aGQ(hn:wO n)(D:fZ A):∀ g,g∈lS n A->Sd A g:=fun g hg=>by
 unfold lS at hg;have G:=hn.size;rcases hn.kind with h | ⟨h,hs⟩ | ⟨h,hs⟩
 ·rw[aF,aA h]at hg; exact sF G (by omega) D hn.key g hg
 ·rw[aA h]at hg; exact sF G (by omega) D hn.key g hg
 ·rw[aF,aF]at hg;obtain⟨x,hx,hg⟩:=jR.1 hg;exact aQZ hs D (sF G (by omega) D hn.key x hx) g hg
theorem uC{n:aG}{A:List aB}(hl:A.length<=1000):∀ gs:List aT,(∀ g,g∈gs->Sd A g)->(gs.flatMap (yY n)).length<=gs.length*1000
 | [],_=>by simp
 | g::gs,h=>by
  rw[fL,dR,fX];have h1:=uC (n:=n) hl gs fun x hx=>h x (cO _ hx);have h2:(yY n g).length<=g.l_.length:=by unfold yY; rw[dH]; exact wY _ _ _
  have h3:=(h g cS).len;omega
theorem Kr(hn:wO n)(G:fZ A)(hl:A.length<=1000):(lS n A).length<=10000000000:=by
 unfold lS;have D:=hn.size;rcases hn.kind with h | ⟨h,hs⟩ | ⟨h,hs⟩
 ·rw[aF,aA h];have h1:=nO n (evs n.Size n.Size A);have h2:=lY D D G;omega
 ·rw[aA h];have h1:=nO n (evs n.Size n.Step A);have h2:=lY D hs G;omega
 ·rw[aF,aF];have h1:=nO n (evs n.Size n.Size A);have h2:=lY D D G;have h3:=uC (n:=n) hl _ (sF (len:=n.Size) (step:=n.Size) D (by omega) G hn.key);omega
theorem aOF(hn:wO n)(h:okI n 0 A)(hl:A.length<=1000):bBK n A=some (lS n A):=by
 have J:=hn.size;have hk:=hn.key;unfold bBK bAM;simp only[Tr.den];by_cases k1:n.Kind=1
 ·have hs:1<=n.Step/\n.Step<=10000:=by rcases hn.kind with h | ⟨_,h⟩ | ⟨_,h⟩ <;> omega
  have M:lS n A=gsE n (evs n.Size n.Step A):=by unfold lS; rw[aA k1]
  rw[aA (fA k1),M];have h1:=aP (bd:=fun s=>(Ee n A s).den) (fun k=>(gsE n (evs n.Size n.Step (A.take k)),(k:Int))) A.length (r:=.inl (gsE n (evs n.Size n.Step A))) (fun k D=>?_) ?_
  ·exact(congrArg (fun x=>Option.bind x _) h1).trans rfl
  ·have ht:=h.t _ (aM D);have hE:=lY J hs (Jy h.t k);rw[dU]at hE;unfold Ee;simp only[Tr.den,aL];rw[aA bL,aA,Yl ht.1 (by omega) (by omega)];simp only[aI];rw[aSD J hs hk D (h.c _ (aM D)) ht _ (by omega)];simp only[aI,sel];rw[aK,Rw D]
  ·unfold Ee;simp only[Tr.den];rw[aF bQ,cF]
 ·rw[aF (dJ k1),aBZ J hk h hl];simp only[aI];by_cases Q:n.Kind=0
  ·have M:lS n A=gsE n (evs n.Size n.Size A):=by unfold lS; rw[aF k1,aA Q]
   rw[aA (fA Q),M]
  ·have hs:1<=n.Step/\n.Step<=10000:=by rcases hn.kind with h | ⟨_,h⟩ | ⟨_,h⟩ <;> omega
   have M:lS n A=(gsE n (evs n.Size n.Size A)).flatMap (yY n):=by unfold lS; rw[aF k1,aF Q]
   rw[aF (dJ Q),M];have G:=sF (len:=n.Size) (step:=n.Size) J (by omega) h.t hk;have Z:=nO n (evs n.Size n.Size A);have hel:=lY J J h.t;generalize gsE n (evs n.Size n.Size A)=gs at G Z ⊢;have h1:=aP (bd:=fun s=>(Dy n gs s).den) (fun k=>((gs.take k).flatMap (yY n),(k:Int))) gs.length (r:=.inl (gs.flatMap (yY n))) (fun k D=>?_) ?_
   ·exact(congrArg (fun x=>Option.bind x _) h1).trans rfl
   ·have hg:=G _ (aM D);have h3:=uC (n:=n) hl (gs.take k) fun g hg=>G g (oK hg);have h4:=uC (n:=n) hl [gs.getD k default] fun g hg=>by simp_all
    rw[iT,oA]at h4;rw[dU]at h3;have hgl2:=hg.len;unfold Dy;simp only[Tr.den,aL];rw[aA bL,aA,aTJ hs (fun d hd=>h.t d (hg.sub d hd)) (by omega) hg.e];simp only[aI];rw[aA,aK,aJ D,jC,iT]
   ·unfold Dy;simp only[Tr.den];rw[aF bQ,cF]
def Dc(n:aG)(g:aT):aB:=⟨g.end_-1,(g.key_++[vI g.begin_])++n.Aggs.map fun a=>Cr a g.l_,1⟩
theorem aPT(n:aG)(D:List aT)(k:Nat)(v:List aB)(row:List aE)(ha:n.Aggs.length<=20)(hr:row.length<=1000)(G:(D.getD k default).l_.length<=1000000)(hc:Ct n (D.getD k default).l_):
  bW (fun s=>(xL n D (k:Int) s).den) (v,row,0)=some (.inl (v,row++n.Aggs.map fun g=>Cr g (D.getD k default).l_)):=by
 have h1:=aP (bd:=fun s=>(xL n D (k:Int) s).den) (fun i=>(v,row++(n.Aggs.take i).map fun g=>Cr g (D.getD k default).l_,(i:Int))) n.Aggs.length (r:=.inl (v,row++n.Aggs.map fun g=>Cr g (D.getD k default).l_)) (fun i hi=>?_) ?_
 ·simp_all
 ·unfold xL;simp only[Tr.den,aL];rw[aA bL,aA,aPL (hc _ (aM hi)) G];simp only[aI];rw[aA (by grind),aK,aJ hi,eI,<-cR];rfl
 ·unfold xL;simp only[Tr.den];rw[aF bQ,cF]
theorem aPE(hn:wO n)(h:okI n 0 A)(ha:Ct n A)(hl:A.length<=1000):bCX n A=some ((lS n A).map (Dc n)):=by
 unfold bCX aYA;simp only[Tr.den];rw[aOF hn h hl];simp only[aI];have D:=aGQ hn h.t;have J:=Kr hn h.t hl;generalize lS n A=gs at D J ⊢;have h1:=aP (bd:=fun s=>(Dg n gs s).den) (fun k=>((gs.take k).map (Dc n),(k:Int))) gs.length (r:=.inl (gs.map (Dc n))) (fun k G=>?_) ?_
 ·exact(congrArg (fun x=>Option.bind x _) h1).trans rfl
 ·have hg:=D _ (aM G);have Z:=hg.key;have Q:=hg.len;have M:=hg.e;unfold Dg;simp only[Tr.den,aL];rw[aA bL,aA,aA,aA];rw[aPT n gs k _ _ hn.aggs (by grind) (by omega) (ha.sub hg.sub)];simp only[aI,sel];rw[aA (by grind),aK,aV,aJ G,eI];rfl
 ·unfold Dg;simp only[Tr.den];rw[aF bQ,cF]
theorem iH{α β:Type}{f g:α->List β}:∀ {l:List α},(∀ x,x∈l->f x=g x)->l.flatMap f=l.flatMap g
 | [],_=>rfl
 | x::l,h=>by rw[fL,fL,h x cS,iH fun y hy=>h y (cO _ hy)]
theorem kW(n:aG)(k:ByteArray)(len step b:Int)(A:List aB):ofK n 0 k (inB len step b A)=inB len step b (ofK n 0 k A):=by
 unfold ofK inB;rw[Mz,Mz]
 congr 1; funext d; rw[Bool.and_comm]
theorem Gw(hs:0<step){F:EQ->List aB}{G:ByteArray->Int->List aB}
  (h:∀ k b,ofK n 0 k (inB len step b A)≠[]->F (b,b+len,k)=G k b):
  ((qsE n (evs len step A)).flatMap F).Perm ((cK (aY (bO n 0 A))).flatMap fun k=>(jO len step (ofK n 0 k A)).flatMap (G k)):=by
 have J:(cK (aY (bO n 0 A))).Nodup:=(jB _).nodup_iff.2 ((Bn n 0 A).nodup LO.bytes);have M:∀ k,k∈cK (aY (bO n 0 A))↔ofK n 0 k A≠[]:=fun k=>by rw[(jB _).mem_iff]; exact nG
 have e1:((cK (aY (bO n 0 A))).flatMap fun k=>(jO len step (ofK n 0 k A)).flatMap (G k))=((cK (aY (bO n 0 A))).flatMap fun k=>(jO len step (ofK n 0 k A)).map fun b=>(b,b+len,k)).flatMap F:=by rw[List.flatMap_assoc];refine iH fun k hk=>?_;rw[Ff];refine iH fun b hb=>(h k b ?_).symm;rw[kW]; exact(lH hs).1 hb
 rw[e1];refine xY _ ((Xg (zX n _) ?_).2 fun q=>?_)
 ·unfold List.Nodup;rw[List.pairwise_flatMap];refine⟨fun k hk=>?_,?_⟩
  ·rw[At];exact(Ga _ _ _).imp fun {a b} Q e=>Q (congrArg (·.1) e)
  ·refine List.Pairwise.imp ?_ J;simp_all
 ·constructor
  ·intro D;obtain⟨h1,h2,h3⟩:=aVO hs D;refine jR.2 ⟨q.2.2,(M _).2 fun Z=>h3 (by rw[kW,Z]; rfl),cU.2 ⟨q.1,(lH hs).2 (by rw[<-kW]; exact h3),?_⟩⟩;rw[<-h1]
  ·intro D;obtain⟨k,hk,D⟩:=jR.1 D;obtain⟨b,hb,rfl⟩:=cU.1 D;refine nQ.2 ?_;rw[zN hs,aA rfl,kW];exact(lH hs).1 hb
theorem Tc{k:ByteArray}{a b:List aB}(ha:ofK n 0 k a≠[])(hb:ofK n 0 k b≠[]):gP n ((ofK n 0 k a).getD 0 default).Row=gP n ((ofK n 0 k b).getD 0 default).Row:=
 Yw (hdE hb) _ (hdE ha)
theorem Xo(hn:wO n)(A:List aB):((lS n A).map (Dc n)).Perm (kB n (cK (aY (bO n 0 A))) A):=by
 have hz:=hn.size;have J:∀ {len step k b},ofK n 0 k (inB len step b A)≠[]->ofK n 0 k A≠[]:=fun {len step k b} h Z=>h (by rw[kW,Z]; rfl);have Q:∀ {len step:Int} (hs:0<step) (k:ByteArray) (b:Int),mL n (evs len step A) (b,b+len,k)=⟨gP n ((ofK n 0 k (inB len step b A)).getD 0 default).Row,b,b+len,ofK n 0 k (inB len step b A)⟩:=fun {len step} hs k b=>by unfold mL;rw[zN hs,aA rfl]
 have fx:∀ {len step:Int} (hs:0<step),((gsE n (evs len step A)).map (Dc n)).Perm ((cK (aY (bO n 0 A))).flatMap fun k=>(Gy len step (ofK n 0 k A)).map (Ib n (ofK n 0 k A))):=fun {len step} hs=>by
  have h1:=Gw (n:=n) (len:=len) hs (A:=A) (F:=fun q=>[Dc n (mL n (evs len step A) q)]) (G:=fun k b=>[Ib n (ofK n 0 k A) ⟨b,b+len,inB len step b (ofK n 0 k A)⟩]) fun k b h=>by rw[Q hs,kW,Tc (a:=inB len step b A) h (J h) |> fun e=>(by rw[<-kW]; exact e:gP n ((inB len step b (ofK n 0 k A)).getD 0 default).Row=gP n ((ofK n 0 k A).getD 0 default).Row)];rfl
  have M:(gsE n (evs len step A)).map (Dc n)=(qsE n (evs len step A)).flatMap fun q=>[Dc n (mL n (evs len step A) q)]:=by unfold gsE;rw[yU,<-List.map_eq_flatMap]; rfl
  rw[M];refine h1.trans (List.Perm.of_eq (iH fun k hk=>?_));unfold Gy;rw[yU,<-List.map_eq_flatMap]; rfl
 unfold lS kB oY;rcases hn.kind with h | ⟨h,hs⟩ | ⟨h,hs⟩
 ·grind
 ·grind
 ·rw[aF,aF];simp only[aF (show ¬ n.Kind=0 by omega),aF (show ¬ n.Kind=1 by omega)];have D:0<n.Size:=by omega
  have h1:=Gw (n:=n) (len:=n.Size) D (A:=A) (F:=fun q=>(yY n (mL n (evs n.Size n.Size A) q)).map (Dc n)) (G:=fun k b=>(ses n.Step (b+n.Size) (inB n.Size n.Size b (ofK n 0 k A))).map (Ib n (ofK n 0 k A))) fun k b h=>by rw[Q D,kW,Tc (a:=inB n.Size n.Size b A) h (J h) |> fun e=>(by rw[<-kW]; exact e:gP n ((inB n.Size n.Size b (ofK n 0 k A)).getD 0 default).Row=gP n ((ofK n 0 k A).getD 0 default).Row)];unfold yY;rw[yU]; rfl
  have M:((gsE n (evs n.Size n.Size A)).flatMap (yY n)).map (Dc n)=(qsE n (evs n.Size n.Size A)).flatMap fun q=>(yY n (mL n (evs n.Size n.Size A) q)).map (Dc n):=by unfold gsE;rw[List.map_flatMap,Ff]
  rw[M];refine h1.trans (List.Perm.of_eq (iH fun k hk=>?_));unfold Po;rw[List.map_flatMap]
end
def bst(n:aG)(l:List aB):Nat->Nat
 | 0=>0
 | k+1=>if gC (St.vT n (l.getD (k+1) default)) (St.vT n (l.getD (bst n l k) default))>0 then k+1 else bst n l k
theorem Pf(n:aG)(l:List aB):∀ k,bst n l k<=k
 | 0=>cM _
 | k+1=>by have:=Pf n l k;rw[bst]; split <;> omega
theorem Mp(n:aG)(l:List aB):∀ k j,j<=k->gC (St.vT n (l.getD j default)) (St.vT n (l.getD (bst n l k) default))<=0/\(j<bst n l k->gC (St.vT n (l.getD j default)) (St.vT n (l.getD (bst n l k) default))<0)
 | 0,j,h=>by
  have:j=0:=by omega
  subst this;rw[bst];exact⟨by rw[(TO.val.eq _ _).2 rfl]; omega,fun h=>absurd h (Kq _)⟩
 | k+1,j,h=>by
  have hle:=Pf n l k;rw[bst];by_cases hc:gC (St.vT n (l.getD (k+1) default)) (St.vT n (l.getD (bst n l k) default))>0
  ·rw[aA hc];by_cases hj:j=k+1
   ·subst hj;exact⟨by rw[(TO.val.eq _ _).2 rfl]; omega,fun h=>absurd h (Kq _)⟩
   ·have h1:=(Mp n l k j (by omega)).1;have h2:gC (St.vT n (l.getD (bst n l k) default)) (St.vT n (l.getD (k+1) default))<0:=(TO.val.sw _ _).2 hc;have h3:gC (St.vT n (l.getD j default)) (St.vT n (l.getD (k+1) default))<0:=by
     by_cases h0:gC (St.vT n (l.getD j default)) (St.vT n (l.getD (bst n l k) default))=0
     ·rw[(TO.val.eq _ _).1 h0]; exact h2
     ·exact TO.val.tr _ _ _ (by omega) h2
    omega
  ·rw[aF hc];by_cases hj:j=k+1
   ·grind
   ·exact Mp n l k j (by omega)
def Rn(n:aG):Nat->List aB->List aB
 | 0,_=>[]
 | f+1,l=>if l=[] then [] else l.getD (bst n l (l.length-1)) default::Rn n f (l.eraseIdx (bst n l (l.length-1)))
def yN(n:aG)(tm:Int):Nat->Int->List aB->List aB
 | 0,_,_=>[]
 | f+1,left,l=>if left>0/\l≠[] then
   ⟨tm,(l.getD (bst n l (l.length-1)) default).Row,if left<(l.getD (bst n l (l.length-1)) default).N then left else (l.getD (bst n l (l.length-1)) default).N⟩ ::
    yN n tm f (left-if left<(l.getD (bst n l (l.length-1)) default).N then left else (l.getD (bst n l (l.length-1)) default).N) (l.eraseIdx (bst n l (l.length-1))) else []
theorem Gd{l:List aB}(h:l≠[]):bst n l (l.length-1)<l.length:=by have:=Pf n l (l.length-1);have:=fM.2 h;omega
theorem Vh{α:Type}{l:List α}(h:i<l.length):(l[i]::l.eraseIdx i).Perm l:=by rw[List.eraseIdx_eq_take_drop_succ];refine List.perm_middle.symm.trans (List.Perm.of_eq ?_);rw[<-List.drop_eq_getElem_cons h,gV]
theorem tW(n:aG):∀ (f:Nat) (l:List aB),l.length=f->(Rn n f l).Perm l
 | 0,l,h=>by rw[zO h]; rfl
 | f+1,l,h=>by
  have h0:l≠[]:=fun e=>by simp_all
  have hb:=Gd (n:=n) h0;rw[Rn,aF h0];refine(List.Perm.cons _ (tW n f _ (by grind))).trans ?_;rw[bU hb];exact Vh hb
theorem Te{n:aG}:∀ (f:Nat) (l:List aB),l.length=f->DS l->St.Srt n (Rn n f l)
 | 0,l,h,_=>List.Pairwise.nil
 | f+1,l,h,hD=>by
  have h0:l≠[]:=fun e=>by simp_all
  have hb:=Gd (n:=n) h0;have hl:(l.eraseIdx (bst n l (l.length-1))).length=f:=by grind
  rw[Rn,aF h0];refine lQ.2 ⟨fun y hy=>?_,Te f _ hl (hD.sublist (Gq _ _))⟩;have hy:=(tW n f _ hl).mem_iff.1 hy;obtain⟨j,hj,hne,rfl⟩:=List.mem_eraseIdx_iff_getElem.1 hy;have hm:=Mp n l (l.length-1) j (by omega);rw[bU hj]at hm;refine kU fun hlt=>?_;unfold St.cmpK eR at hlt;simp only at hlt;have s1:=TO.val.sw (St.vT n l[j]) (St.vT n (l.getD (bst n l (l.length-1)) default));have s2:=TO.val.sw (St.vT n (l.getD (bst n l (l.length-1)) default)) (St.vT n l[j]);by_cases hz:gC (St.vT n (l.getD (bst n l (l.length-1)) default)) (St.vT n l[j])=0
  ·rw[aA hz]at hlt;by_cases hjb:j<bst n l (l.length-1)
   ·omega
   ·have h1:=Bu.1 hD (bst n l (l.length-1)) j hb hj (by omega);rw[qI]at h1;have h2:=(TO.place.sw _ _).1 h1;grind
  omega
theorem aHB{l:List aB}(D:DS l)(ho:St.okTs n l)(hl:l.length<=1000000):Rn n l.length l=rK n l:=by obtain⟨_,h2,h3⟩:=Ov D ho hl;exact Zi D (tW n _ l rfl) (Te _ l rfl D) h2 h3
theorem Li(p:Pl->Bool)(tm:Int):∀ (l:List aB),(∀ d,d∈l->0<=d.N)->wt p (pA tm 0 l)=0
 | [],_=>rfl
 | x::l,h=>by
  have hx:=h x cS;have hm:kF 0 x.N=0:=by unfold kF; split <;> omega
  rw[pA,hm,wt,show (0:Int)-0=0 from rfl,Li p tm l fun d hd=>h d (cO _ hd)];simp
theorem Yv(n:aG)(p:Pl->Bool)(tm:Int):∀ (f:Nat) (left:Int) (l:List aB),l.length=f->0<=left->(∀ d,d∈l->0<=d.N)->wt p (yN n tm f left l)=wt p (pA tm left (Rn n f l))
 | 0,left,l,_,_,_=>rfl
 | f+1,left,l,h,hl,hN=>by
  have h0:l≠[]:=fun e=>by simp_all
  have hb:=Gd (n:=n) h0;have hle:(l.eraseIdx (bst n l (l.length-1))).length=f:=by grind
  by_cases hz:left>0
  ·rw[yN,aA ⟨hz,h0⟩,Rn,aF h0,pA];have hm:kF left (l.getD (bst n l (l.length-1)) default).N=if left<(l.getD (bst n l (l.length-1)) default).N then left else (l.getD (bst n l (l.length-1)) default).N:=by unfold kF; split <;> split <;> omega
   have hx:=hN _ (aM hb);rw[hm,wt,wt,Yv n p tm f _ _ hle (by split <;> omega) fun d hd=>hN d ((Gq _ _).subset hd)]
  ·have e0:left=0:=by omega
   subst e0;rw[yN,aF (fun h=>hz h.1),Li p tm _ fun d hd=>hN d ((tW n _ l h).mem_iff.1 hd)]; rfl
theorem Uj{α:Type}[Inhabited α](xs:List α)(lo n:Nat)(h:lo+n<=xs.length):part xs lo n=(xs.drop lo).take n:=by unfold part;refine Rr (by simp; omega) fun j h1 h2=>?_;simp only[dH,List.length_range]at h1;rw[mW,List.getElem_range,List.getElem_take,List.getElem_drop,bU (by omega)]
theorem Tb{α:Type}[Inhabited α](xs:List α)(k:Nat)(h:k<xs.length):part xs 0 k++part xs (k+1) (xs.length-(k+1))=xs.eraseIdx k:=by rw[Uj xs 0 k (by omega),Uj xs (k+1) _ (by omega),List.eraseIdx_eq_take_drop_succ,Hf,iU (l:=xs.drop (k+1)) (by simp_all)]
theorem aTD(n:aG)(D:List aT)(k:Nat)(left:Int)(l v:List aB)(G:l≠[])(ho:St.okTs n l)(hl:l.length<=1000000):
  bW (fun s=>(xK n D (k:Int) left l s).den) (v,0,1)=some (.inl (v,(bst n l (l.length-1):Int))):=by
 have hp:=fM.2 G;have h1:=aP (bd:=fun s=>(xK n D (k:Int) left l s).den) (fun i=>(v,(bst n l i:Int),((i+1:Nat):Int))) (l.length-1) (r:=.inl (v,(bst n l (l.length-1):Int))) (fun i hi=>?_) ?_
 ·exact h1
 ·have hb:=Pf n l i;have o1:=ho.get (show i+1<l.length by omega);have o2:=ho.get (show bst n l i<l.length by omega);unfold xK;simp only[Tr.den,aL];rw[aA bL,aA,aA o1,aA,aA o2,Pn];simp only[aI];rw[aK];rw[show bst n l (i+1)=if gC ((l.getD (i+1) default).Row.getD n.Step.toNat default) ((l.getD (bst n l i) default).Row.getD n.Step.toNat default)>0 then i+1 else bst n l i from rfl];grind
 ·unfold xK;simp only[Tr.den,aL];rw[aF bQ]
theorem Iu(n:aG)(tm:Int):∀ (f:Nat) (left:Int) (l:List aB),(yN n tm f left l).length<=f
 | 0,_,_=>cM _
 | f+1,left,l=>by
  rw[yN];split
  ·rw[fX]; have:=Iu n tm f (left-if left<(l.getD (bst n l (l.length-1)) default).N then left else (l.getD (bst n l (l.length-1)) default).N) (l.eraseIdx (bst n l (l.length-1))); omega
  ·simp
theorem Rc(n:aG)(gs:List aT)(k:Nat)(hk:k<gs.length)(he:-10000<=(gs.getD k default).end_/\(gs.getD k default).end_<=4398046511104):∀ (f:Nat) (out:List aB) (left:Int) (l:List aB),l.length=f->St.okTs n l->(∀ d,d∈l->0<=d.N/\d.N<=1000)->f<=1000000->0<=left/\left<=1000000->out.length+f<=100000000000 ->
  bW (fun s=>(tQ n gs (k:Int) s).den) (out,left,l)=some (.inl (out++yN n ((gs.getD k default).end_-1) f left l))
 | f,out,left,l,hf,ho,hN,hm,hl,hout=>by
  rw[pK];by_cases hc:left>0/\l≠[]
  ·obtain⟨g,rfl⟩:∃ g,f=g+1:=⟨f-1,by have:=fM.2 hc.2; omega⟩;have hb:=Gd (n:=n) hc.2;have hx:=hN _ (aM hb);have hmn:0<=(if left<(l.getD (bst n l (l.length-1)) default).N then left else (l.getD (bst n l (l.length-1)) default).N)/\(if left<(l.getD (bst n l (l.length-1)) default).N then left else (l.getD (bst n l (l.length-1)) default).N)<=left:=by split <;> omega
   have hbody:(tQ n gs (k:Int) (out,left,l)).den=some (.inl (out++[⟨(gs.getD k default).end_-1,(l.getD (bst n l (l.length-1)) default).Row,if left<(l.getD (bst n l (l.length-1)) default).N then left else (l.getD (bst n l (l.length-1)) default).N⟩],left-(if left<(l.getD (bst n l (l.length-1)) default).N then left else (l.getD (bst n l (l.length-1)) default).N),l.eraseIdx (bst n l (l.length-1)))):=by
    have hp:=fM.2 hc.2;unfold tQ;simp only[Tr.den,aL];rw[aA (bL hc.1)];simp only[aI];rw[aA bL,aTD n gs k left l out hc.2 ho (by omega)];simp only[aI,sel,aL];rw[aA,aA,aA,aA,aA,aV (n:=((bst n l (l.length-1):Nat):Int)+1),aA,aA];rw[aV (n:=(gs.getD k default).end_-1),aV]
    congr 4
    rw[show (0:Int).toNat=0 from rfl,show (((bst n l (l.length-1):Nat):Int)-0).toNat=bst n l (l.length-1) by omega,show (((bst n l (l.length-1):Nat):Int)+1).toNat=bst n l (l.length-1)+1 by omega,show ((l.length:Int)-(((bst n l (l.length-1):Nat):Int)+1)).toNat=l.length-(bst n l (l.length-1)+1) by omega];exact Tb l _ hb
   rw[hbody];simp only;rw[Rc n gs k hk he g _ _ _ (by grind) (fun d hd=>ho d ((Gq _ _).subset hd)) (fun d hd=>hN d ((Gq _ _).subset hd)) (by omega) (by omega) (by grind)];rw[yN,aA hc,cR]; rfl
  ·have hbody:(tQ n gs (k:Int) (out,left,l)).den=some (.inr (.inl out)):=by unfold tQ;simp only[Tr.den,aL];grind
   rw[hbody];have e:yN n ((gs.getD k default).end_-1) f left l=[]:=by
    cases f with
    | zero=>rfl
    | succ g=>rw[yN,aF hc]
   rw[e,eQ]
termination_by f=>f
noncomputable def zM (n:aG)(g:aT):List aB:=yN n (g.end_-1) g.l_.length n.Keep g.l_
theorem aRK(hn:Tf n)(h:okI n 0 A)(hN:∀ d,d∈A->0<=d.N/\d.N<=1000)(ho:St.okTs n A)(hl:A.length<=1000):aWC n A=some ((gsE n (evs n.Size n.Size A)).flatMap (zM n)):=by
 have M:=hn.size;have hkp:=hn.keep;unfold aWC aYX;simp only[Tr.den];rw[aBZ M hn.key h hl];simp only[aI];have G:=sF (n:=n) (len:=n.Size) (step:=n.Size) M (by omega) h.t hn.key;have Z:=nO n (evs n.Size n.Size A);have hel:=lY M M h.t;generalize gsE n (evs n.Size n.Size A)=D at G Z ⊢;have hfl:∀ D:List aT,(∀ g,g∈D->Sd A g)->(D.flatMap (zM n)).length<=D.length*1000:=fun D=>by
  induction D with
  | nil=>intro _; simp
  | cons g D ih=>intro h;rw[fL,dR,fX];have h1:=ih fun x hx=>h x (cO _ hx);have h2:=Iu n (g.end_-1) g.l_.length n.Keep g.l_;have h3:=(h g cS).len;unfold zM at h1 ⊢;omega
 have h1:=aP (bd:=fun s=>(Dn n D s).den) (fun k=>((D.take k).flatMap (zM n),(k:Int))) D.length (r:=.inl (D.flatMap (zM n))) (fun k J=>?_) ?_
 ·exact(congrArg (fun x=>Option.bind x _) h1).trans rfl
 ·have hg:=G _ (aM J);have g2:=hg.len;have g4:=hfl (D.take k) fun g hg=>G g (oK hg);rw[dU]at g4;unfold Dn;simp only[Tr.den,aL];rw[aA bL,aA,aA (by grind)];rw[kK,Rc n D k J hg.e (D.getD k default).l_.length _ _ _ rfl (fun d Q=>ho d (hg.sub d Q)) (fun d Q=>hN d (hg.sub d Q)) (by omega) (by omega) (by omega)];simp only[aI,sel];rw[aK,aJ J,jC,iT];rfl
 ·unfold Dn;simp only[Tr.den];rw[aF bQ,cF]
theorem aYL(hn:Tf n)(Q:DS A)(M:∀ d,d∈A->0<=d.N/\d.N<=1000)(ho:St.okTs n A)(hl:A.length<=1000)(p:Pl->Bool):
  wt p ((gsE n (evs n.Size n.Size A)).flatMap (zM n))=wt p (mN n (rK n) (cK (aY (bO n 0 A))) A):=by
 have hz:=hn.size;have hkp:=hn.keep;have hs:0<n.Size:=by omega
 have Z:∀ (k:ByteArray) (b:Int),mL n (evs n.Size n.Size A) (b,b+n.Size,k)=⟨gP n ((ofK n 0 k (inB n.Size n.Size b A)).getD 0 default).Row,b,b+n.Size,ofK n 0 k (inB n.Size n.Size b A)⟩:=fun k b=>by unfold mL;rw[zN hs,aA rfl]
 have h1:=Gw (n:=n) (len:=n.Size) hs (A:=A) (F:=fun q=>zM n (mL n (evs n.Size n.Size A) q)) (G:=fun k b=>yN n (b+n.Size-1) (inB n.Size n.Size b (ofK n 0 k A)).length n.Keep (inB n.Size n.Size b (ofK n 0 k A))) fun k b h=>by rw[Z,kW]; rfl
 have e1:(gsE n (evs n.Size n.Size A)).flatMap (zM n)=(qsE n (evs n.Size n.Size A)).flatMap fun q=>zM n (mL n (evs n.Size n.Size A) q):=by unfold gsE;rw[Ff]
 rw[e1,Pj p h1];unfold mN;rw[aTH,rU];refine nV fun k _=>?_;rw[rU];refine nV fun b _=>?_;have D:(inB n.Size n.Size b (ofK n 0 k A)).Sublist A:=oQ.trans oQ;unfold Ja;rw[<-aHB (Q.sublist D) (fun d J=>ho d (D.subset J)) (by grind)];exact Yv n p _ _ _ _ rfl (by omega) fun d J=>(M d (D.subset J)).1
def BL(K:Nat)(l:List Bool)(S:Nat->Prop):Prop:=l.length=K+1/\∀ p,p<=K->(l.getD p default=true↔S p)
theorem BL.congr{K:Nat}{l:List Bool}{S T:Nat->Prop}(h:BL K l S)(e:∀ p,p<=K->(S p↔T p)):BL K l T:=⟨h.1,fun p hp=>(h.2 p hp).trans (e p hp)⟩
theorem BL.set{K:Nat}{l:List Bool}{S:Nat->Prop}(h:BL K l S)(j:Nat):BL K (l.set j true) (fun p=>S p\/p=j):=by
 refine⟨by rw[List.length_set]; exact h.1,fun p hp=>?_⟩;have hl:=h.1;rw[iW];by_cases e:p=j
 ·grind
 ·rw[aF (fun D=>e D.1),h.2 p hp]; simp_all
theorem BL.none(K:Nat):BL K (List.replicate (K+1) (default:Bool)) (fun _=>False):=by refine⟨qR,fun p hp=>⟨fun h=>?_,False.elim⟩⟩;rw[dV,Ck]at h;split at h <;> cases h
abbrev vC (seq:List oH)(r:Nat):Int:=(seq.getD r default).Rep
theorem aBN(seq:List oH)(now:List Bool)(S:Nat->Prop)(h:BL seq.length now S)(hK:seq.length<=8):Sp (Wy seq now) (fun r=>BL seq.length r (fun p=>∃ q,S q/\Skp seq.length (vC seq) q p)):=by
 unfold Wy Us;simp only[Tr.den];refine Sq.bind (fun z:List Bool⊕List Bool=>∃ b,z = .inl b/\BL seq.length b (fun p=>∃ q,S q/\Skp seq.length (vC seq) q p)) ?_ fun z M=>?_
 ·refine dB (fun s:List Bool×Int=>s.2) seq.length (by omega) (fun s=>BL seq.length s.1 (fun p=>∃ q,S q/\Skp s.2.toNat (vC seq) q p)) (fun s k D hk hkN=>?_) ?_ rfl
  ·obtain⟨v1,v2⟩:=s;simp only at hk D;subst hk;rw[aL]at D;have hl:=D.1;unfold Lx;simp only[Tr.den,aL];by_cases hc:k<seq.length
   ·rw[aA bL,aA,aA];have Q:=D.2 k (by omega);have up:∀ q p,Skp k (vC seq) q p->Skp (k+1) (vC seq) q p:=fun q p hs=>⟨hs.1,fun r h1 h2=>⟨by have:=(hs.2 r h1 h2).1; omega,(hs.2 r h1 h2).2⟩⟩;have dn:∀ q p,Skp (k+1) (vC seq) q p->(p<=k\/q=p)->Skp k (vC seq) q p:=fun q p hs hp=>⟨hs.1,fun r h1 h2=>⟨by rcases hp with hp | hp <;> omega,(hs.2 r h1 h2).2⟩⟩;refine Sq.bind (fun z:List Bool×Bool=>z.1=v1/\(z.2=true↔(v1.getD k default=true/\vC seq k=2))) ?_ fun z M=>?_
    ·refine bK (fun h1=>?_) fun h1=>aC.2 ⟨rfl,fun h=>(by cases h),fun h=>absurd (h1.symm.trans h.1) (by decide)⟩;rw[aA];exact aC.2 ⟨rfl,fun h=>⟨h1,dP.1 h⟩,fun h=>dP.2 h.2⟩
    ·obtain⟨j4,j5⟩:=z;obtain⟨rfl,hj⟩:=M;simp only at hj D hl Q;have ew:IntKind.i64.wrap ((k:Int)+1)=((k+1:Nat):Int):=aK;refine Sq.bind (fun r=>BL seq.length r (fun p=>∃ q,S q/\Skp (k+1) (vC seq) q p)) ?_ fun r hr=>aC.2 ⟨rfl,hc,?_⟩
     ·refine bK (fun G=>?_) fun G=>aC.2 ?_
      ·have G:j5=true:=G;obtain⟨hb,h2⟩:=hj.1 G;obtain⟨b,hb1,hb2⟩:=Q.1 hb;rw[ew,aA (by grind),aL,aA (by simp_all),aA (by simp; omega)];refine aC.2 ((D.set (k+1)).congr fun p hp=>⟨?_,?_⟩)
       ·rintro (⟨q,J,hs⟩ | rfl)
        ·grind
        ·refine⟨b,hb1,(up b k hb2).trans ⟨by omega,fun r h3 h4=>?_⟩⟩;grind
       ·rintro⟨q,J,hs⟩;by_cases Z:p<=k\/q=p
        ·grind
        ·have:=hs.1;have h3:=(hs.2 (p-1) (by omega) (by omega)).1;omega
      ·have G:j5=false:=G;have hno:¬ (j4.getD k default=true/\vC seq k=2):=fun h=>by grind
       refine D.congr fun p hp=>⟨fun⟨q,J,hs⟩=>⟨q,J,up q p hs⟩,fun⟨q,J,hs⟩=>?_⟩;by_cases Z:p<=k\/q=p
       ·grind
       ·have h1:=hs.1;have h3:=(hs.2 (p-1) (by omega) (by omega)).1;have h4:=(hs.2 k (by omega) (by omega)).2;exact absurd ⟨Q.2 ⟨q,J,⟨by omega,fun r G h6=>⟨h6,(hs.2 r G (by omega)).2⟩⟩⟩,h4⟩ hno
     simp_all
   ·rw[aF bQ];have:k=seq.length:=by omega
    subst this;exact aC.2 ⟨v1,rfl,D⟩
  ·refine h.congr fun p hp=>⟨fun hp=>⟨p,hp,.refl p⟩,fun⟨q,J,h1,h2⟩=>?_⟩;rcases Nat.eq_or_lt_of_le h1 with e | e
   ·simp_all
   ·exact absurd (h2 q (cM q) e).1 (mX q)
 ·obtain⟨b,rfl,hb⟩:=M;exact aC.2 hb
theorem aSI(seq:List oH)(now D:List Bool)(S ok:Nat->Prop)(h:BL seq.length now S)(hg:D.length=seq.length)(ho:∀ p,p<seq.length->(D.getD p default=true↔ok p))(hK:seq.length<=8):
  Sp (aYW seq now D) (fun r=>BL seq.length r (fun p=>∃ q,(∃ b,S b/\b<seq.length/\ok b/\(q=b+1\/(vC seq b=1/\q=b)))/\Skp seq.length (vC seq) q p)):=by
 have hl:=h.1;have Z:∀ k:Nat,k<=8->IntKind.i64.wrap ((k:Int)+1)=((k+1:Nat):Int):=fun k hk=>aK;unfold aYW aYP;simp only[Tr.den,Z _ hK,aL];rw[aA ⟨⟨by omega,by omega⟩,by omega⟩];refine Sq.bind (fun z:List Bool⊕List Bool=>∃ b,z = .inl b/\BL seq.length b (fun p=>∃ b,S b/\b<seq.length/\ok b/\(p=b+1\/(vC seq b=1/\p=b)))) ?_ fun z Q=>?_
 ·refine dB (fun s:List Bool×Int=>s.2) seq.length (by omega) (fun s=>BL seq.length s.1 (fun p=>∃ b,S b/\b<s.2.toNat/\ok b/\(p=b+1\/(vC seq b=1/\p=b)))) (fun s k G hk hkN=>?_)
   ((BL.none _).congr fun p hp=>⟨False.elim,fun⟨b,_,h2,_⟩=>absurd h2 (mX b)⟩) rfl
  obtain⟨v1,v2⟩:=s;simp only at hk G;subst hk;rw[aL]at G;have hvl:=G.1;unfold Yi;simp only[Tr.den,aL];by_cases hc:k<seq.length
  ·rw[aA bL,aA,Z _ (by omega)];refine Sq.bind (fun z:List Bool×Bool=>z.1=v1/\(z.2=true↔(S k/\ok k))) ?_ fun z Q=>?_
   ·refine bK (fun h1=>?_) fun h1=>aC.2 ⟨rfl,fun h=>(by cases h),fun J=>absurd (h1.symm.trans ((h.2 k (by omega)).2 J.1)) (by decide)⟩;rw[aA];exact aC.2 ⟨rfl,fun J=>⟨(h.2 k (by omega)).1 h1,(ho k hc).1 J⟩,fun J=>(ho k hc).2 J.2⟩
   ·obtain⟨j4,j5⟩:=z;obtain⟨rfl,hj⟩:=Q;simp only at hj G hvl;refine Sq.bind (fun r=>BL seq.length r (fun p=>∃ b,S b/\b<k+1/\ok b/\(p=b+1\/(vC seq b=1/\p=b)))) ?_ fun r hr=>aC.2 ⟨by rw[<-Z k (by omega)],hc,?_⟩
    ·refine bK (fun M=>?_) fun M=>aC.2 ?_
     ·have M:j5=true:=M;obtain⟨hS,hO⟩:=hj.1 M;rw[aA (by grind),aL,aA (by simp_all),aA (by simp; omega),aA];refine bR.2 (bK (fun h1=>?_) fun h1=>?_)
      ·have h1:=dP.1 h1;rw[aA (by grind),aA (by grind),aA (by simp; omega)];refine aC.2 (aC.2 (((G.set (k+1)).set k).congr fun p hp=>⟨?_,?_⟩))
       all_goals grind
      ·have h1:¬ vC seq k=1:=beq_eq_false_iff_ne.1 h1;refine aC.2 (aC.2 ((G.set (k+1)).congr fun p hp=>⟨?_,?_⟩))
       all_goals grind
     grind
    simp_all
  ·rw[aF bQ];have:k=seq.length:=by omega
   subst this;exact aC.2 ⟨v1,rfl,G⟩
 ·obtain⟨b,rfl,hb⟩:=Q;simp only[sel];refine Sq.bind _ (aBN seq b _ hb hK) fun r hr=>aC.2 hr
section
variable {α:Type} {K:Nat} {rep:Nat->Int} {ok:α->Nat->Prop}
theorem Tp:∀ (l:List α) (S:Nat->Prop),Fwd K rep ok S l↔(l.foldl (Nxt K rep ok) S) K
 | [],S=>Iff.rfl
 | x::l,S=>by rw[Fwd,lU]; exact Tp l _
end
def StL(fs:List aS)(n:aG)(l:List aB):Nat->Prop:=l.foldl (Nxt n.Seq.length (fU n) (okG fs n)) (fun p=>Skp n.Seq.length (fU n) 0 p)
theorem aTZ(fs:List aS)(n:aG)(l:List aB):StL fs n l n.Seq.length↔pQ n.Seq.length (fU n) (okG fs n) l 0:=(Tp l _).symm.trans (Kx _ _ _ l)
theorem Rv(hi:i<=j)(D:j<P.length):(P.take (j+1)).drop i=(P.take j).drop i++[P.getD j default]:=by rw[aJ D,List.drop_append_of_le_length (by grind)]
theorem Sn(hi:i<=j)(D:j<P.length):(P.take (j+1)).drop i=P.getD i default::(P.take (j+1)).drop (i+1):=by
 rw[dF (by grind)]
 congr 1
 rw[dV,dV,tC,aA]
theorem aAK(h:j<i):(P.take (j+1)).drop i=[]:=kO (by grind)
theorem aAW(G:n.Seq.length<=8)(hi:i<=j)(D:j<P.length):
  (isM dY.time_ (nxF n) (Jg n) n.Size (P.getD i default).Time (tN n 1) (((P.take (j+1)).drop i).map (gpl fs n))=true)↔((P.getD j default).Time-(P.getD i default).Time<n.Size/\StL fs n ((P.take (j+1)).drop i) n.Seq.length):=by
 rw[aVL G,aTZ];have:((((P.take (j+1)).drop i).map (gpl fs n)).getLastD default).time_=(P.getD j default).Time:=by rw[Rv hi D,eI,fY,Ce,uI]; rfl
 rw[this]
theorem aUW(M:n.Seq.length<=8)(hi:i<=j)(D:j<P.length)(h:(P.getD j default).Time-(P.getD i default).Time<n.Size)(J:StL fs n ((P.take (j+1)).drop i) n.Seq.length):
  mB fs n ((P.take (j+1)).drop i)=(j:Int)-i+1:=by
 have G:=(aAW (fs:=fs) M hi D).2 ⟨h,J⟩;rw[Sn hi D]at G ⊢;rw[Af,aA G,fX,vN,dU]; omega
theorem aMD(J:n.Seq.length<=8)(hi:i<=j)(D:j<P.length)(h:¬ ((P.getD j default).Time-(P.getD i default).Time<n.Size/\StL fs n ((P.take (j+1)).drop i) n.Seq.length)):
  mB fs n ((P.take (j+1)).drop i)=mB fs n ((P.take (j+1)).drop (i+1)):=by
 have G:¬ _:=fun q=>h ((aAW (fs:=fs) J hi D).1 q);rw[Sn hi D]at G ⊢;rw[Af,aF G]
theorem aGP{g:List (List Bool)}(a2:aT)(hK:n.Seq.length<=8)(hz:1<=n.Size/\n.Size<=10000)(hg:Vv fs n P g)(hs:TS P)(ht:fZ P)(hP:P.length<=1000000000)(hi:i<P.length)
  (M:List Int)(hl:M.length=P.length)(hL:∀ j,j<P.length->M.getD j default=mB fs n ((P.take (j+1)).drop (i+1)))(now:List Bool)(hn:BL n.Seq.length now (fun p=>Skp n.Seq.length (fU n) 0 p)):
  Sp (bW (fun s=>(Ms n a2 (i:Int) s).den) (P,g,M,now,(i:Int))) (fun z=>∃ lg,z = .inl (P,g,lg)/\lg.length=P.length/\∀ j,j<P.length->lg.getD j default=mB fs n ((P.take (j+1)).drop i)):=by
 refine Sq.while (fun s:List aB×List (List Bool)×List Int×List Bool×Int=>s.1=P/\s.2.1=g/\∃ j:Nat,s.2.2.2.2=(j:Int)/\i<=j/\j<=P.length/\s.2.2.1.length=P.length/\BL n.Seq.length s.2.2.2.1 (StL fs n ((P.take j).drop i)) /\
   ∀ G,G < P.length->s.2.2.1.getD G default=if G < j then mB fs n ((P.take (G+1)).drop i) else mB fs n ((P.take (G+1)).drop (i+1)))
  (fun s=>P.length-s.2.2.2.2.toNat) (fun s hI=>?_) ⟨rfl,rfl,i,rfl,cM i,by omega,hl,?_,fun G J=>?_⟩
 ·obtain⟨D,v28,v29,v30,v31⟩:=s;obtain⟨rfl,rfl,j,hj,Z,hjP,Q,hvn,hvL⟩:=hI;simp only at hj Q hvn hvL Z hjP hP hi hl hL ht hs hg;subst hj;unfold Ms;simp only[Tr.den,aL];have t2:=ht _ (aM hi);have fin:(∀ G,j<=G->G < D.length->¬ ((D.getD G default).Time-(D.getD i default).Time<n.Size))->∀ G,G < D.length->v29.getD G default=mB fs n ((D.take (G+1)).drop i):=fun hno G J=>by
   rw[hvL G J];by_cases h:G < j
   ·rw[aA h]
   ·rw[aF h,aMD hK (by omega) J (fun q=>hno G (by omega) J q.1)]
  by_cases hc:j<D.length
  ·have t1:=ht _ (aM hc);rw[aA bL,aA,aA,aA,aA];simp only[aI];have ewr:IntKind.i64.wrap ((D.getD j default).Time-(D.getD i default).Time)=(D.getD j default).Time-(D.getD i default).Time:=aV;by_cases hT:(D.getD j default).Time-(D.getD i default).Time<n.Size
   ·rw[aA bL];have hgl:=hg.len;rw[aA,aA];refine Sq.bind _ (aSI n.Seq v30 (v28.getD j default) _ (okG fs n (D.getD j default)) hvn (hg.sz j hc) (hg.ok j hc) hK) fun r39 hr=>?_;have hr:BL n.Seq.length r39 (StL fs n ((D.take (j+1)).drop i)):=by rw[Rv Z hc];unfold StL;rw[Ao];exact hr
    have hrl:=hr.1;have hK2:=hr.2 n.Seq.length (cM _);rw[aA];have hsg:=aUW (fs:=fs) hK Z hc hT;have hsn:¬ StL fs n ((D.take (j+1)).drop i) n.Seq.length->_:=fun q=>aMD (fs:=fs) hK Z hc fun q'=>q q'.2;refine Sq.bind (fun z:List aB×List (List Bool)×List Int=>z.1=D/\z.2.1=v28/\z.2.2.length=D.length/\∀ G,G < D.length->z.2.2.getD G default=if G < j+1 then mB fs n ((D.take (G+1)).drop i) else mB fs n ((D.take (G+1)).drop (i+1))) ?_ fun z hz=>?_
    ·refine bK (fun h=>?_) fun h=>?_
     ·rw[aA,aA,aA (by simp; omega)];refine aC.2 ⟨rfl,rfl,by simp_all,fun G J=>?_⟩;simp only;rw[iW];by_cases e:G=j
      ·subst e;rw[aA ⟨rfl,by omega⟩,aA,hsg (hK2.1 h),aV (n:=(G:Int)-(i:Int)),aV]
      grind
     ·have hno:¬ StL fs n ((D.take (j+1)).drop i) n.Seq.length:=fun q=>by simp_all
      refine aC.2 ⟨rfl,rfl,Q,fun G J=>?_⟩;grind
    ·obtain⟨j40,j41,j42⟩:=z;obtain⟨rfl,rfl,z3,z4⟩:=hz;simp only at z3 z4 hc;refine aC.2 ⟨⟨rfl,rfl,j+1,aK (Nat.lt_of_le_of_lt hjP (by omega)),by omega,Nat.succ_le_of_lt hc,z3,hr,z4⟩,?_⟩;simp only at hjP hP ⊢;rw[aK,aL]; omega
   ·rw[aF bQ];refine aC.2 ⟨v29,rfl,Q,fin fun G h1 h2=>?_⟩;have:=hs.get h1 h2;omega
  ·rw[aF bQ];simp only[aI,eO,eH];exact aC.2 ⟨v29,rfl,Q,fin fun G h1 h2=>absurd h2 (by omega)⟩
 ·have e:(P.take i).drop i=[]:=kO (by grind);simp only;rw[e];exact hn
 ·simp only;rw[hL G J];by_cases h:G < i
  ·rw[aA h,aAK h,aAK (by omega)]
  omega
structure Nf (fs:List aS)(n:aG)(l:List aB):Prop where
 i:okI n 0 l
 ev:∀ d,d∈l->∀ p,p<n.Seq.length->aOC fs (n.Seq.getD p default).Pred d.Time d.Row=some (evV fs (n.Seq.getD p default).Pred d)
 nn:∀ d,d∈l->d.N<=1000
 len:l.length<=1000000
theorem Nf.sub{fs:List aS}{n:aG}{l r:List aB}(h:Nf fs n l)(hs:∀ x,x∈r->x∈l)(hl:r.length<=1000000):Nf fs n r:=⟨h.i.sub hs,fun d D=>h.ev d (hs d D),fun d D=>h.nn d (hs d D),hl⟩
theorem aZV(h:Nf fs n a2.l_)(hK:n.Seq.length<=8)(v1:List aB)(v2:List (List Bool))(hk:k<a2.l_.length):
  Sp (bW (fun s=>(Pe fs n a2 (k:Int) s).den) (v1,v2,List.replicate n.Seq.length (default:Bool),0))
   (fun z=>∃ g:List Bool,z = .inl (v1,v2,g)/\g.length=n.Seq.length/\∀ p,p<n.Seq.length->(g.getD p default=true↔okG fs n (a2.l_.getD k default) p)):=by
 refine dB (fun s:List aB×List (List Bool)×List Bool×Int=>s.2.2.2) n.Seq.length (by omega) (fun s=>s.1=v1/\s.2.1=v2/\s.2.2.1.length=n.Seq.length/\∀ p:Nat,(p:Int)<s.2.2.2->(s.2.2.1.getD p default=true↔okG fs n (a2.l_.getD k default) p)) (fun s q G D J=>?_)
  ⟨rfl,rfl,qR,fun p hp=>absurd hp (by grind)⟩ rfl
 obtain⟨Z,Q,v8,M⟩:=s;obtain⟨rfl,rfl,hl,hg⟩:=G;simp only at D hl hg;subst D;unfold Pe;simp only[Tr.den,aL];by_cases hc:q<n.Seq.length
 ·have hm:=aM hk;rw[aA bL,aA,aA,aA,h.ev _ hm q hc];simp only[aI];rw[aA,aA,aA (by simp; omega)];refine aC.2 ⟨rfl,hc,rfl,rfl,by simp_all,fun p hp=>?_⟩;rw[aK]at hp;simp only at hp ⊢;rw[iW];by_cases e:p=q
  ·subst e;rw[aA ⟨rfl,by omega⟩,dP];rfl
  grind
 ·rw[aF bQ];exact aC.2 ⟨v8,rfl,hl,fun p hp=>hg p (by omega)⟩
theorem aYK(a2:aT)(hk:k<a2.l_.length)(D:(a2.l_.getD k default).N<=1000)(v1:List aB)(v2:List (List Bool))(g:List Bool)(h1:v1.length<=1000000000)(h2:v2.length<=1000000000):
  bW (fun s=>(yW a2 (k:Int) s).den) (v1,v2,g,0)=some (.inl (v1++List.replicate (a2.l_.getD k default).N.toNat (a2.l_.getD k default),v2++List.replicate (a2.l_.getD k default).N.toNat g)):=by
 have h3:=aP (bd:=fun s=>(yW a2 (k:Int) s).den) (fun i=>(v1++List.replicate i (a2.l_.getD k default),v2++List.replicate i g,g,(i:Int))) (a2.l_.getD k default).N.toNat (r:=.inl (v1++List.replicate (a2.l_.getD k default).N.toNat (a2.l_.getD k default),v2++List.replicate (a2.l_.getD k default).N.toNat g)) (fun i hi=>?_) ?_
 ·simp_all
 ·unfold yW;simp only[Tr.den,aL];rw[aA,aA bL,aA,aA (by grind),aA (by grind),aK];rw[cR,cR,<-Mx,<-Mx]
 ·unfold yW;simp only[Tr.den,aL];rw[aA,aF bQ]
theorem aFB(h:Nf fs n a2.l_)(hK:n.Seq.length<=8):
  Sp (bW (fun s=>(Mh fs n a2 s).den) (([]:List aB),([]:List (List Bool)),0)) (fun z=>∃ g,z = .inl (plG a2.l_,g)/\Vv fs n (plG a2.l_) g):=by
 refine dB (fun s:List aB×List (List Bool)×Int=>s.2.2) a2.l_.length (by have:=h.len; omega) (fun s=>s.1=plG (a2.l_.take s.2.2.toNat)/\Vv fs n s.1 s.2.1) (fun s k hI hk hkN=>?_)
  ⟨by rfl,rfl,fun i hi=>absurd hi (mX i),fun i hi=>absurd hi (mX i)⟩ rfl
 obtain⟨v1,v2,v3⟩:=s;obtain⟨G,hg⟩:=hI;simp only at hk G hg;subst hk;rw[aL]at G;subst G;have M:=h.len;have J:=yG (l:=a2.l_.take k) fun d Z=>h.nn d (oK Z);rw[dU]at J;unfold Mh;simp only[Tr.den,aL];by_cases hc:k<a2.l_.length
 ·have hN:=h.nn _ (aM hc);rw[aA bL,aA ⟨⟨by omega,by omega⟩,by omega⟩];refine Sq.bind _ (Sq.of (aZV h hK (plG (a2.l_.take k)) v2 hc)) fun z Q=>?_;obtain⟨g,rfl,hgl,hgo⟩:=Q;simp only[sel];have hvl:=hg.len;rw[aYK a2 hc hN _ _ g (by omega) (by omega)];simp only[aI,sel];have eP:plG (a2.l_.take (k+1))=plG (a2.l_.take k)++List.replicate (a2.l_.getD k default).N.toNat (a2.l_.getD k default):=by unfold plG;rw[aJ hc,jC,fL,Fw,eQ]
  refine aC.2 ⟨rfl,hc,?_,?_,?_,?_⟩
  ·simp only; rw[aK,aL,eP]
  ·simp_all
  ·intro i hi;simp only at hi ⊢;rw[dR,qR]at hi;rw[cE];by_cases D:i<v2.length
   ·rw[aA D]; exact hg.sz i (by omega)
   grind
  ·intro i hi;simp only at hi ⊢;rw[dR,qR]at hi;rw[cE,cE];by_cases D:i<v2.length
   ·rw[aA D,aA]; exact hg.ok i (by omega)
   grind
 ·rw[aF bQ];rw[iU (by omega)]at hg ⊢;exact aC.2 ⟨v2,rfl,hg⟩
theorem aSZ{g:List (List Bool)}(a2:aT)(hK:n.Seq.length<=8)(hz:1<=n.Size/\n.Size<=10000)(hg:Vv fs n P g)(hs:TS P)(ht:fZ P)(hP:P.length<=1000000000):
  Sp (bW (fun s=>(Px n a2 s).den) (P,g,List.replicate P.length (default:Int),IntKind.i64.wrap ((P.length:Int)-1))) (fun z=>∃ lg,z = .inl (P,lg)/\lg.length=P.length/\∀ j,j<P.length->lg.getD j default=mB fs n (P.take (j+1))):=by
 refine Sq.while (fun s:List aB×List (List Bool)×List Int×Int=>s.1=P/\s.2.1=g/\∃ k:Nat,s.2.2.2=(k:Int)-1/\k<=P.length/\s.2.2.1.length=P.length/\∀ j,j<P.length->s.2.2.1.getD j default=mB fs n ((P.take (j+1)).drop k)) (fun s=>(s.2.2.2+1).toNat) (fun s hI=>?_)
  ⟨rfl,rfl,P.length,by simp only; rw[aV],cM _,qR,fun j Q=>?_⟩
 ·obtain⟨v20,v21,J,v23⟩:=s;obtain⟨M,e2,k,hk,hkP,D,G⟩:=hI;simp only at M e2 hk D G;subst M e2 hk;unfold Px;simp only[Tr.den];cases k with
  | zero=>rw[aF bQ];exact aC.2 ⟨J,rfl,D,fun j Q=>by rw[G j Q,Hf]⟩
  | succ k=>
   have M:((k+1:Nat):Int)-1=(k:Int):=by omega
   have ew:IntKind.i64.wrap ((n.Seq.length:Int)+1)=((n.Seq.length+1:Nat):Int):=aK;rw[M,aA bL,ew];simp only[aL];rw[aA ⟨⟨by omega,by omega⟩,by omega⟩,aA (by simp),aA (by simp),aA (by simp)];refine Sq.bind _ (aBN n.Seq _ _ ((BL.none n.Seq.length).set 0) hK) fun r hr=>?_;have hr:BL n.Seq.length r (fun p=>Skp n.Seq.length (fU n) 0 p):=hr.congr fun p hp=>⟨fun⟨q,hq,h⟩=>by simp_all,fun h=>⟨0,.inr rfl,h⟩⟩;refine Sq.bind _ (Sq.of (aGP a2 hK hz hg hs ht hP (i:=k) (by omega) J D G r hr)) fun z Z=>?_;obtain⟨lg,rfl,h1,h2⟩:=Z;simp only[sel];have ew2:IntKind.i64.wrap ((k:Int)-1)=(k:Int)-1:=aV;refine aC.2 ⟨⟨rfl,rfl,k,ew2,by omega,h1,h2⟩,?_⟩;simp_all
 ·have e:(P.take (j+1)).drop P.length=[]:=kO (by grind);simp only;rw[e,dV,Ck,aA Q]; rfl
theorem aQX(h:Nf fs n a2.l_)(hn:Rk n)(hs:TS a2.l_)(hkl:a2.key_.length<=10):aME fs n a2=some (iI n a2.key_ 0 [] (plA fs n a2.l_)):=by
 have hK:=hn.seq.2;refine Sp.eq ?_;unfold aME aWF;simp only[Tr.den];refine Sq.bind _ (Sq.of (aFB h hK)) fun z Z=>?_;obtain⟨g,rfl,hg⟩:=Z;simp only[sel];have hlen:=h.len;have hpl:=yG h.nn;have hts:=aKK hs;have htm:fZ (plG a2.l_):=fun d hd=>h.i.t d (Ep hd);rw[aA ⟨⟨by omega,by omega⟩,by omega⟩,aL];refine Sq.bind _ (Sq.of (aSZ a2 hK hn.size hg hts htm (by omega))) fun z Z=>?_;obtain⟨Q,rfl,hll,hlL⟩:=Z;simp only[sel];have D:∀ k,(iI n a2.key_ 0 [] (((plG a2.l_).take k).map (gpl fs n))).length<=k:=fun k=>by
  have:∀ (a u:List dY),(iI n a2.key_ 0 u a).length<=a.length:=fun a=>by
   induction a with
   | nil=>intro u; exact cM _
   | cons q a ih=>
    intro u;rw[iI,dR,fX];have h1:=ih (u++[q]);have h2:(if (0:Int)<=q.time_ then Da n a2.key_ (u++[q]) else []).length<=1:=by
     split
     ·unfold Da; split <;> simp
     ·simp
    omega
  grind
 have h1:=aP (bd:=fun s=>(Dl a2 s).den) (fun k=>(iI n a2.key_ 0 [] (((plG a2.l_).take k).map (gpl fs n)),plG a2.l_,Q,(k:Int))) (plG a2.l_).length (r:=.inl (iI n a2.key_ 0 [] (plA fs n a2.l_))) (fun k G=>?_) ?_
 ·rw[show (([]:List aB),plG a2.l_,Q,(0:Int))=(fun k:Nat=>(iI n a2.key_ 0 [] (((plG a2.l_).take k).map (gpl fs n)),plG a2.l_,Q,(k:Int))) 0 from rfl,h1];exact aC.2 rfl
 ·unfold Dl;simp only[Tr.den,aL];have hd:=Ep (aM G);have hol:=D k;have ht0:=(h.i.t _ hd).1;have hL:=hlL k G;rw[aA bL,aA,aA];have eL:((plG a2.l_).take k).map (gpl fs n)++[gpl fs n ((plG a2.l_).getD k default)]=((plG a2.l_).take (k+1)).map (gpl fs n):=by rw[aJ G,eI]; rfl
  have eS:iI n a2.key_ 0 [] (((plG a2.l_).take (k+1)).map (gpl fs n))=iI n a2.key_ 0 [] (((plG a2.l_).take k).map (gpl fs n))++Da n a2.key_ (((plG a2.l_).take (k+1)).map (gpl fs n)):=by rw[<-eL,Ho,kK,iI,iI,eQ,aA (show (0:Int)<=(gpl fs n ((plG a2.l_).getD k default)).time_ from ht0)]
  rw[eS];unfold Da;have J:((((plG a2.l_).take (k+1)).map (gpl fs n)).getLastD default).time_=((plG a2.l_).getD k default).Time:=by rw[<-eL,uI]; rfl
  rw[J];rcases Sj (fs:=fs) (n:=n) G with⟨b1,b2⟩ | ⟨i,hi,b1,b2⟩
  ·rw[b2,aF bQ];simp only[aI,eQ];rw[aK]
  ·have M:=hL.trans b1;have ew:IntKind.i64.wrap (IntKind.i64.wrap ((k:Int)+1)-Q.getD k default)=(i:Int):=by rw[M,aV (n:=(k:Int)+1),aV]; omega
   rw[b2,aA bL,aA,aA,aA,aA,aA,aA,aA,aA,aA,aA,aA (by grind)];simp only[aI];rw[aK (n:=k) (by omega)];rw[aK (n:=k) (by omega)]at ew;rw[ew,M];rfl
 ·unfold Dl;simp only[Tr.den];rw[aF bQ,cF,Ps]
noncomputable section
def ev0(A:List aB):List Ev:=A.map fun d=>(0,0,d)
theorem yF{n:aG}{q:EQ}:∀ A:List aB,ofE n q (ev0 A)=if q.1=0/\q.2.1=0 then ofK n 0 q.2.2 A else []
 | []=>by split <;> rfl
 | d::A=>by
  rw[show ev0 (d::A)=(0,0,d)::ev0 A from rfl,Tx,yF A];obtain⟨q1,q2,q3⟩:=q;simp only;by_cases h:q1=0/\q2=0
  ·obtain⟨h1,h2⟩:=h;subst h1 h2;rw[aA (show (0:Int)=0/\(0:Int)=0 from ⟨rfl,rfl⟩)];by_cases h3:kd n 0 d=q3
   ·rw[aA (show evK n (0,0,d)=(0,0,q3) by rw[<-h3]; rfl)];unfold ofK;simp_all
   ·rw[aF (show ¬ evK n (0,0,d)=(0,0,q3) from fun e=>h3 (congrArg (·.2.2) e))];unfold ofK;simp_all
  ·rw[aF h,aF (show ¬ evK n (0,0,d)=(q1,q2,q3) from fun e=>h ⟨(congrArg (·.1) e).symm,(congrArg (·.2.1) e).symm⟩),aF h]; rfl
def mtG(fs:List aS)(n:aG)(g:aT):List aB:=iI n g.key_ 0 [] (plA fs n g.l_)
theorem aVX{q:EQ}(D:q∈qsE n (ev0 A)):q=(0,0,q.2.2)/\mL n (ev0 A) q=⟨gP n ((ofK n 0 q.2.2 A).getD 0 default).Row,0,0,ofK n 0 q.2.2 A⟩/\ofK n 0 q.2.2 A≠[]:=by
 have h:=nQ.1 D;rw[yF]at h;by_cases hc:q.1=0/\q.2.1=0
 ·obtain⟨M,J,G⟩:=q;obtain⟨h1,h2⟩:=hc;simp only at h1 h2;subst h1 h2;rw[aA ⟨rfl,rfl⟩]at h;refine⟨rfl,?_,h⟩;unfold mL;rw[yF,aA ⟨rfl,rfl⟩]
 simp_all
theorem aPV(hn:Rk n)(h:Nf fs n A)(hs:TS A)(hl:A.length<=1000):bCI fs n A=some ((gsE n (ev0 A)).flatMap (mtG fs n)):=by
 have M:=hn.key;unfold bCI aZT;simp only[Tr.den];have h1:=aP (bd:=fun s=>(Dr n A s).den) (fun k=>(gsE n (ev0 (A.take k)),(k:Int))) A.length (r:=.inl (gsE n (ev0 A))) (fun k G=>?_) ?_
 ·refine(congrArg (fun x=>Option.bind x _) h1).trans ?_;simp only[aI,sel];have J:=nO n (ev0 A);rw[show (ev0 A).length=A.length from dH _]at J;have hm:∀ g,g∈gsE n (ev0 A)->aME fs n g=some (mtG fs n g)/\(mtG fs n g).length<=1000000:=fun g hg=>by obtain⟨q,Z,rfl⟩:=cU.1 hg;obtain⟨h1,h2,h3⟩:=aVX Z;rw[h2];have hof:(ofK n 0 q.2.2 A).length<=A.length:=lM _ _;have hml:=Gc (fs:=fs) (n:=n) (l:=ofK n 0 q.2.2 A) fun d hd=>h.nn d (gW.1 hd).1;refine⟨aQX (a2:=⟨gP n ((ofK n 0 q.2.2 A).getD 0 default).Row,0,0,ofK n 0 q.2.2 A⟩) (h.sub (fun x hx=>(gW.1 hx).1) (by grind)) hn (hs.filter _) (by show (gP n _).length<=10; rw[pV]; exact M),?_⟩;show (aES fs n (ofK n 0 q.2.2 A)).length<=_;omega
  generalize gsE n (ev0 A)=D at hm J ⊢;have Q:∀ D:List aT,(∀ g,g∈D->aME fs n g=some (mtG fs n g)/\(mtG fs n g).length<=1000000)->(D.flatMap (mtG fs n)).length<=D.length*1000000:=fun D=>by
   induction D with
   | nil=>intro _; simp
   | cons g D ih=>intro h;rw[fL,dR,fX];have a1:=ih fun x hx=>h x (cO _ hx);grind
  have h2:=aP (bd:=fun s=>(Do fs n D s).den) (fun k=>((D.take k).flatMap (mtG fs n),(k:Int))) D.length (r:=.inl (D.flatMap (mtG fs n))) (fun k hk=>?_) ?_
  ·exact(congrArg (fun x=>Option.bind x _) h2).trans rfl
  ·have ha:=Q (D.take k) fun g hg=>hm g (oK hg);rw[dU]at ha;have hg:=hm _ (aM hk);have hg2:=hg.2;unfold Do;simp only[Tr.den,aL];rw[aA bL,aA,hg.1];simp only[aI];rw[aA,aK,aJ hk,jC,iT]
  ·unfold Do;simp only[Tr.den];rw[aF bQ,cF]
 ·unfold Dr;simp only[Tr.den,aL];rw[aA bL,aA,Ds _ n.Key (h.i.c _ (aM G)) (by omega),Gb];simp only[aI];rw[aA,Fq _ _ _ _ (by omega) (by unfold ev0; grind)];simp only[aI];rw[aK,aJ G];unfold ev0;grind
 ·unfold Dr;simp only[Tr.den];rw[aF bQ,cF]
theorem aUH(fs:List aS)(n:aG)(A:List aB):((gsE n (ev0 A)).flatMap (mtG fs n)).Perm (rP fs n (cK (aY (bO n 0 A))) A):=by
 have J:(cK (aY (bO n 0 A))).Nodup:=(jB _).nodup_iff.2 ((Bn n 0 A).nodup LO.bytes);have M:∀ k,k∈cK (aY (bO n 0 A))↔ofK n 0 k A≠[]:=fun k=>by rw[(jB _).mem_iff]; exact nG
 have hp:(qsE n (ev0 A)).Perm ((cK (aY (bO n 0 A))).map fun k=>((0:Int),(0:Int),k)):=by
  refine(Xg (zX n _) ?_).2 fun q=>?_
  ·grind
  ·constructor
   ·intro D;obtain⟨h1,_,h3⟩:=aVX D;grind
   ·intro D;obtain⟨k,hk,rfl⟩:=cU.1 D;refine nQ.2 ?_;rw[yF,aA ⟨rfl,rfl⟩];simp_all
 have G:(gsE n (ev0 A)).flatMap (mtG fs n)=(qsE n (ev0 A)).flatMap fun q=>mtG fs n (mL n (ev0 A) q):=by unfold gsE; rw[Ff]
 rw[G];refine(xY _ hp).trans (List.Perm.of_eq ?_);unfold rP;rw[Ff];refine iH fun k hk=>?_;unfold mL mtG;rw[yF,aA ⟨rfl,rfl⟩];rfl
end
theorem bEE(G:fV fs n ta tb)(Q:n.Op=8)(hl:okL 104 dK fs)(hn:iO n)(hA:NIn ta A):Nf fs n A:=by obtain⟨_,_,_,_,_,_,_,_,_,_,_,_,_,_,M,_⟩:=hn;have hp:=G.p Q;have J:=G.la;have Z:=hA.len;exact⟨hA.okI J.2 hp.2.1,fun d D i hi=>Pd hl G.fr (M.2 _ (aM hi)).1 (hp.1 i hi).1 d.Time (hA.row d D).1 (hA.sm D) (hA.row d D).2,fun d D=>(hA.n d D).2,by omega⟩
def kD(l:List (List aB)):List aB:=if l.length>1 then l.getD 1 default else []
theorem sJ{α:Type}(h:0<l.length)(f:List aB->List aB->Option α):
  ((if decide ((l.length:Int)>0)=true then (if (0:Int)<=(0:Int)/\(0:Int)<(l.length:Int) then some (l.getD (0:Int).toNat default) else none) else some ([]:List aB)).bind fun j1=>
    (if decide ((l.length:Int)>1)=true then (if (0:Int)<=(1:Int)/\(1:Int)<(l.length:Int) then some (l.getD (1:Int).toNat default) else none) else some ([]:List aB)).bind fun j2=>f j1 j2)=f (l.getD 0 default) (kD l):=by
 rw[aA bL,aA];simp only[aI];unfold kD;grind
theorem bER(Q:0<l.length)(G:n.Op=4)(hn:wO n)(h:okI n 0 (l.getD 0 default))(ha:Ct n (l.getD 0 default))(hl:(l.getD 0 default).length<=200):
  G46 fs n l=some (cons (kB n (cK (aY (bO n 0 (l.getD 0 default)))) (l.getD 0 default))):=by
 have hp:=Xo hn (l.getD 0 default);have J:=xU hn (cK (aY (bO n 0 (l.getD 0 default)))) (l.getD 0 default);have D:okD ((lS n (l.getD 0 default)).map (Dc n)):=⟨fun x hx=>J.r x (hp.mem_iff.1 hx),fun x hx=>J.n x (hp.mem_iff.1 hx)⟩;have M:=Kr hn h.t (show _<=1000 by omega);unfold G46 T46;simp only[Tr.den];refine(sJ Q _).trans ?_;simp only[G];simp (decide:=true) only[↓reduceIte];rw[aPE hn h ha (by omega)];simp only[aI];rw[kZ _ D (by grind),Ba hp D.n]; rfl
theorem bFS(h0:0<l.length)(Q:n.Op=5)(hn:Tf n)(h:okI n 0 (l.getD 0 default))(hN:∀ d,d∈l.getD 0 default->0<=d.N/\d.N<=1000)(hD:DS (l.getD 0 default))(ho:St.okTs n (l.getD 0 default))(hl:(l.getD 0 default).length<=200)
  (hd:okD (mN n (rK n) (cK (aY (bO n 0 (l.getD 0 default)))) (l.getD 0 default)))(hr:∀ x,x∈(gsE n (evs n.Size n.Size (l.getD 0 default))).flatMap (zM n)->okR x/\oW x.N):
  G46 fs n l=some (cons (mN n (rK n) (cK (aY (bO n 0 (l.getD 0 default)))) (l.getD 0 default))):=by
 have G:okD ((gsE n (evs n.Size n.Size (l.getD 0 default))).flatMap (zM n)):=⟨fun x hx=>(hr x hx).1,fun x hx=>(hr x hx).2⟩;have M:=hn.size;have hgl:=nO n (evs n.Size n.Size (l.getD 0 default));have hel:=lY M M h.t;have Z:=sF (n:=n) (len:=n.Size) (step:=n.Size) M (by omega) h.t hn.key;have J:∀ D:List aT,(∀ g,g∈D->Sd (l.getD 0 default) g)->(D.flatMap (zM n)).length<=D.length*200:=fun D=>by
  induction D with
  | nil=>intro _; simp
  | cons g D ih=>intro h;rw[fL,dR,fX];have h1:=ih fun x hx=>h x (cO _ hx);have h2:=Iu n (g.end_-1) g.l_.length n.Keep g.l_;have h3:=(h g cS).len;unfold zM at h1 ⊢;omega
 have hfl:=J _ Z;unfold G46 T46;simp only[Tr.den];refine(sJ h0 _).trans ?_;simp only[Q];simp (decide:=true) only[↓reduceIte];rw[aRK hn h hN ho (by omega)];simp only[aI];rw[kZ _ G (by omega)];have e:cons ((gsE n (evs n.Size n.Size (l.getD 0 default))).flatMap (zM n))=cons (mN n (rK n) (cK (aY (bO n 0 (l.getD 0 default)))) (l.getD 0 default)):=
  (iX G.n).ext (iX hd.n) ((jJ _).trans (jZ.trans (fun p=>by rw[aYL hn hD hN ho (by omega)]) (jJ _).symm))
 rw[e]; rfl
theorem bFM(M:0<l.length)(hn:Rk n)(h:Nf fs n (l.getD 0 default))(hs:TS (l.getD 0 default))(hl:(l.getD 0 default).length<=200):
  G46 fs n l=some (cons (rP fs n (cK (aY (bO n 0 (l.getD 0 default)))) (l.getD 0 default))):=by
 have G:=hn.op;have hp:=aUH fs n (l.getD 0 default);have J:=Ia (fs:=fs) hn (cK (aY (bO n 0 (l.getD 0 default)))) (l.getD 0 default);have D:okD ((gsE n (ev0 (l.getD 0 default))).flatMap (mtG fs n)):=⟨fun x hx=>J.r x (hp.mem_iff.1 hx),fun x hx=>J.n x (hp.mem_iff.1 hx)⟩;have h1:=Au (fs:=fs) (n:=n) h.nn hl (cK (aY (bO n 0 (l.getD 0 default))));have h2:=ksl n hl;unfold G46 T46;simp only[Tr.den];refine(sJ M _).trans ?_;simp only[G];simp (decide:=true) only[↓reduceIte];rw[aPV hn h hs (by omega)];simp only[aI];rw[kZ _ D (by rw[hp.length_eq]; omega),Ba hp D.n]; rfl
theorem bEZ(J:0<l.length)(D:n.Op=3)(G:okD (l.getD 0 default++kD l))(hl:(l.getD 0 default).length<=200)(M:(kD l).length<=200):
  G46 fs n l=some (cons (l.getD 0 default++kD l)):=by
 unfold G46 T46;simp only[Tr.den];refine(sJ J _).trans ?_;simp only[D];simp (decide:=true) only[↓reduceIte];rw[aA (by grind),aA (by grind)];simp only[aI,kK];rw[kZ _ G (by grind)]; rfl
theorem bFL(Z:0<l.length)(D:n.Op=6)(M:sU n)(Q:okB n)(hA:okJ n 0 (l.getD 0 default))(G:okJ n 1 (kD l))(J:okD (mA n (l.getD 0 default) (kD l)))(hl:(mA n (l.getD 0 default) (kD l)).length<=1000000):
  G46 fs n l=some (cons (mA n (l.getD 0 default) (kD l))):=by
 have e:(l.getD 0 default).flatMap (rL n (kD l))=mA n (l.getD 0 default) (kD l):=by unfold mA;refine iH fun a _=>?_;rw[aQF]; unfold sP; rw[aA D]
 unfold G46 T46;simp only[Tr.den];refine(sJ Z _).trans ?_;simp only[D];simp (decide:=true) only[↓reduceIte];rw[aQH n _ _ M Q hA G,e];simp only[aI];rw[kZ _ J (by omega)]; rfl
theorem bEG(Z:0<l.length)(D:n.Op=7)(M:sU n)(Q:1<=n.Keep/\n.Keep<=10000)(hA:okJ n 0 (l.getD 0 default))(G:okJ n 1 (kD l))(J:okD (mA n (l.getD 0 default) (kD l)))(hl:(mA n (l.getD 0 default) (kD l)).length<=1000000):
  G46 fs n l=some (cons (mA n (l.getD 0 default) (kD l))):=by
 have e:((l.getD 0 default).flatMap fun a=>gY n (ofK n 1 (kd n 0 a) (kD l)) a)=mA n (l.getD 0 default) (kD l):=by unfold mA;refine iH fun a _=>?_;unfold sP; rw[aF]
 unfold G46 T46;simp only[Tr.den];refine(sJ Z _).trans ?_;simp only[D];simp (decide:=true) only[↓reduceIte];rw[aSG n _ _ M Q hA G,e];simp only[aI];rw[kZ _ J (by omega)]; rfl
theorem bFC(J:0<l.length)(h1:n.Op=1)(hl:okL 104 dK fs)(hf:G82 fs=some true)(he:okL 56 dE n.Exprs)(hx:n.Exprs.length=1/\nJ fs ta [] (n.Exprs.getD 0 default)=some (2,true))(D:ta.length<=12)(hA:l.getD 0 default=A)(h:NIn ta A):
  G46 fs n l=some (cons (A.filter fun d=>rR fs n (pl d))):=by
 have Q:=h.len;have ho:okD (A.filter fun d=>rR fs n (pl d)):=(h.okD D).sub fun x hx=>(iQ.1 hx).1;have M:=lM (fun d=>rR fs n (pl d)) A;unfold G46 T46;simp only[Tr.den];refine(sJ J _).trans ?_;simp only[h1,hA];simp (decide:=true) only[↓reduceIte];have h2:=aP (bd:=fun s=>(Nb fs n A s).den) (fun k=>((A.take k).filter fun d=>rR fs n (pl d),(k:Int))) A.length (r:=.inl (A.filter fun d=>rR fs n (pl d))) (fun k hk=>?_) ?_
 ·rw[show (([]:List aB),(0:Int))=(fun k:Nat=>((A.take k).filter fun d=>rR fs n (pl d),(k:Int))) 0 from rfl,h2];simp only[aI,sel];rw[kZ _ ho (by omega)]; rfl
 ·have hm:=aM hk;have hv:=evE hl hf h (okEs.get he (show 0<n.Exprs.length by omega)) hx.2 hm;have hg:=Pd hl hf (okEs.get he (show 0<n.Exprs.length by omega)) hx.2 (A.getD k default).Time (h.row _ hm).1 (h.sm hm) (h.row _ hm).2;have G:=lM (fun d=>rR fs n (pl d)) (A.take k);rw[dU]at G;unfold Nb;simp only[Tr.den,aL];rw[aA bL,aA,aA,aA,show (0:Int).toNat=0 from rfl,hg];simp only[aI];rw[aJ hk,oU,aK];have hc:rR fs n (pl (A.getD k default))=((evV fs (n.Exprs.getD 0 default) (A.getD k default)).N==1):=by obtain⟨t1,t2,t3,Z,_⟩:=hv.2.1;show (((evV fs (n.Exprs.getD 0 default) (A.getD k default)).Kind==(2:Int))&&(((evV fs (n.Exprs.getD 0 default) (A.getD k default)).N==(1:Int))&&(((evV fs (n.Exprs.getD 0 default) (A.getD k default)).S.toList==(⟨#[]⟩:ByteArray).toList)&&true)))=_;simp_all
  grind
 ·unfold Nb;simp only[Tr.den];rw[aF bQ,cF]
theorem bEI(M:0<l.length)(h2:n.Op=2)(hl:okL 104 dK fs)(hf:G82 fs=some true)(he:okL 56 dE n.Exprs)(hx:(1<=n.Exprs.length/\n.Exprs.length<=12)/\∀ i,i<n.Exprs.length->∃ t,nJ fs ta [] (n.Exprs.getD i default)=some (t,true))(hA:l.getD 0 default=A)(h:NIn ta A):
  G46 fs n l=some (cons (A.map (rQ fs n))):=by
 have Q:=h.len;have ho:okD (A.map (rQ fs n)):=⟨fun x D=>by
  obtain⟨d,G,rfl⟩:=cU.1 D;unfold okR rQ Qw;grind,fun x D=>by
  obtain⟨d,G,rfl⟩:=cU.1 D;exact h.can.n64 d G⟩
 unfold G46 T46;simp only[Tr.den];refine(sJ M _).trans ?_;simp only[h2,hA];simp (decide:=true) only[↓reduceIte];have h3:=aP (bd:=fun s=>(Py fs n A s).den) (fun k=>((A.take k).map (rQ fs n),(k:Int))) A.length (r:=.inl (A.map (rQ fs n))) (fun k hk=>?_) ?_
 ·rw[show (([]:List aB),(0:Int))=(fun k:Nat=>((A.take k).map (rQ fs n),(k:Int))) 0 from rfl,h3];simp only[aI,sel];rw[kZ _ ho (by grind)]; rfl
 ·have hm:=aM hk;unfold Py;simp only[Tr.den,aL];rw[aA bL];have h4:=aP (bd:=fun s=>(Oh fs n A (k:Int) s).den) (fun i=>((A.take k).map (rQ fs n),(n.Exprs.take i).map (fun e=>evV fs e (A.getD k default)),(i:Int))) n.Exprs.length (r:=.inl ((A.take k).map (rQ fs n),Qw fs n (pl (A.getD k default)))) (fun i hi=>?_) ?_
  ·rw[show ((A.take k).map (rQ fs n),([]:List aE),(0:Int))=(fun i:Nat=>((A.take k).map (rQ fs n),(n.Exprs.take i).map (fun e=>evV fs e (A.getD k default)),(i:Int))) 0 from rfl,h4];simp only[aI,sel];rw[aA,aA,aA (by grind),aK,aJ hk,eI];rfl
  ·obtain⟨t,J⟩:=hx.2 i hi;have hg:=Pd hl hf (okEs.get he hi) J (A.getD k default).Time (h.row _ hm).1 (h.sm hm) (h.row _ hm).2;unfold Oh;simp only[Tr.den,aL];rw[aA bL,aA,aA,aA,hg];simp only[aI];rw[aA (by grind),aK,aJ hi,eI];rfl
  ·unfold Oh;simp only[Tr.den];rw[aF bQ,cF];rfl
 ·unfold Py;simp only[Tr.den];rw[aF bQ,cF]
theorem aRU(D:fV fs n ta tb)(hk:n.Key.length<=20)(h1:1<=n.Op)(hl:okL 104 dK fs)(hn:iO n)(hA:NIn ta A)(hB:NIn tb B)(l:List (List aB))(hc:nIn n=1/\l=[A]\/nIn n=2/\l=[A,B]):
  G46 fs n l=some (cons (Mn fs n A B)):=by
 have M:=D.la;have hlb:=D.lb;have hal:=hA.len;have hbl:=hB.len;have hop:=D.b.op;have hE:=hn.2.2.2.2.1;have two:n.Op=3\/n.Op=6\/n.Op=7->l=[A,B]:=fun h=>hc.elim (fun h'=>by unfold nIn at h'; grind) fun h'=>h'.2;have Z:0<l.length:=by rcases hc with⟨_,e⟩ | ⟨_,e⟩ <;> rw[e] <;> simp
 have J:l.getD 0 default=A:=by rcases hc with⟨_,e⟩ | ⟨_,e⟩ <;> rw[e] <;> rfl
 have eB:n.Op=3\/n.Op=6\/n.Op=7->kD l=B:=fun h=>by rw[two h]; rfl
 have G:=aBL D hk h1 hl hn hA hB;unfold Mn at G ⊢;by_cases o1:n.Op=1
 ·rw[aA o1]; exact bFC Z o1 hl D.fr hE (D.f o1) M.2 J hA
 ·rw[aF o1]at G ⊢;by_cases o2:n.Op=2
  ·rw[aA o2]; exact bEI Z o2 hl D.fr hE (D.m o2) J hA
  ·rw[aF o2]at G ⊢;by_cases o3:n.Op=3
   ·rw[aA o3]at G ⊢;have:=bEZ (fs:=fs) Z o3 (by simp_all) (by simp_all) (by simp_all)
    rwa [J,eB (.inl o3)]at this
   ·rw[aF o3]at G ⊢;by_cases o4:n.Op=4
    ·rw[aA o4];have:=bER (fs:=fs) Z o4 (D.wn o4 hk) (by rw[J]; exact hA.okI M.2 (D.w o4).1) (by rw[J]; exact D.ag o4 hA) (by simp_all)
     rwa [J]at this
    ·rw[aF o4]at G ⊢;by_cases Q:n.Op=5
     ·rw[aA Q]at G ⊢;have hN:∀ d,d∈A->0<=d.N/\d.N<=1000:=fun d hd=>by have:=hA.n d hd; omega
      have hkp:=(D.tp Q hk).keep;have hz:=(D.tp Q hk).size;have hrow:∀ (f:Nat) (tm left:Int) (r:List aB),r.length=f->(∀ d,d∈r->d∈A)->0<=left/\left<=100->∀ x,x∈yN n tm f left r->okR x/\oW x.N:=by
       intro f
       induction f with
       | zero=>intro tm left r _ _ _ x hx; cases hx
       | succ f ih=>
        intro tm left r hf hr hlf x hx;rw[yN]at hx;by_cases hq:left>0/\r≠[]
        ·rw[aA hq]at hx;have hb:=Gd (n:=n) hq.2;have hm:=hr _ (aM hb);have hmN:=hN _ hm;rcases bE.1 hx with rfl | hx
         ·have hw:=(hA.row _ hm).1;refine⟨by unfold okR; grind,?_⟩;unfold oW; simp only;split <;> omega
         ·exact ih tm _ _ (by grind) (fun d hd=>hr d ((Gq _ _).subset hd)) (by split <;> omega) x hx
        simp_all
      have hgk:=sF (n:=n) (len:=n.Size) (step:=n.Size) hz (by omega) hA.t hk;have:=bFS (fs:=fs) Z Q (D.tp Q hk) (by rw[J]; exact hA.okI M.2 (D.t Q).1) (by simp_all) (by rw[J]; exact hA.can.lt) (by rw[J]; exact D.ts Q hA) (by simp_all) (by simp_all) (by rw[J];intro x hx;obtain⟨g,hg,hx⟩:=jR.1 hx;exact hrow _ _ _ _ rfl (hgk g hg).sub (by omega) x hx)
      rwa [J]at this
     ·rw[aF Q]at G ⊢;by_cases o8:n.Op=8
      ·rw[aA o8];have:=bFM (fs:=fs) Z (D.pn o8) (by rw[J]; exact bEE D o8 hl hn hA) (by rw[J]; exact hA.can.ts) (by simp_all)
       rwa [J]at this
      ·rw[aF o8]at G ⊢;obtain⟨j1,j2,j3,_⟩:=D.j (by omega);have iA:=(hA.okI M.2 (n:=n) (i:=0) j1).okJ (by omega);have iB:=(hB.okI hlb.2 (n:=n) (i:=1) j2).okJ (by omega);have hlen:(mA n A B).length<=1000000:=fW (fW (yB (c:=200) hbl) (qW hal (cM _))) (by omega);by_cases o6:n.Op=6
       ·have e:=eB (.inr (.inl o6));have:=bFL (fs:=fs) Z o6 ⟨.inl ⟨o6,D.b.j o6⟩,by omega,by omega⟩ (D.b.j o6) (by simp_all) (by simp_all) (by simp_all) (by simp_all)
        rwa [J,e]at this
       ·have e:=eB (.inr (.inr (by omega)));have hK:=D.b.a (by omega);have:=bEG (fs:=fs) Z (by omega) ⟨.inr ⟨by omega,hK⟩,by omega,by omega⟩ hK (by simp_all) (by simp_all) (by simp_all) (by simp_all)
        rwa [J,e]at this
theorem aEO(fs:List aS)(n:aG)(a b:List aB)(ts:List (List Int))(hl:okL 104 dK fs)(hn:iO n)(ha:okL 40 dX a)(hb:okL 40 dX b)(ht:okL 24 (okL 8 eZ) ts):aCP fs n a b ts=some true:=by
 unfold aCP bDF;simp only[Tr.den];rw[aPU];simp only[aI];refine Sp.eq ?_;refine Sq.bind _ (aVD fs n a b ts 40 (by omega) hl hn ha hb ht.1 fun t h=>(ht.2 t h).1) fun r2 hr=>?_;refine bK (fun _=>aC.2 rfl) fun q=>?_;obtain⟨ta,tb,J,D,hF,_,G⟩:=hr (by simpa using q);have Q:=hF.nin (by omega) ha;have hop:=J.b.op;have h1:1<=n.Op:=by
  by_cases h0:n.Op=0
  ·have:nIn n=0:=by unfold nIn; rw[aA h0]
   rcases G with⟨_,_,h2,_⟩ | ⟨_,h2,_⟩ <;> omega
  ·omega
 obtain⟨B,l,M,e,hc⟩:∃ B l,NIn tb B/\r2.1=l/\(nIn n=1/\l=[cons a]\/nIn n=2/\l=[cons a,B]):=by
  rcases G with⟨e,hab,hin,hr1⟩ | ⟨e,hin,hFb,hr1⟩
  ·grind
  ·exact⟨cons b,_,hFb.nin (by omega) hb,hr1,.inr ⟨hin,rfl⟩⟩
 have o1:=aBL J D h1 hl hn Q M;have hcl:=xG (Mn fs n (cons a) B);have Z:jQ (cons (Mn fs n (cons a) B)):=fun x hx=>by obtain⟨z,hz,e⟩:=Gl hx;have:=o1.1.r z hz;unfold okR at this ⊢;rw[show x.Row=z.Row from congrArg (·.2) e]; omega
 rw[e,aIC J D h1 hl hn Q M l hc,aRU J D h1 hl hn Q M l hc];simp only[aI,gT];rw[aEN _ Z (by omega)];exact aC.2 rfl
end Go.PL
