/-
  Parts: Plain law of the meanings: what the meaning is at a time comes from the rows near it. Own work. Plain law of the meanings: MeaningBack. Own work. Plain law of the meanings: the types of what a node yields. Own work. Plain law of the meanings: how many rows a node yields. Own work. Plain law of the meanings: MeaningRows. Own work.
-/
import Derived.Test.YtjefblkdnolgaaaGreatDoorMi
set_option maxHeartbeats 4000000
namespace Go.PL
open Go
set_option linter.unusedVariables false
set_option maxRecDepth 20000
variable {A B l r:List aC} {e step t:Int} {fs:List aU} {n:aG} {ta tb:List Int}
theorem Ei{a b:Int}{d:aC}:d∈fB l a b↔d∈l/\a<=d.Time/\d.Time<=b:=by unfold fB;rw[iD,cO,gY,gY]
theorem Ay(step e:Int)(l:List aC)(x:aC):eV step e (l++[x])=(wH step e (eV step e l).1 (eV step e l).2 x,x.Time):=by unfold eV; rw[zH]; rfl
theorem Gy{s:List aN}{last:Int}{x:aC}(h:s=[]\/x.Time-last>=step):wH step e s last x=s++[⟨x.Time,jX (x.Time+step) e,[x]⟩]:=by unfold wH; rw[aA h]
theorem Ge{s:List aN}{w:aN}{last:Int}{x:aC}(h:¬ x.Time-last>=step):wH step e (s++[w]) last x=s++[⟨w.begin_,jX (x.Time+step) e,w.rows_++[x]⟩]:=by unfold wH;rw[aE (fun h'=>h'.elim (by simp) h),nC _ _ (by simp),Gf _ _ _ (by simp)];rfl
theorem Hb{α:Type}{P:List α->Prop}(h0:P [])(h1:∀ l x,P l->P (l++[x]))(l:List α):P l:=by
 have:∀ r:List α,P r.reverse:=by
  intro r
  induction r with
  | nil=>exact h0
  | cons x r ih=>rw[List.reverse_cons]; exact h1 _ _ ih
 have h:=this l.reverse
 rwa [List.reverse_reverse]at h
theorem Jl(step e:Int)(l:List aC):(eV step e l).1=[]/\l=[]\/∃ s w,(eV step e l).1=s++[w]/\w.end_=jX ((eV step e l).2+step) e:=by
 refine Hb (P:=fun l=>(eV step e l).1=[]/\l=[]\/∃ s w,(eV step e l).1=s++[w]/\w.end_=jX ((eV step e l).2+step) e) (.inl ⟨rfl,rfl⟩) (fun l x ih=>.inr ?_) l;rw[Ay];simp only;by_cases hx:(eV step e l).1=[]\/x.Time-(eV step e l).2>=step
 ·rw[Gy hx]; exact⟨_,_,rfl,rfl⟩
 ·obtain⟨s,w,h1,h2⟩:=ih.resolve_left fun h=>hx (.inl h.1);rw[h1,Ge fun h=>hx (.inr h)];exact⟨_,_,rfl,rfl⟩
theorem TS.sublist(h:TS l)(hs:r.Sublist l):TS r:=At hs h
theorem Jt{b s:Int}(hs:0<s)(h:s∣b)(h1:b<=t)(h2:t<b+s):b=t / s*s:=by
 obtain⟨k,rfl⟩:=h;have h3:k<=t / s:=(Int.le_ediv_iff_mul_le hs).2 (by rw[qR]; exact h1);have h4:t / s<k+1:=(Int.ediv_lt_iff_lt_mul hs).2 (by rw[sJ,qR k]; omega);have:t / s=k:=by omega
 rw[this,qR]
theorem fF.wn(h:fF fs n ta tb)(h4:n.Op=4)(hk:n.Key.length<=20):Bc n:=by
 obtain⟨hz,hkd⟩:=h.b.w h4;obtain⟨_,_,h12⟩:=h.w h4;refine⟨hz,?_,hk,by omega⟩;rcases hkd with h | ⟨h,hs,_⟩ | ⟨h,hs⟩
 ·exact .inl h
 ·exact .inr (.inl ⟨h,hs⟩)
 ·exact .inr (.inr ⟨h,by omega,by omega⟩)
theorem fF.ag(h:fF fs n ta tb)(h4:n.Op=4)(hA:NIn ta A):Me n A:=fun g hg=>by
 by_cases h0:g.Kind=0
 ·exact .inl h0
 ·refine .inr fun d hd=>?_;have:=((h.w h4).2.1 g hg).2.1 h0;rw[(hA.row d hd).1]; exact this
theorem fF.tp(h:fF fs n ta tb)(h5:n.Op=5)(hk:n.Key.length<=20):aIS n:=⟨(h.b.t h5).1,(h.b.t h5).2,hk⟩
theorem fF.ts(h:fF fs n ta tb)(h5:n.Op=5)(hA:NIn ta A):St.okTs n A:=fun d hd=>by have:=(h.t h5).2;exact⟨this.1,by rw[(hA.row d hd).1]; exact this.2⟩
theorem fF.pn(h:fF fs n ta tb)(h8:n.Op=8):aEZ n:=⟨h8,(h.b.p h8).2,(h.b.p h8).1,(h.p h8).2.2⟩
theorem fF.gt(h:fF fs n ta tb)(h8:n.Op=8)(hl:okL 104 eC fs)(hn:jI n)(hA:NIn ta A):Zp fs n A:=by obtain⟨_,_,_,_,_,_,_,_,_,_,_,_,_,_,hS,_⟩:=hn;have hp:=h.p h8;have ev:=fun {d:aC} (hd:d∈A) {i:Nat} (hi:i<n.Seq.length)=>evE hl h.fr hA (hS.2 _ (aR hi)).1 (hp.1 i hi).1 hd;have hla:=h.la;exact⟨hA.okI (by omega) hp.2.1,fun d hd i hi=>by rw[(ev hd hi).1]; rfl,fun d hd i hi=>(ev hd hi).2.1,fun d hd=>(hA.n d hd).2,by have:=hA.len; omega⟩
theorem ksl(n:aG)(h:A.length<=200):(cM (aT (bP n 0 A))).length<=200:=by have:=jM n 0 A;rw[iX]; unfold aT; rw[bI]; omega
noncomputable def qJ (fs:List aU)(n:aG)(A B:List aC):List aC:=
 if n.Op=1 then A.filter fun d=>Ft fs n (pl d) else if n.Op=2 then A.map (Mj fs n) else if n.Op=3 then A++B
 else if n.Op=4 then iH n (cM (aT (bP n 0 A))) A else if n.Op=5 then qS n (vM n) (cM (aT (bP n 0 A))) A
 else if n.Op=8 then vG fs n (cM (aT (bP n 0 A))) A else sI n A B
theorem Kv{fs:List aU}{n:aG}{A:List aC}(hA:∀ d,d∈A->d.N<=1000)(hl:A.length<=200):∀ ks:List ByteArray,(vG fs n ks A).length<=ks.length*200000
 | []=>by simp[vG]
 | k::ks=>by have h1:=Px (fs:=fs) (n:=n) (l:=ofK n 0 k A) fun d hd=>hA d (eH.1 hd).1;have h2:=iW n 0 k A;have h3:=Kv (fs:=fs) (n:=n) hA hl ks;unfold vG at h3 ⊢;rw[fT,bQ,dA]; omega
theorem aPT(hR:fF fs n ta tb)(hk:n.Key.length<=20)(h1:1<=n.Op)(hl:okL 104 eC fs)(hn:jI n)(hA:NIn ta A)(hB:NIn tb B):okD (qJ fs n A B)/\(qJ fs n A B).length<=10000000000000 / 100:=by
 have hla:=hR.la;have hlb:=hR.lb;have hal:=hA.len;have hbl:=hB.len;have hks:=ksl n hal;have hop:=hR.b.op;unfold qJ;by_cases o1:n.Op=1
 ·rw[aA o1];have:=rS (fun d=>Ft fs n (pl d)) A;exact⟨(hA.okD hla.2).sub fun x hx=>(iD.1 hx).1,by omega⟩
 ·rw[aE o1];by_cases o2:n.Op=2
  ·rw[aA o2];have he:=(hR.m o2).1;refine⟨⟨fun x hx'=>?_,fun x hx'=>?_⟩,by rw[bI]; omega⟩
   ·obtain⟨d,hd,rfl⟩:=cQ.1 hx';unfold okR Mj Ul;simp only[bI]; omega
   ·obtain⟨d,hd,rfl⟩:=cQ.1 hx';exact hA.can.n64 d hd
  ·rw[aE o2];by_cases o3:n.Op=3
   ·rw[aA o3];exact⟨(hA.okD hla.2).app (hB.okD hlb.2),by rw[bQ]; omega⟩
   ·rw[aE o3];by_cases o4:n.Op=4
    ·rw[aA o4];have hw:=hR.wn o4 hk;have:=Gs hw hA.t (by omega) (cM (aT (bP n 0 A)));exact⟨zA hw _ _,by omega⟩
    ·rw[aE o4];by_cases o5:n.Op=5
     ·rw[aA o5];have hS:=uV (n:=n) hA.can.lt (hR.ts o5 hA) (by omega);have hm:=rY (n:=n) (S:=vM n) (ks:=cM (aT (bP n 0 A))) (fun d hd=>by have:=hA.n d hd; omega) (by have:=(hR.b.t o5).2; omega) fun r hr=>(hS r hr).2;have:=Gt (hR.tp o5 hk) hA.t (by omega) (fun r hr=>(hS r hr).2) (cM (aT (bP n 0 A)));have hkp:=(hR.b.t o5).2;refine⟨⟨fun x hx=>?_,fun x hx=>?_⟩,by omega⟩
      ·obtain⟨⟨d,hd,e⟩,_⟩:=hm x hx;have:=(hA.row d hd).1;unfold okR; rw[e]; omega
      ·have:=(hm x hx).2;exact⟨by omega,by omega⟩
     ·rw[aE o5];by_cases o8:n.Op=8
      ·rw[aA o8];have:=Kv (fs:=fs) (n:=n) (fun d hd=>(hA.n d hd).2) hal (cM (aT (bP n 0 A)));exact⟨Ph (hR.pn o8) _ _,by omega⟩
      ·rw[aE o8];obtain⟨j1,j2,_⟩:=hR.j (by omega);have ho:=Nf (hA.okI hla.2 (n:=n) (i:=0) j1) (hB.okI hlb.2 (n:=n) (i:=1) j2);exact⟨ho,gZ (gZ (Fi (c:=200) hbl) (tK hal (cS _))) (by omega)⟩
theorem aHD(hR:fF fs n ta tb)(hk:n.Key.length<=20)(h1:1<=n.Op)(hl:okL 104 eC fs)(hn:jI n)(hA:NIn ta A)(hB:NIn tb B)(l:List (List aC))(hc:nIn n=1/\l=[A]\/nIn n=2/\l=[A,B]):
  oT fs n l=some (cons (qJ fs n A B)):=by
 have hla:=hR.la;have hlb:=hR.lb;have hal:=hA.len;have hop:=hR.b.op;have hE:=hn.2.2.2.2.1;have two:n.Op=3\/n.Op=6\/n.Op=7->l=[A,B]:=fun h=>hc.elim (fun h'=>by unfold nIn at h'; rw[aE (by omega),aA h]at h'; omega) fun h'=>h'.2;obtain⟨r,hr⟩:∃ r,l=A::r:=hc.elim (fun h=>⟨[],h.2⟩) fun h=>⟨[B],h.2⟩;unfold qJ;by_cases o1:n.Op=1
 ·rw[aA o1,hr]; exact aYA o1 hl hR.fr hE (hR.f o1) hla.2 hA r
 ·rw[aE o1];by_cases o2:n.Op=2
  ·rw[aA o2,hr]; exact aTK o2 hl hR.fr hE (hR.m o2) hA r
  ·rw[aE o2];by_cases o3:n.Op=3
   ·rw[aA o3,two (.inl o3)];have:=hR.u o3;subst this;exact aXX o3 hla.2 hA hB
   ·rw[aE o3];by_cases o4:n.Op=4
    ·rw[aA o4,hr]; exact Vc o4 (hR.wn o4 hk) (hA.okI hla.2 (hR.w o4).1) (hR.ag o4 hA) (by omega) r
    ·rw[aE o4];by_cases o5:n.Op=5
     ·rw[aA o5,hr]; exact aDM o5 (hR.tp o5 hk) (hA.okI hla.2 (hR.t o5).1) (fun d hd=>by have:=hA.n d hd; omega) hA.can.lt (hR.ts o5 hA) (by omega) r
     ·rw[aE o5];by_cases o8:n.Op=8
      ·rw[aA o8,hr]; exact aUF (hR.pn o8) (hR.gt o8 hl hn hA) hA.can (by omega) r
      ·rw[aE o8];obtain⟨j1,j2,j3,_⟩:=hR.j (by omega);by_cases o6:n.Op=6
       ·rw[two (.inr (.inl o6))]; exact aXO o6 (hR.b.j o6) ⟨hk,by omega⟩ hla.2 hlb.2 j1 j2 hA hB
       ·rw[two (.inr (.inr (by omega)))]; exact aUX (by omega) (hR.b.a (by omega)) ⟨hk,by omega⟩ hla.2 hlb.2 j1 j2 hA hB
theorem aVU{cs ps:List Int}{e:bS}(hf:G82 fs=some true)(h:oP fs cs ps e=some (t,true)):G86 fs cs ps e=some (t,true):=by unfold G86 T86;simp only[Tr.den,hf,aI,yJ,dC,cT,h]
noncomputable def exT (fs:List aU)(ta:List Int)(e:bS):Int:=((oP fs ta [] e).getD (0,false)).1
def agT(ta:List Int)(g:jD):Int:=if g.Kind=2\/g.Kind=3 then ta.getD g.Col.toNat default else 0
def aAN(n:aG)(ta:List Int):List Int:=n.Key.map fun c=>ta.getD c.toNat default
noncomputable def Sv (fs:List aU)(n:aG)(ta tb:List Int):List Int:=
 if n.Op=2 then n.Exprs.map (exT fs ta) else if n.Op=6\/n.Op=7 then ta++tb else if n.Op=4 then (aAN n ta++[0])++n.Aggs.map (agT ta)
 else if n.Op=8 then (aAN n ta++[0])++[0] else ta
theorem Jx{ts:List (List Int)}(h0:ts.getD 0 default=ta)(hk:okC n.Key ta.length)(hl:n.Key.length<=1000):cD (fun s=>(yA n ts s).den) ([],0)=some (.inl (aAN n ta)):=by
 have h1:=aW (bd:=fun s=>(yA n ts s).den) (fun k=>((n.Key.take k).map fun c=>ta.getD c.toNat default,(k:Int))) n.Key.length (r:=.inl (aAN n ta)) (fun k hk'=>?_) ?_
 ·exact h1
 ·have hc:=hk _ (aR hk');unfold yA;simp only[Tr.den,aQ,show (0:Int).toNat=0 from rfl,h0];rw[aA (bO (by omega)),aA (by omega),aA hc,aA (by simp only[bI,cE,dN]; omega),aK (by omega),aL hk',kJ];rfl
 ·unfold yA;simp only[Tr.den];rw[aE (cB (by omega)),cV]; rfl
theorem aCP{ts:List (List Int)}{p:List Int}(h0:ts.getD 0 default=ta)(hg:∀ g,g∈n.Aggs->g.Kind≠0->0<=g.Col/\g.Col<ta.length)(hl:n.Aggs.length<=1000)(hp:p.length<=1000):cD (fun s=>(yQ n ts s).den) (p,0)=some (.inl (p++n.Aggs.map (agT ta))):=by
 have h1:=aW (bd:=fun s=>(yQ n ts s).den) (fun k=>(p++(n.Aggs.take k).map (agT ta),(k:Int))) n.Aggs.length (r:=.inl (p++n.Aggs.map (agT ta))) (fun k hk'=>?_) ?_
 ·rw[<-h1]; simp
 ·have hc:=hg _ (aR hk');unfold yQ;simp only[Tr.den,aQ,show (0:Int).toNat=0 from rfl,h0];rw[aA (bO (by omega)),aA (by omega)];have e:∀ c,agT ta (n.Aggs.getD k default)=c->p++(n.Aggs.take (k+1)).map (agT ta)=(p++(n.Aggs.take k).map (agT ta))++[c]:=fun c hc=>by rw[aL hk',kJ,<-hc,<-cJ]; rfl
  by_cases h2:(n.Aggs.getD k default).Kind=2
  ·rw[aA (dI h2)];simp only[aI,eJ];have hcc:=hc (by omega);rw[aA (by omega),aA hcc];simp only[aI];rw[aA (by simp only[bQ,bI,cE,dN]; omega),aK (by omega),e _ (show _=_ by unfold agT; rw[aA (.inl h2)])]
  ·rw[aE (cZ h2),aA (by omega)];simp only[aI];by_cases h3:(n.Aggs.getD k default).Kind=3
   ·have hcc:=hc (by omega);rw[aA (dI h3),aA (by omega),aA hcc];simp only[aI];rw[aA (by simp only[bQ,bI,cE,dN]; omega),aK (by omega),e _ (show _=_ by unfold agT; rw[aA (.inr h3)])]
   ·rw[aE (cZ h3)];simp only[aI];rw[aA (by simp only[bQ,bI,cE,dN]; omega),aK (by omega),e _ (show _=_ by unfold agT; rw[aE (fun h=>h.elim h2 h3)])]
 ·unfold yQ;simp only[Tr.den];rw[aE (cB (by omega)),cV]
theorem Ez(n:aG)(ta:List Int):(aAN n ta).length=n.Key.length:=bI _
theorem aNN(hR:fF fs n ta tb)(hl:n.Key.length<=20){ts:List (List Int)}(hc:nIn n=1/\ts=[ta]/\ta=tb\/nIn n=2/\ts=[ta,tb]):aTJ fs n ts=some (Sv fs n ta tb):=by
 have hla:=hR.la;have hlb:=hR.lb;have hop:=hR.b.op;have h0:ts.getD 0 default=ta:=by rcases hc with⟨_,e,_⟩ | ⟨_,e⟩ <;> subst e <;> rfl
 have h1:1<=ts.length/\ts.length<=2:=by rcases hc with⟨_,e,_⟩ | ⟨_,e⟩ <;> subst e <;> simp
 have hE:ts.getD (ts.length-1) default=tb:=by rcases hc with⟨_,e,e2⟩ | ⟨_,e⟩ <;> subst e <;> first | exact e2 | rfl
 have w:IntKind.i64.wrap ((ts.length:Int)-1)=((ts.length-1:Nat):Int):=by rw[bF] <;> omega
 unfold aTJ aWB Sv;simp only[Tr.den];rw[aA (by omega)];by_cases o2:n.Op=2
 ·rw[aA (dI o2),aA o2];obtain⟨he,ht⟩:=hR.m o2;have h2:=aW (bd:=fun s=>(Cw fs n ts s).den) (fun k=>((n.Exprs.take k).map (exT fs ta),(k:Int))) n.Exprs.length (r:=.inl (n.Exprs.map (exT fs ta))) (fun k hk'=>?_) ?_
  ·exact(congrArg (fun x=>Option.bind x _) h2).trans rfl
  ·obtain⟨t,ht⟩:=ht k hk';have e:exT fs ta (n.Exprs.getD k default)=t:=by unfold exT; rw[ht]; rfl
   unfold Cw;simp only[Tr.den,aQ,show (0:Int).toNat=0 from rfl,h0];rw[aA (bO (by omega)),aA (by omega),aVU hR.fr ht];simp only[aI];rw[aA (by simp only[bI,cE,dN]; omega),aK (by omega),aL hk',kJ];show _=some (Sum.inl (_++[exT fs ta (n.Exprs.getD k default)],_));rw[e]
  ·unfold Cw;simp only[Tr.den];rw[aE (cB (by omega)),cV]
 ·rw[aE (cZ o2),aE o2];by_cases o67:n.Op=6\/n.Op=7
  ·have hor:((if (n.Op==6)=true then some (n.Op==6) else some (n.Op==7)):Option Bool)=some true:=by
    rcases o67 with h | h
    ·rw[aA (dI h),h]; rfl
    ·rw[aE (cZ (by omega)),h]; rfl
   rw[hor];simp only[aI,eJ];rw[show (0:Int).toNat=0 from rfl,w,aQ,h0,hE,aA o67,aA (by omega),aA (by omega),aA (by omega)]
  ·have hor:((if (n.Op==6)=true then some (n.Op==6) else some (n.Op==7)):Option Bool)=some false:=by rw[aE (cZ (by omega)),show (n.Op==7)=false by simpa using fun h=>o67 (.inr h)]
   rw[hor];simp only[aI,dC,cT];rw[aE o67];by_cases o4:n.Op=4
   ·obtain⟨hk,hg,hkl⟩:=hR.w o4;rw[aA (dI o4),aA o4,dI o4];simp only[aI,eJ];rw[Jx h0 hk (by omega)];simp only[aI,sel];have hkt:=Ez n ta;rw[aA (by simp only[dN]; omega),aE (cZ (by omega)),aCP h0 (fun g hg'=>(hg g hg').2.1) (by omega) (by rw[bQ,dN]; omega)];rfl
   ·rw[aE (cZ o4),aE o4];by_cases o8:n.Op=8
    ·obtain⟨_,hk,hkl⟩:=hR.p o8;rw[aA o8,dI o8];simp only[aI,eJ];rw[Jx h0 hk (by omega)];simp only[aI,sel];have hkt:=Ez n ta;rw[aA (by simp only[dN]; omega),aA (by simp only[bQ,dN]; omega)]
    ·rw[aE o8,show (n.Op==8)=false by simpa using o8];simp only[aI,dC,cT];rw[show (0:Int).toNat=0 from rfl,h0,aA (by omega)]
def TyL(ts:List Int)(r:List aF):Prop:=r.length=ts.length/\TyR ts r
theorem TyL.app{ts ts':List Int}{r r':List aF}(h:TyL ts r)(h':TyL ts' r'):TyL (ts++ts') (r++r'):=by
 refine⟨by rw[bQ,bQ,h.1,h'.1],fun i hi=>?_⟩;rw[bQ]at hi;rw[bE,bE,h.1];by_cases hc:i<ts.length
 ·rw[aA hc,aA hc]; exact h.2 i hc
 ·rw[aE hc,aE hc]; exact h'.2 _ (by omega)
theorem TyL.one{v:aF}(h:TyV t v):TyL [t] [v]:=⟨rfl,fun i hi=>by
 have:i=0:=by simpa using hi
 subst this; exact h⟩
theorem TyL.map{α:Type}[Inhabited α]{l:List α}{f:α->Int}{g:α->aF}(h:∀ x,x∈l->TyV (f x) (g x)):TyL (l.map f) (l.map g):=by
 refine⟨by rw[bI,bI],fun i hi=>?_⟩;rw[bI]at hi;have e1:(l.map f).getD i default=f l[i]:=by rw[bK (by rw[bI]; exact hi),wQ]
 have e2:(l.map g).getD i default=g l[i]:=by rw[bK (by rw[bI]; exact hi),wQ]
 rw[e1,e2];exact h _ (xM hi)
theorem Vs{row:List aF}(hk:okC n.Key ta.length)(h:TyR ta row):TyL (aAN n ta) (mI n row):=TyL.map fun c hc=>h _ (by have:=hk c hc; omega)
theorem aDF{g:jD}(h:g.Kind≠0):∀ k,1<=k->k<=l.length->∃ d,d∈l/\(lW g l k).1=d.Row.getD g.Col.toNat default:=by
 intro k
 induction k with
 | zero=>intro h1; omega
 | succ k ih=>
  intro _ hk;have hm:=aR (show k<l.length by omega);rw[lW,aE h];simp only;split
  ·exact⟨_,hm,rfl⟩
  ·rename_i hc;exact ih (by have:k≠0:=fun h=>hc (.inl h); omega) (by omega)
theorem aNU{g:jD}(hg:(0<=g.Kind/\g.Kind<4)/\(g.Kind≠0->0<=g.Col/\g.Col<ta.length))(hl:l≠[])(h:∀ d,d∈l->TyR ta d.Row):TyV (agT ta g) (Qx g l):=by
 unfold agT Qx;by_cases h01:g.Kind=0\/g.Kind=1
 ·rw[aA h01,aE (by omega)]; exact pY _
 ·rw[aE h01,aA (by omega)];obtain⟨d,hd,e⟩:=aDF (g:=g) (l:=l) (by omega) l.length (fL.2 hl) (cS _);rw[e];exact h d hd _ (by have:=hg.2 (by omega); omega)
theorem aYF:∀ l:List aC,∀ w,w∈ses step e l->w.rows_≠[]:=by
 refine Hb (P:=fun l=>∀ w,w∈ses step e l->w.rows_≠[]) (fun w hw=>by simp[ses,eV]at hw) fun l x ih w hw=>?_;unfold ses at ih hw;rw[Ay]at hw;simp only at hw;by_cases hc:(eV step e l).1=[]\/x.Time-(eV step e l).2>=step
 ·rw[Gy hc]at hw;rcases dE.1 hw with hw | hw
  ·exact ih w hw
  ·rw[bZ.1 hw]; simp
 ·obtain⟨s,v,h1,h2⟩:=(Jl step e l).resolve_left fun h=>hc (.inl h.1);rw[h1]at hw ih;rw[Ge fun h=>hc (.inr h)]at hw;rcases dE.1 hw with hw | hw
  ·exact ih w (nE _ hw)
  ·rw[bZ.1 hw]; simp
theorem aBS(hn:Bc n):∀ w,w∈jP n l->w.rows_≠[]:=fun w hw=>by
 have hz:=hn.size;have fx:∀ step,0<step->w∈Ck n.Size step l->w.rows_≠[]:=fun step hs hw=>by obtain⟨b,hb,rfl⟩:=cQ.1 hw;exact(jF hs).1 hb
 unfold jP at hw;rcases hn.kind with h | ⟨h,hs⟩ | ⟨h,hs⟩
 ·rw[aA h]at hw; exact fx _ (by omega) hw
 ·rw[aE (by omega),aA h]at hw; exact fx _ (by omega) hw
 ·rw[aE (by omega),aE (by omega)]at hw;obtain⟨b,_,hw⟩:=gI.1 hw;exact aYF _ w hw
theorem aOB(hR:fF fs n ta tb)(hk:n.Key.length<=20)(h1:1<=n.Op)(hl:okL 104 eC fs)(hn:jI n)(hA:NIn ta A)(hB:NIn tb B):∀ x,x∈qJ fs n A B->TyL (Sv fs n ta tb) x.Row:=fun x hx=>by
 have hal:=hA.len;have hop:=hR.b.op;have hE:=hn.2.2.2.2.1;unfold qJ at hx;unfold Sv;by_cases o1:n.Op=1
 ·rw[aA o1]at hx;rw[aE (by omega),aE (by omega),aE (by omega),aE (by omega)];exact hA.row x (iD.1 hx).1
 ·rw[aE o1]at hx;by_cases o2:n.Op=2
  ·rw[aA o2]at hx;rw[aA o2];obtain⟨d,hd,rfl⟩:=cQ.1 hx;obtain⟨he,ht⟩:=hR.m o2;refine TyL.map fun e hem=>?_;obtain⟨i,hi,rfl⟩:=Ab.1 hem;obtain⟨t,ht⟩:=ht i hi;rw[bK hi]at ht;have h3:=(evE hl hR.fr hA (hE.2 _ hem) ht hd).2.1;have e:exT fs ta n.Exprs[i]=t:=by unfold exT; rw[ht]; rfl
   rw[e]; exact h3
  ·rw[aE o2]at hx;rw[aE o2];by_cases o3:n.Op=3
   ·rw[aA o3]at hx;have:=hR.u o3;subst this;rw[aE (by omega),aE (by omega),aE (by omega)];exact(dE.1 hx).elim (hA.row x) (hB.row x)
   ·rw[aE o3]at hx;by_cases o4:n.Op=4
    ·rw[aA o4]at hx;rw[aE (by omega),aA o4];obtain⟨k,hkm,hx⟩:=gI.1 hx;obtain⟨w,hw,rfl⟩:=cQ.1 hx;obtain⟨hkc,hg,_⟩:=hR.w o4;have hwn:=hR.wn o4 hk;have h0:ofK n 0 k A≠[]:=iR.1 ((gH _).mem_iff.1 hkm);have hm0:=(eH.1 (aR (fL.2 h0))).1;have hws:=Ja hwn (l:=ofK n 0 k A) (fun d hd=>hA.t d (eH.1 hd).1) w hw;exact((Vs hkc (hA.row _ hm0).2).app (.one (pY _))).app (TyL.map fun g hg'=>aNU ⟨(hg g hg').1,(hg g hg').2.1⟩ (aBS hwn w hw) fun d hd=>(hA.row d (eH.1 (hws.sub d hd)).1).2)
    ·rw[aE o4]at hx;by_cases o5:n.Op=5
     ·rw[aA o5]at hx;rw[aE (by omega),aE (by omega),aE (by omega)];have hS:=uV (n:=n) hA.can.lt (hR.ts o5 hA) (by omega);obtain⟨⟨d,hd,e⟩,_⟩:=rY (n:=n) (S:=vM n) (ks:=cM (aT (bP n 0 A))) (fun d hd=>by have:=hA.n d hd; omega) (by have:=(hR.b.t o5).2; omega) (fun r hr=>(hS r hr).2) x hx;rw[e]; exact hA.row d hd
     ·rw[aE o5]at hx;by_cases o8:n.Op=8
      ·rw[aA o8]at hx;rw[aE (by omega),aE (by omega),aA o8];obtain⟨k,hkm,hx⟩:=gI.1 hx;obtain⟨_,hkc,_⟩:=hR.p o8;have h0:ofK n 0 k A≠[]:=iR.1 ((gH _).mem_iff.1 hkm);have hm0:=(eH.1 (aR (fL.2 h0))).1;have hkey:=Vs hkc (hA.row _ hm0).2;have:∀ (qs u:List dW) (key:List aF),∀ y,y∈lF n key 0 u qs->∃ a b,y.Row=key++[vI a,vI b]:=by
        intro qs
        induction qs with
        | nil=>intro u key y hy; cases hy
        | cons q qs ih=>
         intro u key y hy;rw[lF]at hy;rcases dE.1 hy with hy | hy
         ·split at hy
          ·unfold Ie at hy;split at hy
           ·rw[bZ.1 hy]; exact⟨_,_,rfl⟩
           ·cases hy
          ·cases hy
         ·exact ih _ key y hy
       obtain⟨a,b,e⟩:=this _ _ _ x hx;rw[e,show mI n ((ofK n 0 k A).getD 0 default).Row++[vI a,vI b]=(mI n ((ofK n 0 k A).getD 0 default).Row++[vI a])++[vI b] by simp];exact(hkey.app (.one (pY _))).app (.one (pY _))
      ·rw[aE o8]at hx;rw[aA (by omega)];obtain⟨a,ha,hx⟩:=gI.1 hx;have hR2:∀ d,d∈ofK n 1 (kd n 0 a) B->d∈B:=fun d hd=>(eH.1 hd).1;unfold pI at hx;split at hx
       ·rename_i h6;unfold pQ at hx;obtain⟨b,hb,rfl⟩:=cQ.1 hx;rw[Ee];exact TyL.app (hA.row a ha) (hB.row b (hR2 b (Ei.1 hb).1))
       ·unfold kO at hx;split at hx
        ·cases hx
        ·rename_i hne;rw[bZ.1 hx];have hb:=aR (l:=fB (ofK n 1 (kd n 0 a) B) (a.Time-n.Keep+1) a.Time) (k:=(fB (ofK n 1 (kd n 0 a) B) (a.Time-n.Keep+1) a.Time).length-1) (by have:=fL.2 hne; omega);exact TyL.app (hA.row a ha) (hB.row _ (hR2 _ (Ei.1 hb).1))
theorem aLV{v:aF}(h:TyV t v):aIP v=some true:=by
 obtain⟨h1,h2,h3,h4,h5,h6⟩:=h;unfold aIP aQW;simp only[Tr.den];by_cases t0:v.Kind=0
 ·rw[aA (dI t0),h2 (by omega),beq_self_eq_true]
 ·rw[aE (cZ t0)];by_cases t1:v.Kind=1
  ·have:=h3 (by omega);rw[aA (dI t1),aA (dI this.1),bO (show (v.S.size:Int)<=200 by omega)]; rfl
  ·have t2:v.Kind=2:=by omega
   rw[aE (cZ t1),aA (dI t2),h2 (by omega)];rcases h4 (by omega) with h | h
   ·rw[aA (dI h),beq_self_eq_true]; rfl
   ·rw[aE (cZ (by omega)),aA (dI h),beq_self_eq_true]; rfl
theorem aKF{ts:List Int}{r:List aF}(h:TyL ts r)(hl:r.length<=1000):Zw r=some true:=by
 unfold Zw aNJ;simp only[Tr.den];have h2:=aW (bd:=fun s=>(yM r s).den) (fun k=>(k:Int)) r.length (r:=.inl ()) (fun k hk=>?_) ?_
 ·exact(congrArg (fun x=>Option.bind x _) h2).trans rfl
 ·unfold yM;simp only[Tr.den,aQ];rw[aA (bO (by omega)),aA (by omega),aLV (h.2 k (by have:=h.1; omega))];simp only[aI,yJ,dC,cT];rw[aK (by omega)]
 ·unfold yM;simp only[Tr.den];rw[aE (cB (by omega))]
abbrev num (l:List aC):Int:=wt Ng l
theorem xO:num []=0:=rfl
theorem eQ(d:aC)(l:List aC):num (d::l)=d.N+num l:=rfl
theorem Ud(h:∀ d,d∈l->0<=d.N):0<=num l:=by
 induction l with
 | nil=>exact iQ _
 | cons d l ih=>have h1:=h d bW;have h2:=ih fun x hx=>h x (cC _ hx);rw[eQ]; omega
theorem aEQ{c:Nat}(h:∀ d,d∈l->d.N<=c):num l<=l.length*c:=by
 induction l with
 | nil=>simp[xO]
 | cons d l ih=>have h1:=h d bW;have h2:=ih fun x hx=>h x (cC _ hx);rw[eQ,dA,Int.natCast_add,sJ]; omega
theorem Ob(h:∀ d,d∈l->0<=d.N)(hs:r.Sublist l):num r<=num l:=by
 induction hs with
 | slnil=>exact iQ _
 | @cons r l d _ ih=>have h1:=h d bW;have h2:=ih fun x hx=>h x (cC _ hx);rw[eQ]; omega
 | @cons_cons r l d _ ih=>have h2:=ih fun x hx=>h x (cC _ hx);rw[eQ,eQ]; omega
theorem Rj(h:∀ d,d∈l->d.N=1):num l=l.length:=by
 induction l with
 | nil=>rfl
 | cons d l ih=>rw[eQ,ih fun x hx=>h x (cC _ hx),h d bW,dA]; omega
theorem aIY(h:l.Perm r):num l=num r:=Lu _ h
theorem yL{α:Type}{f:α->List aC}{c:α->Int}:∀ {l:List α},(∀ x,x∈l->num (f x)<=c x)->num (l.flatMap f)<=kK c l
 | [],_=>iQ _
 | x::l,h=>by have h1:=h x bW;have h2:=yL (c:=c) fun y hy=>h y (cC _ hy);rw[fT,show num (f x++l.flatMap f)=num (f x)+num (l.flatMap f) from iL _ _ _];simp only[kK]; omega
theorem Al{f:aC->List aC}{m:Int}:∀ {l:List aC},(∀ x,x∈l->num (f x)<=x.N*m)->num (l.flatMap f)<=num l*m
 | [],_=>by simp[xO]
 | x::l,h=>by have h1:=h x bW;have h2:=Al (m:=m) fun y hy=>h y (cC _ hy);rw[fT,show num (f x++l.flatMap f)=num (f x)+num (l.flatMap f) from iL _ _ _,eQ,sJ]; omega
theorem Qq:kK (fun k=>num (ofK n 0 k A)) (cM (aT (bP n 0 A)))=num A:=
 Pc Ng n 0 _ ((gH _).nodup_iff.2 ((Az n 0 A).nodup LO.bytes)) A fun x hx=>(gH _).mem_iff.2 (iR.2 fun h0=>by have:x∈ofK n 0 (kd n 0 x) A:=eH.2 ⟨hx,rfl⟩;rw[h0]at this; cases this)
theorem Um{len:Int}(hs:0<len):∀ {bs:List Int},bs.Nodup->∀ {L:List aC},(∀ d,d∈L->d.Time / len*len∈bs)->kK (fun b=>num (inB len len b L)) bs=num L:=by
 intro bs hn L;have one:∀ t b,b∈lU len len t↔b=t / len*len:=fun t b=>by unfold lU;rw[Pt hs];simp
 induction L with
 | nil=>intro _; exact wK fun b _=>rfl
 | cons d L ih=>
  intro h;rw[eQ,<-ih fun x hx=>h x (cC _ hx)];have e:∀ b,num (inB len len b (d::L))=(if b=d.Time / len*len then d.N else 0)+num (inB len len b L):=fun b=>by
   unfold inB;rw[wL];by_cases hb:b=d.Time / len*len
   ·rw[aA (bO ((one _ _).2 hb)),aA hb,eQ]
   ·rw[aE (cB fun h=>hb ((one _ _).1 h)),aE hb]; omega
  rw[Bo fun b _=>e b];have add:∀ (f g:Int->Int) (l:List Int),kK (fun b=>f b+g b) l=kK f l+kK g l:=fun f g l=>by
   induction l with
   | nil=>rfl
   | cons x l ih=>simp only[kK,ih]; omega
  rw[add,Kd (k:=d.Time / len*len) hn (fun x _ hx=>aE hx) fun hk=>absurd (h d bW) hk,aA rfl]
theorem Yn{tm:Int}:∀ {r:List aC} {left:Int},(∀ d,d∈r->0<=d.N)->num (rP tm left r)<=num r
 | [],_,_=>iQ _
 | d::r,left,h=>by
  have h1:=h d bW;have h2:=Yn (tm:=tm) (r:=r) (left:=left-jX left d.N) fun x hx=>h x (cC _ hx);rw[rP,eQ,eQ];have:jX left d.N<=d.N:=by unfold jX; split <;> omega
  show jX left d.N+_<=_;omega
theorem aEA(hz:1<=n.Size){S:List aC->List aC}(hN:∀ d,d∈A->0<=d.N)(hS:∀ r,r.Sublist A->(S r).Perm r):num (qS n S (cM (aT (bP n 0 A))) A)<=num A:=by
 rw[<-Qq (n:=n) (A:=A)];refine yL fun k _=>?_;have hs:0<n.Size:=by omega
 have hk:(ofK n 0 k A).Sublist A:=jC;rw[<-Um hs (qZ n.Size n.Size (ofK n 0 k A)) (L:=ofK n 0 k A) fun d hd=>(jF hs).2 fun h0=>by have:d∈inB n.Size n.Size (d.Time / n.Size*n.Size) (ofK n 0 k A):=iD.2 ⟨hd,bO (by unfold lU; rw[Pt hs]; simp)⟩;rw[h0]at this; cases this];refine yL fun b _=>?_;have hsub:(inB n.Size n.Size b (ofK n 0 k A)).Sublist A:=List.Sublist.trans jC hk;have hp:=hS _ hsub;unfold Hv;refine Int.le_trans (Yn fun d hd=>hN d (hsub.subset (hp.mem_iff.1 hd))) ?_;rw[aIY hp]; exact iQ _
theorem Yc{fs:List aU}{n:aG}:∀ {L:List aC},(∀ d,d∈L->0<=d.N)->((plA fs n L).length:Int)=num L
 | [],_=>rfl
 | d::L,h=>by have h1:=h d bW;have h2:=Yc (fs:=fs) (n:=n) fun x hx=>h x (cC _ hx);have e:plA fs n (d::L)=plD fs n d++plA fs n L:=rfl;have e2:(plD fs n d).length=d.N.toNat:=oX;rw[e,bQ,eQ,e2]; omega
theorem zC{n:aG}{key:List aF}{lo:Int}:∀ {qs u:List dW},∀ x,x∈lF n key lo u qs->x.N=1
 | [],u,x,hx=>by cases hx
 | q::qs,u,x,hx=>by
  rw[lF]at hx;rcases dE.1 hx with hx | hx
  ·split at hx
   ·unfold Ie at hx;split at hx
    ·rw[bZ.1 hx]
    ·cases hx
   ·cases hx
  ·exact zC x hx
theorem aJP(hN:∀ d,d∈A->0<=d.N):num (vG fs n (cM (aT (bP n 0 A))) A)<=num A:=by rw[<-Qq (n:=n) (A:=A)];refine yL fun k _=>?_;have h1:=Ey n (mI n ((ofK n 0 k A).getD 0 default).Row) 0 (plA fs n (ofK n 0 k A)) [];have h2:=Yc (fs:=fs) (n:=n) (L:=ofK n 0 k A) fun d hd=>hN d (eH.1 hd).1;unfold aBI;rw[Rj fun x hx=>zC x hx];omega
theorem aBV{R:List aC}{a:aC}(ha:0<=a.N/\a.N<=1000)(hR:∀ d,d∈R->0<=d.N/\d.N<=1000):num (pQ n 0 R a)<=a.N*num R/\0<=num (pQ n 0 R a):=by
 unfold pQ;rw[aE (by decide),aE (by decide)];have hsub:(fB R (a.Time-n.Before) (a.Time+n.After)).Sublist R:=jC;have h1:=Ob (fun d hd=>(hR d hd).1) hsub;have h3:∀ L:List aC,(∀ d,d∈L->0<=d.N/\d.N<=1000)->num (L.map (rI 0 a))=a.N*num L/\0<=num L:=fun L hL=>by
  induction L with
  | nil=>exact⟨by simp[xO],iQ _⟩
  | cons b L ih=>have hb:=hL b bW;obtain⟨i1,i2⟩:=ih fun x hx=>hL x (cC _ hx);have hm:0<=a.N*b.N/\a.N*b.N<=1000*1000:=⟨tM ha.1 hb.1,Int.mul_le_mul ha.2 hb.2 hb.1 (by decide)⟩;rw[gJ,eQ,eQ,i1,Ee,Int.mul_add];refine⟨?_,by omega⟩;show W (a.N*b.N)+_=_;rw[xY ⟨by omega,by omega⟩]
 obtain⟨e,e2⟩:=h3 _ fun d hd=>hR d (hsub.subset hd);rw[e];exact⟨Int.mul_le_mul_of_nonneg_left h1 ha.1,tM ha.1 e2⟩
theorem aCT{R:List aC}{a:aC}(ha:0<=a.N):num (kO n R a)<=a.N/\0<=num (kO n R a):=by
 unfold kO;split
 ·exact⟨ha,iQ _⟩
 ·rw[eQ,xO];show a.N+0<=a.N/\0<=a.N+0;omega
theorem Qi(h67:n.Op=6\/n.Op=7)(hA:∀ d,d∈A->0<=d.N/\d.N<=1000)(hB:∀ d,d∈B->0<=d.N/\d.N<=1000):
  (n.Op=6->num (sI n A B)<=num A*num B)/\(n.Op=7->num (sI n A B)<=num A):=by
 constructor
 ·intro h6;unfold sI;refine Al fun a ha=>?_;unfold pI;rw[aA h6];have hs:(ofK n 1 (kd n 0 a) B).Sublist B:=jC;have h1:=aBV (n:=n) (R:=ofK n 1 (kd n 0 a) B) (hA a ha) fun d hd=>hB d (hs.subset hd);exact Int.le_trans h1.1 (Int.mul_le_mul_of_nonneg_left (Ob (fun d hd=>(hB d hd).1) hs) (hA a ha).1)
 ·intro h7;unfold sI;have:=Al (f:=fun a=>pI n (ofK n 1 (kd n 0 a) B) a) (m:=1) (l:=A) fun a ha=>by unfold pI;rw[aE (by omega),Int.mul_one];exact(aCT (hA a ha).1).1
  rwa [Int.mul_one]at this
theorem aPA(hR:fF fs n ta tb)(h1:1<=n.Op)(hA:NIn ta A)(hB:NIn tb B):∀ x,x∈qJ fs n A B->0<=x.N/\x.N<=1000000:=fun x hx=>by
 have hal:=hA.len;have hop:=hR.b.op;unfold qJ at hx;by_cases o1:n.Op=1
 ·rw[aA o1]at hx;have:=hA.n x (iD.1 hx).1; omega
 ·rw[aE o1]at hx;by_cases o2:n.Op=2
  ·rw[aA o2]at hx;obtain⟨d,hd,rfl⟩:=cQ.1 hx;have:=hA.n d hd;show 0<=d.N/\d.N<=1000000;omega
  ·rw[aE o2]at hx;by_cases o3:n.Op=3
   ·rw[aA o3]at hx;rcases dE.1 hx with hx | hx
    ·have:=hA.n x hx; omega
    ·have:=hB.n x hx; omega
   ·rw[aE o3]at hx;by_cases o4:n.Op=4
    ·rw[aA o4]at hx;obtain⟨k,hkm,hx⟩:=gI.1 hx;obtain⟨w,hw,rfl⟩:=cQ.1 hx;exact⟨by show (0:Int)<=1; decide,by show (1:Int)<=1000000; decide⟩
    ·rw[aE o4]at hx;by_cases o5:n.Op=5
     ·rw[aA o5]at hx;have hS:=uV (n:=n) hA.can.lt (hR.ts o5 hA) (by omega);have hkp:=(hR.b.t o5).2;have:=(rY (n:=n) (S:=vM n) (ks:=cM (aT (bP n 0 A))) (fun d hd=>by have:=hA.n d hd; omega) (by omega) (fun r hr=>(hS r hr).2) x hx).2;omega
     ·rw[aE o5]at hx;by_cases o8:n.Op=8
      ·rw[aA o8]at hx;obtain⟨k,hkm,hx⟩:=gI.1 hx;rw[zC x hx];exact⟨by decide,by decide⟩
      ·rw[aE o8]at hx;obtain⟨a,ha,hx⟩:=gI.1 hx;have hna:=hA.n a ha;unfold pI at hx;split at hx
       ·unfold pQ at hx;obtain⟨b,hb,rfl⟩:=cQ.1 hx;have hnb:=hB.n b (eH.1 (Ei.1 hb).1).1;rw[Ee];have hm:0<=a.N*b.N/\a.N*b.N<=1000*1000:=⟨tM (by omega) (by omega),Int.mul_le_mul hna.2 hnb.2 (by omega) (by decide)⟩;show 0<=W (a.N*b.N)/\W (a.N*b.N)<=1000000;rw[xY ⟨by omega,by omega⟩];omega
       ·unfold kO at hx;split at hx
        ·cases hx
        ·rw[bZ.1 hx];show 0<=a.N/\a.N<=1000000;omega
theorem aGS{X:List aC}(h:∀ x,x∈X->0<=x.N/\x.N<=1000000)(hl:X.length<=100000000000):(∀ x,x∈cons X->1<=x.N)/\W (num (cons X))=num X/\0<=num X/\num X<=100000000000000000:=by
 have hn:okN X:=fun d hd=>by have:=h d hd; exact⟨by omega,by omega⟩
 have hc:=iS hn;have bd:∀ p:Pl->Bool,0<=wt p X/\wt p X<=X.length*1000000:=fun p=>by
  clear hn hc hl
  induction X with
  | nil=>exact⟨iQ _,by simp[wt]⟩
  | cons x X ih=>have h1:=h x bW;have h2:=ih fun d hd=>h d (cC _ hd);simp only[wt,dA,Int.natCast_add,sJ];split <;> omega
 refine⟨fun x hx=>?_,?_,(bd Ng).1,by have:=(bd Ng).2; show wt Ng X<=_; omega⟩
 ·have h1:=iZ X (at1 (pl x));have h2:=bd (at1 (pl x));rw[hc.wt_mem hx,xY (hc.n64 x hx),xY ⟨by omega,by omega⟩]at h1;have:=hc.nz x hx;omega
 ·have h2:=bd Ng;have h1:=iZ X Ng;rw[xY (n:=wt Ng X) ⟨by omega,by omega⟩]at h1;exact h1
theorem Ho(hs:1<=step):∀ l:List aC,TS l->(ses step e l).Pairwise (fun v w=>v.begin_<w.begin_)/\(∀ w,w∈ses step e l->w.begin_<=(eV step e l).2/\∃ d,d∈l/\d.Time=w.begin_)/\(l≠[]->∃ d,d∈l/\(eV step e l).2=d.Time):=by
 refine Hb (P:=fun l=>TS l->(ses step e l).Pairwise (fun v w=>v.begin_<w.begin_)/\(∀ w,w∈ses step e l->w.begin_<=(eV step e l).2/\∃ d,d∈l/\d.Time=w.begin_)/\(l≠[]->∃ d,d∈l/\(eV step e l).2=d.Time)) (fun _=>⟨List.Pairwise.nil,fun w hw=>by simp[ses,eV]at hw,fun h=>absurd rfl h⟩) fun l x ih hts=>?_;have hts2:=lM.1 hts;obtain⟨i1,i2,i3⟩:=ih hts2.1;unfold ses at i1 i2 ⊢;rw[Ay];simp only;have hlast:l≠[]->(eV step e l).2<=x.Time:=fun h0=>by obtain⟨d,hd,e1⟩:=i3 h0;have:=hts2.2.2 d hd x (by simp);omega
 have hmx:∃ d,d∈l++[x]/\x.Time=d.Time:=⟨x,by simp,rfl⟩;by_cases hc:(eV step e l).1=[]\/x.Time-(eV step e l).2>=step
 ·rw[Gy hc];have h0:∀ w,w∈(eV step e l).1->w.begin_<x.Time/\w.begin_<=x.Time:=fun w hw=>by
   have h1:=(i2 w hw).1;rcases hc with hc | hc
   ·rw[hc]at hw; cases hw
   ·omega
  refine⟨lM.2 ⟨i1,oO _ _,fun v hv w hw=>by rw[bZ.1 hw]; exact(h0 v hv).1⟩,fun w hw=>?_,fun _=>hmx⟩;rcases dE.1 hw with hw | hw
  ·obtain⟨d,hd,e1⟩:=(i2 w hw).2;exact⟨(h0 w hw).2,d,nE _ hd,e1⟩
  ·rw[bZ.1 hw]; exact⟨iQ _,x,by simp,rfl⟩
 ·obtain⟨s,v,h1,h2⟩:=(Jl step e l).resolve_left fun h=>hc (.inl h.1);have hl0:l≠[]:=by rintro rfl;have:=congrArg List.length h1;simp[eV]at this
  have hl:=hlast hl0;rw[h1]at i1 i2;rw[h1,Ge fun h=>hc (.inr h)];have j1:=lM.1 i1;refine⟨lM.2 ⟨j1.1,oO _ _,fun u hu w hw=>by rw[bZ.1 hw]; exact j1.2.2 u hu v (by simp)⟩,fun w hw=>?_,fun _=>hmx⟩;rcases dE.1 hw with hw | hw
  ·obtain⟨q1,d,hd,e1⟩:=i2 w (nE _ hw);exact⟨by omega,d,nE _ hd,e1⟩
  ·rw[bZ.1 hw];obtain⟨q1,d,hd,e1⟩:=i2 v (by simp);exact⟨by show v.begin_<=_; omega,d,nE _ hd,e1⟩
theorem Hz(hn:Bc n){L:List aC}(ht:jW L)(hts:TS L):(jP n L).Pairwise (fun v w=>v.begin_≠w.begin_):=by
 have hz:=hn.size;have fx:∀ step,(Ck n.Size step L).Pairwise (fun v w=>v.begin_≠w.begin_):=fun step=>by unfold Ck;rw[qL];exact qZ _ _ _
 unfold jP;rcases hn.kind with h | ⟨h,hs⟩ | ⟨h,hs⟩
 ·rw[aA h]; exact fx _
 ·rw[aE (by omega),aA h]; exact fx _
 ·rw[aE (by omega),aE (by omega)];unfold Ic;have hs0:0<n.Size:=by omega
  have hnd:=qZ n.Size n.Size L;have inb:∀ b,b∈jV n.Size n.Size L->n.Size∣b/\∀ w,w∈ses n.Step (b+n.Size) (inB n.Size n.Size b L)->b<=w.begin_/\w.begin_<b+n.Size:=fun b hb=>by have hne:=(jF hs0).1 hb;have hd:n.Size∣b:=oY fun h'=>hne (by rw[aRZ hs0,aE h']);refine⟨hd,fun w hw=>?_⟩;obtain⟨d,hd',e⟩:=((Ho (e:=b+n.Size) hs.1 (inB n.Size n.Size b L) (hts.sublist jC)).2.1 w hw).2;have:=(sX hs0).1 (dX (iD.1 hd').2);omega
  generalize jV n.Size n.Size L=bs at hnd inb
  induction bs with
  | nil=>exact List.Pairwise.nil
  | cons b bs ih=>have hn2:=lG.1 hnd;rw[fT];refine lM.2 ⟨(Ho hs.1 _ (hts.sublist jC)).1.imp fun h=>by omega,ih hn2.2 fun c hc=>inb c (cC _ hc),fun v hv w hw=>?_⟩;obtain⟨c,hc,hw⟩:=gI.1 hw;have h1:=inb b bW;have h2:=inb c (cC _ hc);have h3:=h1.2 v hv;have h4:=h2.2 w hw;intro he;have e1:=Jt hs0 h1.1 (show b<=v.begin_ by omega) (by omega);have e2:=Jt hs0 h2.1 (show c<=v.begin_ by omega) (by omega);exact hn2.1 (by rw[e1,<-e2]; exact hc)
theorem aUA{X:List aC}(h1:∀ x,x∈X->x.N=1)(hd:X.Pairwise fun x y=>pl x≠pl y)(q:Pl):wt (at1 q) X<=1:=by
 induction X with
 | nil=>exact by show (0:Int)<=1; decide
 | cons x X ih=>
  have hd:=lZ.1 hd;have h2:=ih (fun y hy=>h1 y (cC _ hy)) hd.2;simp only[wt];by_cases hx:at1 q (pl x)=true
  ·have e:=Mq.1 hx;rw[aA hx,h1 x bW,Lb fun y hy=>Nc fun e'=>hd.1 y hy (e.symm.trans e')];omega
  ·rw[aE hx]; omega
theorem aGD(hn:Bc n)(hA:jW A)(hts:TS A):∀ x,x∈cons (iH n (cM (aT (bP n 0 A))) A)->x.N<=1:=by
 have h1:∀ ks x,x∈iH n ks A->x.N=1:=fun ks x hx=>by obtain⟨k,hk,hx⟩:=gI.1 hx;obtain⟨w,hw,rfl⟩:=cQ.1 hx;rfl
 have hd:(iH n (cM (aT (bP n 0 A))) A).Pairwise fun x y=>pl x≠pl y:=by
  have hnd:(cM (aT (bP n 0 A))).Nodup:=(gH _).nodup_iff.2 ((Az n 0 A).nodup LO.bytes);have hne:∀ k,k∈cM (aT (bP n 0 A))->ofK n 0 k A≠[]:=fun k hk=>iR.1 ((gH _).mem_iff.1 hk);generalize cM (aT (bP n 0 A))=ks at hnd hne;have key:∀ k w,ofK n 0 k A≠[]->Cf ((Cu n (ofK n 0 k A) w).Row.take n.Key.length)=k:=fun k w h0=>by unfold Cu;simp only;rw[cJ,Es (by rw[pL]; exact cS _),kV (by rw[pL]; exact cS _)];exact(eH.1 (aR (fL.2 h0))).2
  have beg:∀ k w,(Cu n (ofK n 0 k A) w).Row.getD n.Key.length default=vI w.begin_:=fun k w=>by unfold Cu;simp only;rw[cJ,bE,aE (by rw[pL]; omega),pL,qM]; rfl
  induction ks with
  | nil=>exact List.Pairwise.nil
  | cons k ks ih=>
   have hn2:=lG.1 hnd;unfold iH at ih ⊢;rw[fT];refine lM.2 ⟨?_,ih hn2.2 fun c hc=>hne c (cC _ hc),fun x hx y hy he=>?_⟩
   ·rw[qL];refine(Hz hn (L:=ofK n 0 k A) (fun d hd=>hA d (eH.1 hd).1) (hts.sublist jC)).imp fun {v w} hvw he=>?_;have e:=congrArg (fun r:Pl=>r.2.getD n.Key.length default) he;simp only[pl]at e;rw[beg,beg]at e;exact hvw (congrArg aF.N e)
   ·obtain⟨v,hv,rfl⟩:=cQ.1 hx;obtain⟨c,hc,hy⟩:=gI.1 hy;obtain⟨w,hw,rfl⟩:=cQ.1 hy;have e:=congrArg (fun r:Pl=>Cf (r.2.take n.Key.length)) he;simp only[pl]at e;rw[key k v (hne k bW),key c w (hne c (cC _ hc))]at e;exact hn2.1 (e▸hc)
 intro x hx;have hN:okN (iH n (cM (aT (bP n 0 A))) A):=(zA hn _ _).n;have hc:=iS hN;have h2:=iZ (iH n (cM (aT (bP n 0 A))) A) (at1 (pl x));have h3:=aUA (h1 _) hd (pl x);have h4:0<=wt (at1 (pl x)) (iH n (cM (aT (bP n 0 A))) A):=by
  have:=h1 (cM (aT (bP n 0 A)));generalize iH n (cM (aT (bP n 0 A))) A=X at this
  induction X with
  | nil=>exact iQ _
  | cons y X ih=>have q1:=this y bW;have q2:=ih fun z hz=>this z (cC _ hz);simp only[wt];split <;> omega
 rw[hc.wt_mem hx,xY (hc.n64 x hx),xY ⟨by omega,by omega⟩]at h2;omega
theorem aIW(hn:Bc n)(hle:n.Kind=1->n.Step<=n.Size)(h0:A≠[]):iH n (cM (aT (bP n 0 A))) A≠[]:=by
 have hz:=hn.size;obtain⟨d,hd⟩:=Nb _ h0;have hdk:d∈ofK n 0 (kd n 0 d) A:=eH.2 ⟨hd,rfl⟩;have hk:kd n 0 d∈cM (aT (bP n 0 A)):=(gH _).mem_iff.2 (iR.2 fun h=>by rw[h]at hdk; cases hdk);have fl:∀ step,0<step->step<=n.Size->jV n.Size step (ofK n 0 (kd n 0 d) A)≠[]:=fun step hs hle h=>by
  have hb:d.Time / step*step∈lU n.Size step d.Time:=by refine(sX hs).2 ⟨⟨d.Time / step,qR _ _⟩,zI _ (by omega),?_⟩;have:=Int.lt_ediv_add_one_mul_self d.Time hs;rw[sJ]at this; omega
  have hw:d.Time / step*step∈jV n.Size step (ofK n 0 (kd n 0 d) A):=(jF hs).2 fun h0=>by have:d∈inB n.Size step (d.Time / step*step) (ofK n 0 (kd n 0 d) A):=iD.2 ⟨hdk,bO hb⟩;rw[h0]at this; cases this
  rw[h]at hw; cases hw
 have hw:jP n (ofK n 0 (kd n 0 d) A)≠[]:=by
  unfold jP;rcases hn.kind with h | ⟨h,hs⟩ | ⟨h,hs⟩
  ·rw[aA h];exact fun h=>fl n.Size (by omega) (iQ _) (List.map_eq_nil_iff.1 h)
  ·rw[aE (by omega),aA h];exact fun h'=>fl n.Step (by omega) (hle h) (List.map_eq_nil_iff.1 h')
  ·rw[aE (by omega),aE (by omega)];unfold Ic;obtain⟨b,hb⟩:=Nb _ (fl n.Size (by omega) (iQ _));have hne:=(jF (show 0<n.Size by omega)).1 hb;intro h;have h2:=List.flatMap_eq_nil_iff.1 h b hb;generalize inB n.Size n.Size b (ofK n 0 (kd n 0 d) A)=R at hne h2;have:=Xc (step:=n.Step) (e:=b+n.Size) (l:=R) (k:=R.length-1) (by have:=fL.2 hne; omega);rw[show R.length-1+1=R.length by have:=fL.2 hne; omega,cV]at this;exact this h2
 intro h;have h2:=List.flatMap_eq_nil_iff.1 h _ hk;exact hw (List.map_eq_nil_iff.1 h2)
theorem Fz{k:Nat}(hk:k<l.length):num (l.take (k+1))=num (l.take k)+(l.getD k default).N:=by rw[aL hk,show num (l.take k++[l.getD k default])=num (l.take k)+num [l.getD k default] from iL _ _ _,eQ,xO]; omega
theorem Zz(r2:List (List aC)×Bool)(A:List aC)(h0:r2.1.getD 0 default=A)(h1:1<=r2.1.length)(hl:A.length<=1000):cD (fun s=>(yP r2 s).den) (0,0)=some (.inl (W (num A))):=by
 have h:=aW (bd:=fun s=>(yP r2 s).den) (fun k=>(W (num (A.take k)),(k:Int))) A.length (r:=.inl (W (num A))) (fun k hk=>?_) ?_
 ·exact h
 ·unfold yP;simp only[Tr.den,aQ,show (0:Int).toNat=0 from rfl];rw[aA (by omega),aA (by rw[h0]; exact bO (by omega)),aA (by omega),aA (by rw[h0]; omega),h0,aK (by omega),Fz hk];show some (Sum.inl (IntKind.i64.wrap (IntKind.i64.wrap _+_),_))=_;rw[mP]
 ·unfold yP;simp only[Tr.den,show (0:Int).toNat=0 from rfl];rw[aA (by omega),aE (by rw[h0]; exact cB (by omega)),cV]
theorem aCF(r2:List (List aC)×Bool)(B:List aC)(h0:r2.1.getD 1 default=B)(h1:2<=r2.1.length)(hl:B.length<=1000):cD (fun s=>(tU r2 s).den) (0,0)=some (.inl (W (num B))):=by
 have h:=aW (bd:=fun s=>(tU r2 s).den) (fun k=>(W (num (B.take k)),(k:Int))) B.length (r:=.inl (W (num B))) (fun k hk=>?_) ?_
 ·exact h
 ·unfold tU;simp only[Tr.den,aQ,show (1:Int).toNat=1 from rfl];rw[aA (by omega),aA (by rw[h0]; exact bO (by omega)),aA (by omega),aA (by rw[h0]; omega),h0,aK (by omega),Fz hk];show some (Sum.inl (IntKind.i64.wrap (IntKind.i64.wrap _+_),_))=_;rw[mP]
 ·unfold tU;simp only[Tr.den,show (1:Int).toNat=1 from rfl];rw[aA (by omega),aE (by rw[h0]; exact cB (by omega)),cV]
theorem aBG(r4:List aC)(r5:List Int)(v:Nat)(hv:v<r4.length)(h:TyL r5 (r4.getD v default).Row)(hl:r5.length<=1000):cD (fun s=>(yW r4 r5 (v:Int) s).den) 0=some (.inl ()):=by
 have h2:=aW (bd:=fun s=>(yW r4 r5 (v:Int) s).den) (fun k=>(k:Int)) r5.length (r:=.inl ()) (fun k hk=>?_) ?_
 ·exact h2
 ·have hty:=(h.2 k hk).1;have hlen:=h.1;unfold yW;simp only[Tr.den,aQ];rw[aA (bO (by omega)),aA (by omega),aA (by omega),aE (Ia hty),aK (by omega)]
 ·unfold yW;simp only[Tr.den];rw[aE (cB (by omega))]
theorem aAE(n:aG)(r1:Bool)(r2:List (List aC)×Bool)(r4:List aC)(r5:List Int)(v8:Int)(v:Nat)(A:List aC)(h0:r2.1.getD 0 default=A)(h1:1<=r2.1.length)(hl:A.length<=1000)(hA:∀ d,d∈A->d.Row.length<=1000)(hr:(r4.getD v default).Row.length<=1000)(hf:∃ d,d∈A/\d.Row=(r4.getD v default).Row):
  Sp (cD (fun s=>(Nr n r1 r2 r4 r5 v8 (v:Int) s).den) (false,0)) (fun z=>z = .inl true):=by
 refine dU (fun s:Bool×Int=>s.2) A.length (by omega) (fun s=>s.1=true\/∃ d,d∈A.drop s.2.toNat/\d.Row=(r4.getD v default).Row) (fun s k hI hk hkN=>?_) (.inr (by simpa using hf)) rfl;obtain⟨f,v16⟩:=s;simp only at hk hI;subst hk;simp only[aQ]at hI;unfold Nr;simp only[Tr.den,aQ,show (0:Int).toNat=0 from rfl];rw[aA (by omega)];by_cases hc:k<A.length
 ·rw[aA (by rw[h0]; exact bO (by omega))];refine Sq.bind (fun j:Bool=>j=true\/∃ d,d∈A.drop (k+1)/\d.Row=(r4.getD v default).Row) ?_ fun j hj=>?_
  ·cases f with
   | true=>exact aB.2 (.inl rfl)
   | false=>
    have hI:=hI.resolve_left (by simp);simp only[dC,cT];rw[aA (by omega),aA (by rw[h0]; omega),h0,uI _ _ (by have:=hA _ (aR hc); omega) (by omega)];simp only[aI];refine aB.2 ?_;obtain⟨d,hd,e⟩:=hI;rw[cU hc]at hd;rcases aX.1 hd with rfl | hd
    ·left; rw[eE,e]; exact(TO.row.eq _ _).2 rfl
    ·exact .inr ⟨d,hd,e⟩
  ·refine aB.2 ⟨rfl,hc,?_⟩;simp only;rw[aK (by omega),aQ]; exact hj
 ·rw[aE (by rw[h0]; exact cB (by omega))];refine aB.2 ?_;rcases hI with h | ⟨d,hd,_⟩
  ·simp only[sel]; rw[h]
  ·rw[jN (by omega)]at hd; cases hd
theorem aAV(n:aG)(r1:Bool)(r2:List (List aC)×Bool)(X:List aC)(r5:List Int)(A:List aC)(h0:r2.1.getD 0 default=A)(h1:1<=r2.1.length)(hl:A.length<=1000)(hA:∀ d,d∈A->d.Row.length<=1000)(hX:X.length<=1000000000000)(h5:r5.length<=100)
  (hN:∀ x,x∈X->1<=x.N)(hT:∀ x,x∈X->TyL r5 x.Row)(h4:n.Op=4->∀ x,x∈X->x.N=1)(hf:n.Op=5\/n.Op=1->∀ x,x∈X->∃ d,d∈A/\d.Row=x.Row):
  cD (fun s=>(xG n r1 r2 X r5 s).den) (0,0)=some (.inl (W (num X))):=by
 have h:=aW (bd:=fun s=>(xG n r1 r2 X r5 s).den) (fun k=>(W (num (X.take k)),(k:Int))) X.length (r:=.inl (W (num X))) (fun k hk=>?_) ?_
 ·exact h
 ·have hm:=aR hk;have hn:=hN _ hm;have hty:=hT _ hm;have hlen:=hty.1;unfold xG;simp only[Tr.den,aQ];rw[aA (bO (by omega)),aA (by omega)];have c1:((if decide ((X.getD k default).N<1)=true then some true else if (((X.getD k default).Row.length:Int) != (r5.length:Int))=true then some true else (Zw (X.getD k default).Row).bind fun r=>if (!r)=true then some true else if (n.Op==4)=true then some ((X.getD k default).N != 1) else some false):Option Bool)=some false:=by
   rw[aE (cB (by omega)),aE (Ia (by omega)),aKF hty (by omega)];simp only[aI,yJ,dC,cT];by_cases o4:n.Op=4
   ·rw[aA (dI o4),h4 o4 _ hm]; rfl
   ·rw[aE (cZ o4)]
  rw[c1];simp only[aI,dC,cT];rw[aBG X r5 k hk hty (by omega)];simp only[aI,sel];have c2:((if (n.Op==5)=true then some true else some (n.Op==1)):Option Bool)=some (decide (n.Op=5\/n.Op=1)):=by
   by_cases o5:n.Op=5
   ·rw[aA (dI o5),bO (.inl o5)]
   ·rw[aE (cZ o5)];by_cases o1:n.Op=1
    ·rw[dI o1,bO (.inr o1)]
    ·rw[fI (fun h=>h.elim o5 o1),show (n.Op==1)=false by simpa using o1]
  rw[c2];simp only[aI];have fin:(some (Sum.inl (IntKind.i64.wrap (W (num (X.take k))+(X.getD k default).N),IntKind.i64.wrap ((k:Int)+1))):Option ((Int×Int)⊕(Int⊕Bool)))=some (.inl (W (num (X.take (k+1))),((k+1:Nat):Int))):=by rw[aK (by omega),Fz hk];show some (Sum.inl (IntKind.i64.wrap (IntKind.i64.wrap _+_),_))=_;rw[mP]
  by_cases o51:n.Op=5\/n.Op=1
  ·rw[bO o51];simp only[eJ];rw[(aAE n r1 r2 X r5 (W (num (X.take k))) k A h0 h1 hl hA (by omega) (hf o51 _ hm)).eq];simp only[aI,sel,yJ,dC,cT];exact fin
  ·rw[fI o51];simp only[dC,cT,aI,sel];exact fin
 ·unfold xG;simp only[Tr.den];rw[aE (cB (by omega)),cV]
theorem aWH(hR:fF fs n ta tb)(h4:n.Op=4):n.Kind=1->n.Step<=n.Size:=fun h1=>by
 obtain⟨hz,hk⟩:=hR.b.w h4;rcases hk with h | ⟨_,hs,hm⟩ | ⟨h,_⟩
 ·omega
 ·rw[Int.tmod_eq_emod_of_nonneg (by omega)]at hm;exact Int.le_of_dvd (by omega) (Int.dvd_of_emod_eq_zero hm)
 ·omega
theorem aCH(fs:List aU)(n:aG)(a b:List aC)(ts:List (List Int))(hl:okL 104 eC fs)(hn:jI n)(ha:okL 40 dZ a)(hb:okL 40 dZ b)(ht:okL 24 (okL 8 fA) ts):aAJ fs n a b ts=some true:=by
 unfold aAJ aXM;simp only[Tr.den];rw[aRC];simp only[aI];refine Sp.eq ?_;refine Sq.bind _ (aOT fs n a b ts 40 (by omega) hl hn ha hb ht.1 fun t h=>(ht.2 t h).1) fun r2 hr=>?_;refine Sq.bind (fun j:Bool=>j=false->r2.2=true) ?_ fun j hj=>?_
 ·exact bT (fun _=>aB.2 fun h=>by cases h) fun q=>aB.2 fun _=>by simpa using q
 ·cases j with
  | true=>exact aB.2 rfl
  | false=>
   have q:=hj rfl;obtain⟨ta,tb,hR,hk20,hF,_,hcase⟩:=hr q;simp only[dC,cT];have NA:=hF.nin (by omega) ha;have hop:=hR.b.op;have hla:=hR.la;have hlb:=hR.lb;have h1:1<=n.Op:=by
    by_cases h0:n.Op=0
    ·have:nIn n=0:=by unfold nIn; rw[aA h0]
     rcases hcase with⟨_,_,h2,_⟩ | ⟨_,h2,_⟩ <;> omega
    ·omega
   have hal:=NA.len;obtain⟨B,l,NB,e,hl2,hl0,hc,hct,hB1⟩:∃ B l,NIn tb B/\r2.1=l/\1<=l.length/\l.getD 0 default=cons a/\(nIn n=1/\l=[cons a]\/nIn n=2/\l=[cons a,B])/\(nIn n=1/\ts=[ta]/\ta=tb\/nIn n=2/\ts=[ta,tb])/\(l.length=2->l.getD 1 default=B):=by
    rcases hcase with⟨e,hab,hin,hr1⟩ | ⟨e,hin,hFb,hr1⟩
    ·exact⟨[],_,NIn.nil tb,hr1,by simp,rfl,.inl ⟨hin,rfl⟩,.inl ⟨hin,e,hab⟩,fun h=>by simp at h⟩
    ·have NB:=hFb.nin (by omega) hb;exact⟨cons b,_,NB,hr1,by simp,rfl,.inr ⟨hin,rfl⟩,.inr ⟨hin,e⟩,fun _=>rfl⟩
   have hbl:=NB.len;generalize cons a=A at NA hal hl0 hc;have o1:=aPT hR hk20 h1 hl hn NA NB;have hty:=aOB hR hk20 h1 hl hn NA NB;have hnn:=aPA hR h1 NA NB;have hpos:=aGS hnn o1.2;have hcl:=xF (qJ fs n A B);have hcan:=iS o1.1.n;rw[e,aHD hR hk20 h1 hl hn NA NB l hc];simp only[aI];rw[aNN hR hk20 hct];simp only[aI];rw[Lh _ o1.1.cons (by omega),aNI hcan];simp only[aI];rw[aCU _ o1.1.cons.r (by omega)];simp only[aI,yJ,dC,cT];have hTl:(Sv fs n ta tb).length<=100:=by
    unfold Sv;by_cases o2:n.Op=2
    ·rw[aA o2,bI]; have:=(hR.m o2).1; omega
    ·rw[aE o2];by_cases o67:n.Op=6\/n.Op=7
     ·rw[aA o67,bQ]; omega
     ·rw[aE o67];have hkt:=Ez n ta;by_cases o4:n.Op=4
      ·rw[aA o4,bQ,bQ,bI,dN];have:=(hR.w o4).2.2; omega
      ·rw[aE o4];by_cases o8:n.Op=8
       ·rw[aA o8,bQ,bQ,dN]; omega
       ·rw[aE o8]; omega
   have cm:∀ x,x∈cons (qJ fs n A B)->∃ z,z∈qJ fs n A B/\x.Row=z.Row:=fun x hx=>by obtain⟨z,hz,he⟩:=Gk hx;exact⟨z,hz,congrArg (·.2) he⟩
   rw[<-e]at hl0 hl2 hB1;rw[aAV n true r2 (cons (qJ fs n A B)) (Sv fs n ta tb) A hl0 hl2 (by omega) (fun d hd=>by have:=(NA.row d hd).1; omega) (by omega) hTl hpos.1 (fun x hx=>by
     obtain⟨z,hz,e⟩:=cm x hx;rw[e]; exact hty z hz) (fun o4 x hx=>by
     have h2:=hpos.1 x hx;have h3:=aGD (hR.wn o4 hk20) NA.t NA.can.ts x (by
      have e:qJ fs n A B=iH n (cM (aT (bP n 0 A))) A:=by unfold qJ;rw[aE (by omega),aE (by omega),aE (by omega),aA o4]
      rw[e]at hx; exact hx)
     omega) (fun o51 x hx=>by
     obtain⟨z,hz,e⟩:=cm x hx;rw[e];unfold qJ at hz;rcases o51 with o5 | o1
     ·rw[aE (by omega),aE (by omega),aE (by omega),aE (by omega),aA o5]at hz;have hS:=uV (n:=n) NA.can.lt (hR.ts o5 NA) (by omega);obtain⟨⟨d,hd,e⟩,_⟩:=rY (n:=n) (S:=vM n) (ks:=cM (aT (bP n 0 A))) (fun d hd=>by have:=NA.n d hd; omega) (by have:=(hR.b.t o5).2; omega) (fun r hr=>(hS r hr).2) z hz;exact⟨d,hd,e.symm⟩
     ·rw[aA o1]at hz;exact⟨z,(iD.1 hz).1,rfl⟩)]
   simp only[aI,sel];rw[Zz r2 A hl0 hl2 (by omega),hpos.2.1];simp only[aI,sel];have nA:=Ud (l:=A) fun d hd=>by have:=NA.n d hd; omega
   have nA2:=aEQ (l:=A) (c:=1000) fun d hd=>by have:=NA.n d hd; omega
   have nB:=Ud (l:=B) fun d hd=>by have:=NB.n d hd; omega
   have nB2:=aEQ (l:=B) (c:=1000) fun d hd=>by have:=NB.n d hd; omega
   have wA:W (num A)=num A:=xY ⟨by omega,by omega⟩;have wB:W (num B)=num B:=xY ⟨by omega,by omega⟩;rw[wA];have hA0:∀ d,d∈A->0<=d.N:=fun d hd=>by have:=NA.n d hd; omega
   have hle:r2.1.length=l.length:=by rw[e]
   have h2nd:Sp ((if ((l.length:Int)==2)=true then (cD (fun s=>(tU r2 s).den) (0,0)).bind (sel (fun b=>some b) some) else some 0):Option Int) (fun s=>(n.Op=3\/n.Op=6)->s=num B):=by
    by_cases h22:l.length=2
    ·rw[aA (dI (by omega)),aCF r2 B (hB1 (by omega)) (by omega) (by omega),wB];exact aB.2 fun _=>rfl
    ·rw[aE (cZ (by omega))];refine aB.2 fun h=>?_;rcases hc with⟨h',hl'⟩ | ⟨_,hl'⟩
     ·unfold nIn at h';rw[aE (by omega),aA (by omega)]at h';omega
     ·rw[hl']at h22; exact absurd rfl h22
   refine Sq.bind _ h2nd fun s hs=>?_;have c157:((if (n.Op==1)=true then some (n.Op==1) else (if (n.Op==5)=true then some (n.Op==5) else (if (n.Op==7)=true then some (n.Op==7) else some (n.Op==8)).bind fun v=>some v).bind fun v=>some v):Option Bool)=some (decide (n.Op=1\/n.Op=5\/n.Op=7\/n.Op=8)):=by
    by_cases p1:n.Op=1
    ·rw[aA (dI p1),dI p1,bO (.inl p1)]
    ·rw[aE (cZ p1)];by_cases p5:n.Op=5
     ·rw[aA (dI p5),dI p5,bO (.inr (.inl p5))]; rfl
     ·rw[aE (cZ p5)];by_cases p7:n.Op=7
      ·rw[aA (dI p7),dI p7,bO (.inr (.inr (.inl p7)))]; rfl
      ·rw[aE (cZ p7)];by_cases p8:n.Op=8
       ·rw[dI p8,bO (.inr (.inr (.inr p8)))]; rfl
       ·rw[show (n.Op==8)=false by simpa using p8,fI (by omega)]; rfl
   rw[c157];simp only[aI];generalize hT:num (qJ fs n A B)=T at hpos;have eT:num (qJ fs n A B)=T:=hT;unfold qJ at hT;by_cases p:n.Op=1\/n.Op=5\/n.Op=7\/n.Op=8
   ·rw[bO p];simp only[eJ,aI];refine aB.2 (bO ?_);rw[<-hT];rcases p with p | p | p | p
    ·rw[aA p]; exact Ob hA0 jC
    ·rw[aE (by omega),aE (by omega),aE (by omega),aE (by omega),aA p];have hS:=uV (n:=n) NA.can.lt (hR.ts p NA) (by omega);exact aEA (by have:=(hR.b.t p).1; omega) hA0 fun r hr=>(hS r hr).2
    ·rw[aE (by omega),aE (by omega),aE (by omega),aE (by omega),aE (by omega),aE (by omega)];exact(Qi (.inr p) (fun d hd=>by have:=NA.n d hd; omega) fun d hd=>by have:=NB.n d hd; omega).2 p
    ·rw[aE (by omega),aE (by omega),aE (by omega),aE (by omega),aE (by omega),aA p];exact aJP hA0
   ·rw[fI p];simp only[dC,cT];by_cases p2:n.Op=2
    ·rw[aA (dI p2)];simp only[eJ,aI];refine aB.2 (dI ?_);rw[<-hT,aE (by omega),aA p2];exact Wu fs n Ng A
    ·rw[aE (cZ p2)];by_cases p3:n.Op=3
     ·rw[aA (dI p3)];simp only[eJ,aI];refine aB.2 (dI ?_);rw[<-hT,aE (by omega),aE (by omega),aA p3,hs (.inl p3),bF (by omega) (by omega)];exact iL _ _ _
     ·rw[aE (cZ p3)];by_cases p6:n.Op=6
      ·rw[aA (dI p6)];simp only[eJ,aI];refine aB.2 (bO ?_);have hm:0<=num A*num B/\num A*num B<=200000*200000:=⟨tM nA nB,Int.mul_le_mul (by omega) (by omega) nB (by decide)⟩;rw[<-hT,aE (by omega),aE (by omega),aE (by omega),aE (by omega),aE (by omega),aE (by omega),hs (.inr p6),bF (by omega) (by omega)];exact(Qi (.inl p6) (fun d hd=>by have:=NA.n d hd; omega) fun d hd=>by have:=NB.n d hd; omega).1 p6
      ·rw[aE (cZ p6)];simp only[eJ,aI];have p4:n.Op=4:=by omega
       refine aB.2 (eE.2 ?_);rw[aE (by omega),aE (by omega),aE (by omega),aA p4]at hT;have ones:num (iH n (cM (aT (bP n 0 A))) A)=(iH n (cM (aT (bP n 0 A))) A).length:=Rj fun x hx=>by obtain⟨k,hk,hx⟩:=gI.1 hx;obtain⟨w,hw,rfl⟩:=cQ.1 hx;rfl
       by_cases hA:A=[]
       ·subst hA;have h0:cM (aT (bP n 0 ([]:List aC)))=[]:=rK (by rw[iX]; rfl);have:T=0:=by rw[<-hT,h0]; rfl
        rw[this]; rfl
       ·have hw:=fL.2 (aIW (hR.wn p4 hk20) (aWH hR p4) hA);have hp:0<num A:=by obtain⟨d,A',rfl⟩:=List.exists_cons_of_ne_nil hA;have h2:=NA.n d bW;have h3:=Ud (l:=A') fun x hx=>hA0 x (cC _ hx);rw[eQ]; omega
        rw[bO (show T>0 by omega),bO (show num A>0 by omega)]
end Go.PL
