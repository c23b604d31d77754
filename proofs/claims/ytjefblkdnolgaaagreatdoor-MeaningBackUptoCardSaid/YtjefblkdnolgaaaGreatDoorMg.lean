/-
  Parts: The kept part of a plain-law text (strip.py). Own work. Plain law: the stable sort of the library: insertion sort, exchanging and rotating parts. Own work. Plain law: the stable sort of the library: merging in place, and the whole. Own work. Plain law: merging in place sorts; the stable sort sorts. Own work. Plain law: the stable sort of the library sorts. Own work. The kept part of a plain-law text (strip.py). Own work. The kept part of a plain-law text (strip.py). Own work. The kept part of a plain-law text (strip.py). Own work. The kept part of a plain-law text (strip.py). Own work. The kept part of a plain-law text (strip.py). Own work. The kept part of a plain-law text (strip.py). Own work. The kept part of a plain-law text (strip.py). Own work. The kept part of a plain-law text (strip.py). Own work. The kept part of a plain-law text (strip.py). Own work. The kept part of a plain-law text (strip.py). Own work. The kept part of a plain-law text (strip.py). Own work. The kept part of a plain-law text (strip.py). Own work. The kept part of a plain-law text (strip.py). Own work. The kept part of a plain-law text (strip.py). Own work. The kept part of a plain-law text (strip.py). Own work. The kept part of a plain-law text (strip.py). Own work. The kept part of a plain-law text (strip.py). Own work.
-/
import Derived.Test.YtjefblkdnolgaaaGreatDoorMf
import Derived.Lib.Strings
import Derived.Lib.ItoaLen
set_option maxHeartbeats 4000000
namespace Go.PL
open Go
set_option linter.unusedVariables false
set_option maxRecDepth 20000
variable {a k:Nat} {e:bO} {fs:List aV} {i:Int} {l r:List aB} {n:aG} {x y:aB}
section
variable {α:Type} [Inhabited α] (tm:α->Int) (nx:Int->α->Int) (hit:Int->Bool) (sz:Int)
end
def jV(l:List aB):Prop:=∀ x,x∈l->okR x
theorem aQK:okR default:=by show ([]:List aF).length<=_; simp
theorem jV.get(h:jV l)(k:Nat):okR (l.getD k default):=by
 by_cases hk:k<l.length
 ·exact h _ (aQ hk)
 ·rw[cF,xE (by omega)]; exact aQK
theorem jV.perm(h:jV l)(hp:l.Perm r):jV r:=fun x hx=>h x (hp.mem_iff.2 hx)
theorem aIQ(a a2 v2:Int)(an:Nat)(ha:a=an):∀ (j:Nat) (l:List aB),jV l->j<l.length->l.length<=1000000000000000 ->
  cK (fun s=>(mP a a2 v2 s).den) (l,(j:Int))=some (.inl (Sort.insInner ltD an j l.toArray).toList):=by
 intro j
 induction j with
 | zero=>intro l hl hj hn;refine fY ?_;unfold mP;simp only[Tr.den];rw[aE (by simp; omega)];simp[Sort.insInner]
 | succ j ih=>
  intro l hl hj hn;have e1:IntKind.i64.wrap (((j+1:Nat):Int)-1)=(j:Int):=tW (by omega);by_cases hc:an<j+1
  ·have hlt:ltD (l.getD (j+1) default) (l.getD j default)=decide (dF (l.getD (j+1) default) (l.getD j default)<0):=rfl;cases hd:ltD (l.getD (j+1) default) (l.getD j default) with
   | false=>refine fY ?_;unfold mP;simp only[Tr.den];rw[e1];rw[aA (by simp; omega),aA (by omega),aA (by simpa using hj),aA (by omega),aA (by simp; omega)];simp only[aR];rw[vC _ _ (hl.get _) (hl.get _)];simp only[aJ];rw[<-hlt,hd];simp only[dO,dL];unfold Sort.insInner;rw[fX,fX,hd];simp
   | true=>
    rw[lO (s':=(pL l (j+1) j,(j:Int)))]
    ·have h2:=ih (pL l (j+1) j) (hl.perm (uZ l hj (by omega)).symm) (by rw[sI]; omega) (by rw[sI]; exact hn);rw[h2,tT]
     conv=>rhs; unfold Sort.insInner
     rw[fX,fX,hd];simp[hc]
    ·unfold mP;simp only[Tr.den];rw[e1];rw[aA (by simp; omega),aA (by omega),aA (by simpa using hj),aA (by omega),aA (by simp; omega)];simp only[aR];rw[vC _ _ (hl.get _) (hl.get _)];simp only[aJ];rw[<-hlt,hd];simp only[fJ];rw[aA (by omega),aA (by omega),aA (by omega),aA (by omega),aA (by omega),aA (by omega),aA (by omega),aA (by omega),aA (by simp; omega)];rfl
  ·refine fY ?_;unfold mP;simp only[Tr.den];rw[aE (by simp; omega)];simp only[aJ,dO,dL];unfold Sort.insInner;simp[hc]
theorem Sa(a b:Nat)(n:Nat):∀ (i:Nat) (l:List aB),b-i=n->a<i->b<=l.length->l.length<=1000000000000000->jV l ->
  cK (fun s=>(uR (a:Int) (b:Int) s).den) (l,(i:Int))=some (.inl (Sort.insOuter ltD a b i l.toArray).toList):=by
 induction n with
 | zero=>intro i l hi ha hb hn hl;refine fY ?_;unfold uR;simp only[Tr.den];rw[aE (by simp; omega),Sort.insOuter,aE (by omega)]
 | succ n ih=>
  intro i l hi ha hb hn hl;have h1:=aIQ (a:Int) (b:Int) (i:Int) a rfl i l hl (by omega) hn;have hp:=(Sort.insInner_spec iY Sort.swp_permIn Sort.permIn_refl Sort.permIn_trans 0 b i (by omega));have hlen:(Sort.insInner ltD a i l.toArray).size=l.length:=by
   have:∀ (j:Nat) (d:Array aB),(Sort.insInner ltD a j d).size=d.size:=by
    intro j
    induction j with
    | zero=>intro d; rfl
    | succ j ih=>intro d; unfold Sort.insInner; split <;> simp[ih,Sort.swp_size]
   rw[this]; simp
  have hperm:(Sort.insInner ltD a i l.toArray).toList.Perm l:=by
   have:∀ (j:Nat) (d:Array aB),j<d.size->(Sort.insInner ltD a j d).toList.Perm d.toList:=by
    intro j
    induction j with
    | zero=>intro d _; exact .refl _
    | succ j ih=>
     intro d hd;unfold Sort.insInner;split
     ·refine(ih _ (by rw[Sort.swp_size]; omega)).trans ?_;have e:=tT d.toList (j+1) j;rw[mX]at e;rw[<-e];exact uZ d.toList (i:=j+1) (j:=j) (by simpa using hd) (by simp; omega)
     ·exact .refl _
   simpa using this i l.toArray (by simp; omega)
  rw[lO (s':=((Sort.insInner ltD a i l.toArray).toList,((i+1:Nat):Int)))]
  ·rw[ih (i+1) _ (by omega) (by omega) (by simp[hlen]; omega) (by simp[hlen]; omega) (hl.perm hperm.symm)]
   conv=>rhs; rw[Sort.insOuter,aA (by omega)]
  ·unfold uR;simp only[Tr.den];rw[aA (by simp; omega),h1];simp only[aJ,sel];rw[aN (by omega)]
theorem aAA(a b:Nat)(l:List aB)(hb:b<=l.length)(hab:a<=b)(hn:l.length<=1000000000000000)(hl:jV l):Om (a:Int) (b:Int) l=some (Sort.insertionSort ltD l.toArray a b).toList:=by unfold Om Up;simp only[Tr.den];rw[aN (by omega),Sa a b _ (a+1) l rfl (by omega) hb hn hl];rfl
theorem aYU(P X M Y Q:List aB)(n:Nat)(hx:X.length=n)(hy:Y.length=n)(i:Nat)(hi:i<n):
  pL (P++(Y.take i++(X.drop i++(M++(X.take i++(Y.drop i++Q)))))) (P.length+i) (P.length+n+M.length+i)=P++(Y.take (i+1)++(X.drop (i+1)++(M++(X.take (i+1)++(Y.drop (i+1)++Q))))):=by
 have h:=Hu (P++Y.take i) (X.getD i default) (X.drop (i+1)++(M++X.take i)) (Y.getD i default) (Y.drop (i+1)++Q);have e1:(P++Y.take i).length=P.length+i:=by simp; omega
 have e2:(P++Y.take i).length+1+(X.drop (i+1)++(M++X.take i)).length=P.length+n+M.length+i:=by simp; omega
 rw[e2,e1]at h;rw[cU (show i<X.length by omega),cU (show i<Y.length by omega),aO (show i<X.length by omega),aO (show i<Y.length by omega)];simpa using h
theorem zS(P X M Y Q:List aB)(n:Nat)(hx:X.length=n)(hy:Y.length=n)(a b c:Int)(ha:a=P.length)(hb:b=((P.length+n+M.length:Nat):Int))(hc:c=n)(hn:(P++(X++(M++(Y++Q)))).length<=1000000000000000):
  Fj a b c (P++(X++(M++(Y++Q))))=some (P++(Y++(M++(X++Q)))):=by
 subst ha hb hc;simp only[bX]at hn;unfold Fj Kz;simp only[Tr.den];have h:=bB (bd:=fun s=>(mK (P.length:Int) ((P.length+n+M.length:Nat):Int) (n:Int) s).den) (fun i=>(P++(Y.take i++(X.drop i++(M++(X.take i++(Y.drop i++Q))))),(i:Int))) n (r:=.inl (P++(Y++(M++(X++Q))))) (fun i hi=>?_) ?_
 ·simp only[List.take_zero,List.drop_zero,oU]at h;refine(congrArg (fun x=>Option.bind x _) h).trans ?_;rfl
 ·have hL:(P++(Y.take i++(X.drop i++(M++(X.take i++(Y.drop i++Q)))))).length=P.length+n+M.length+n+Q.length:=by simp; omega
  unfold mK;simp only[Tr.den];rw[dQ (by omega),dQ (by omega)];simp only[aR];rw[hL];rw[aA (by simp; omega),aA (by omega),aA (by omega),aA (by omega),aA (by omega),aA (by omega),aA (by omega),aA (by omega),aA (by omega),aA (by simp; omega),aN (by omega)];rw[<-aYU P X M Y Q n hx hy i hi];rfl
 ·unfold mK;simp only[Tr.den];rw[aE (by simp)];rw[lV (by omega),lV (by omega),Yw (by omega),Yw (by omega)];simp
theorem Kh(b:Bool)(P U V Q:List aB)(hu:U≠[])(hv:V≠[])(a1 a2 a3:Int)(h1:a1=P.length)(h2:a2=((P.length+U.length:Nat):Int))(h3:a3=((P.length+U.length+V.length:Nat):Int))(hn:(P++(U++(V++Q))).length<=1000000000000000):
  Sq b (wH a1 a2 a3 (P++(U++(V++Q)))) (fun d=>d=P++(V++(U++Q))):=by
 subst h1 h2 h3;unfold wH Lt;simp only[Tr.den,bU];generalize hm:P.length+U.length=m;generalize hT:P++(V++(U++Q))=T;have hl0:(P++(U++(V++Q))).length=T.length:=by rw[<-hT]; simp; omega
 rw[eT (by omega) (by simp at hn; omega),eT (by omega) (by simp at hn; omega)];refine Sq.while (fun s:List aB×Int×Int=>∃ P U V Q:List aB,s.1=P++(U++(V++Q))/\P.length+U.length=m/\s.2.1=U.length/\s.2.2=V.length/\U≠[]/\V≠[]/\P++(V++(U++Q))=T)
  (fun s=>(s.2.1+s.2.2).toNat) (fun s hs=>?_) ⟨P,U,V,Q,rfl,hm,by simp only; omega,by simp only; omega,hu,hv,hT⟩
 clear hu hv hT hm;obtain⟨l,i,j⟩:=s;obtain⟨P,U,V,Q,rfl,hm,hi,hj,hu,hv,hT⟩:=hs;simp only at hi hj;subst hi hj;have hTl:T.length=P.length+U.length+V.length+Q.length:=by rw[<-hT]; simp; omega
 rw[hl0]at hn;have hu0:0<U.length:=gR.2 hu;have hv0:0<V.length:=gR.2 hv;unfold vJ;simp only[Tr.den];by_cases hij:U.length=V.length
 ·rw[aE (by simp; omega)];refine aC.2 ?_;simp only[sel];have h:=zS P U [] V Q U.length rfl hij.symm (IntKind.i64.wrap ((m:Int)-(U.length:Int))) (m:Int) (U.length:Int) (by rw[eT (by omega) (by omega)]; omega) (by simp; omega) rfl (by simp; omega);simp only[oU]at h;rw[h];simp only[aJ];exact aC.2 hT
 ·rw[aA (by simp; omega)];by_cases hgt:U.length>V.length
  ·rw[aA (by simp; omega)];have hU:U=U.take V.length++U.drop V.length:=(iQ _ _).symm;have h:=zS P (U.take V.length) (U.drop V.length) V Q V.length (by simp; omega) rfl (IntKind.i64.wrap ((m:Int)-(U.length:Int))) (m:Int) (V.length:Int) (by rw[eT (by omega) (by omega)]; omega) (by simp; omega) rfl (by simp; omega);rw[<-cL (U.take V.length),<-hU]at h;rw[h];simp only[aJ];rw[eT (by omega) (by omega)];refine aC.2 ⟨⟨P++V,U.drop V.length,U.take V.length,Q,by simp only[cL],by simp only[bX,fC]; omega,by simp only[fC],by simp only[cE]; omega,?_,?_,?_⟩,by simp only; omega⟩
   ·intro h0; have:=congrArg List.length h0; simp only[fC,fG]at this; omega
   ·intro h0; have:=congrArg List.length h0; simp only[cE,fG]at this; omega
   ·rw[<-hT]
    conv=>rhs; rw[hU]
    simp only[cL]
  ·rw[aE (by simp; omega)];have hV:V=V.take (V.length-U.length)++V.drop (V.length-U.length):=(iQ _ _).symm;have h:=zS P U (V.take (V.length-U.length)) (V.drop (V.length-U.length)) Q U.length rfl (by simp; omega) (IntKind.i64.wrap ((m:Int)-(U.length:Int))) (IntKind.i64.wrap (IntKind.i64.wrap ((m:Int)+(V.length:Int))-(U.length:Int))) (U.length:Int) (by rw[eT (by omega) (by omega)]; omega) (by rw[dQ (by omega),eT (by omega) (by omega)]; simp; omega) rfl (by simp; omega);rw[<-cL (V.take (V.length-U.length)),<-hV]at h;rw[h];simp only[aJ];rw[eT (by omega) (by omega)];refine aC.2 ⟨⟨P,V.drop (V.length-U.length),V.take (V.length-U.length),U++Q,by simp,by simp; omega,by simp; omega,by simp,?_,?_,?_⟩,by simp only; omega⟩
   ·intro h0; have:=congrArg List.length h0; simp only[fC,fG]at this; omega
   ·intro h0; have:=congrArg List.length h0; simp only[cE,fG]at this; omega
   ·rw[<-hT]
    conv=>rhs; rw[hV]
    simp only[cL]
def Srt(l:List aB):Prop:=l.Pairwise (fun x y=>ltD y x=false)
theorem Srt.app:Srt (l++r)↔Srt l/\Srt r/\∀ x,x∈l->∀ y,y∈r->ltD y x=false:=by unfold Srt; rw[wT]
theorem Srt.get(h:Srt l){i j:Nat}(hij:i<=j)(hj:j<l.length):ltD (l.getD j default) (l.getD i default)=false:=by
 rcases Nat.lt_or_eq_of_le hij with h1 | h1
 ·rw[bL hj,bL (show i<l.length by omega)];exact wQ.1 h i j (by omega) hj h1
 ·subst h1; exact iY.irrefl _
theorem rC(h:∀ i j,i<j->j<l.length->ltD (l.getD j default) (l.getD i default)=false):Srt l:=by
 unfold Srt;rw[wQ];intro i j hi hj hij;have:=h i j hij hj
 rwa [bL hj,bL hi]at this
theorem Kk{R':Type}(b:Bool)(bd:Int×Int->Option ((Int×Int)⊕(Int⊕R')))(p:Nat->Bool)(i0 j0:Nat)(hij:i0<=j0)
  (hstep:∀ i j:Nat,i0<=i->i<j->j<=j0->bd ((i:Int),(j:Int))=some (.inl (if p ((i+j) / 2)=true then ((((i+j) / 2+1:Nat):Int),(j:Int)) else ((i:Int),(((i+j) / 2:Nat):Int)))))
  (hstop:∀ i:Nat,i0<=i->i<=j0->bd ((i:Int),(i:Int))=some (.inr (.inl (i:Int))))(mono:∀ h k,i0<=k->k<=h->h<j0->p h=true->p k=true):
  Sq b (cK bd ((i0:Int),(j0:Int))) (sel (fun r:Int=>∃ n:Nat,r=n/\i0<=n/\n<=j0/\(∀ k,i0<=k->k<n->p k=true)/\(∀ k,n<=k->k<j0->p k=false)) (fun _=>False)):=by
 refine Sq.while (fun s=>∃ i j:Nat,s=((i:Int),(j:Int))/\i0<=i/\i<=j/\j<=j0/\(∀ k,i0<=k->k<i->p k=true)/\(∀ k,j<=k->k<j0->p k=false)) (fun s=>(s.2-s.1).toNat) (fun s hs=>?_)
  ⟨i0,j0,rfl,cR _,hij,cR _,fun k h1 h2=>by omega,fun k h1 h2=>by omega⟩
 obtain⟨i,j,rfl,h1,h2,h3,h4,h5⟩:=hs;by_cases hlt:i<j
 ·rw[hstep i j h1 hlt h3];refine aC.2 ?_;by_cases hp:p ((i+j) / 2)=true
  ·rw[aA hp];refine⟨⟨(i+j) / 2+1,j,rfl,by omega,by omega,h3,fun k hk1 hk2=>?_,h5⟩,by simp only; omega⟩;exact mono ((i+j) / 2) k hk1 (by omega) (by omega) hp
  ·rw[aE hp];refine⟨⟨i,(i+j) / 2,rfl,h1,by omega,by omega,h4,fun k hk1 hk2=>?_⟩,by simp only; omega⟩;cases hpk:p k with
   | false=>rfl
   | true=>exact absurd (mono k ((i+j) / 2) (by omega) hk1 hk2 hpk) hp
 ·have:i=j:=by omega
  subst this;rw[hstop i h1 h3];exact aC.2 ⟨i,rfl,h1,h3,h4,h5⟩
section
variable (P A B Q:List aB)
theorem aDN(P B R:List aB)(x:aB)(e:Int)(he:e=((P.length+B.length+1:Nat):Int))(hn:(P++x::(B++R)).length<=1000000000000000):
  cK (fun s=>(kW e s).den) (P++x::(B++R),(P.length:Int))=some (.inl (P++(B++x::R))):=by
 subst he;simp only[bX,dA]at hn;have h:=bB (bd:=fun s=>(kW ((P.length+B.length+1:Nat):Int) s).den) (fun t=>(P++(B.take t++x::(B.drop t++R)),((P.length+t:Nat):Int))) B.length (r:=.inl (P++(B++x::R))) (fun t ht=>?_) ?_
 ·simpa using h
 ·have hL:(P++(B.take t++x::(B.drop t++R))).length=P.length+B.length+1+R.length:=by simp; omega
  unfold kW;simp only[Tr.den];rw[tW (by omega),aN (by omega)];simp only[aR];rw[hL];rw[aA (by simp; omega),aA (by omega),aA (by omega),aA (by omega),aA (by omega),aA (by omega),aA (by omega),aA (by omega),aA (by omega),aA (by simp; omega)];have h2:=Hu (P++B.take t) x [] (B.getD t default) (B.drop (t+1)++R);rw[aO ht,cU ht];rw[show (P++B.take t).length=P.length+t by simp; omega]at h2;simp only[fG,uC,oU,cL,rU]at h2 ⊢;rw[<-h2];rfl
 ·unfold kW;simp only[Tr.den];rw[tW (by omega),aE (by simp)];simp
theorem Qt(P A R:List aB)(y:aB)(e k:Int)(he:e=(P.length:Int))(hk:k=((P.length+A.length:Nat):Int))(hn:(P++(A++y::R)).length<=1000000000000000):
  cK (fun s=>(lI e s).den) (P++(A++y::R),k)=some (.inl (P++y::(A++R))):=by
 subst he hk;simp only[bX,dA]at hn;have h:=bB (bd:=fun s=>(lI (P.length:Int) s).den) (fun t=>(P++(A.take (A.length-t)++y::(A.drop (A.length-t)++R)),((P.length+(A.length-t):Nat):Int))) A.length (r:=.inl (P++y::(A++R))) (fun t ht=>?_) ?_
 ·simpa using h
 ·have hL:(P++(A.take (A.length-t)++y::(A.drop (A.length-t)++R))).length=P.length+A.length+1+R.length:=by simp; omega
  unfold lI;simp only[Tr.den];obtain⟨u,hu⟩:∃ u,A.length-t=u+1:=⟨A.length-t-1,by omega⟩;have hu':A.length-(t+1)=u:=by omega
  rw[hu]at hL ⊢;rw[hu'];rw[<-qC,tW (by omega)];simp only[aR];rw[hL];rw[aA (by simp; omega),aA (by omega),aA (by omega),aA (by omega),aA (by omega),aA (by omega),aA (by omega),aA (by omega),aA (by omega),aA (by simp; omega)];have h2:=aCD (P++A.take u) (A.getD u default) [] y (A.drop (u+1)++R);rw[aO (show u<A.length by omega),cU (show u<A.length by omega)];rw[show (P++A.take u).length=P.length+u by simp; omega]at h2;simp only[fG,uC,oU,cL,rU]at h2 ⊢;rw[<-h2];rfl
 ·unfold lI;simp only[Tr.den];rw[aE (by simp)];simp
end
def gQ(P A B Q:List aB):Int×Int×Int×List aB:=((P.length:Int),((P.length+A.length:Nat):Int),((P.length+A.length+B.length:Nat):Int),P++(A++(B++Q)))
def aXG(a:Int×Int×Int×List aB):Prop:=∃ P A B Q,a=gQ P A B Q/\A≠[]/\B≠[]/\Srt A/\Srt B/\jV (P++(A++(B++Q)))/\(P++(A++(B++Q))).length<=1000000000000000
def aSQ(a:Int×Int×Int×List aB)(d:List aB):Prop:=∀ P A B Q,a=gQ P A B Q->∃ C,d=P++(C++Q)/\C.Perm (A++B)/\Srt C
theorem zX{P A B Q P' A' B' Q':List aB}(h:gQ P A B Q=gQ P' A' B' Q'):P=P'/\A=A'/\B=B'/\Q=Q':=by unfold gQ at h;simp only[gO]at h;obtain⟨h1,h2,h3,h4⟩:=h;obtain⟨e1,h5⟩:=List.append_inj h4 (by omega);obtain⟨e2,h6⟩:=List.append_inj h5 (by omega);obtain⟨e3,e4⟩:=List.append_inj h6 (by omega);exact⟨e1,e2,e3,e4⟩
theorem Tt{A:List aB}(h:Srt A){h':Nat}(hk:k<=h')(hh:h' < A.length)(x:aB)(hp:ltD (A.getD h' default) x=true):ltD (A.getD k default) x=true:=by
 have:=h.get hk hh;cases hc:ltD (A.getD k default) x with
 | true=>rfl
 | false=>rw[<-hp];exact(iY.ntrans _ _ _ this hc).symm
theorem Lj{A:List aB}(h:Srt A){h':Nat}(hk:k<=h')(hh:h' < A.length)(x:aB)(hp:ltD x (A.getD h' default)=false):ltD x (A.getD k default)=false:=by exact iY.ntrans _ _ _ hp (h.get hk hh)
section
variable (b:Bool) (P A B Q:List aB)
theorem Fq(x:aB)(hB:Srt B)(ho:jV (P++x::(B++Q)))(hn:(P++x::(B++Q)).length<=1000000000000000):
  Sq b (cK (fun s=>(vO (P.length:Int) (P++x::(B++Q)) s).den) (((P.length+1:Nat):Int),((P.length+1+B.length:Nat):Int)))
   (sel (fun r:Int=>∃ n:Nat,r=((P.length+1+n:Nat):Int)/\n<=B.length/\(∀ k,k<n->ltD (B.getD k default) x=true)/\(∀ k,n<=k->k<B.length->ltD (B.getD k default) x=false)) (fun _=>False)):=by
 simp only[bX,dA]at hn;have hL:(P++x::(B++Q)).length=P.length+1+B.length+Q.length:=by simp; omega
 have e1:(P++x::(B++Q)).getD P.length default=x:=by rw[bH,aE (by omega)]; simp
 have e2:∀ k,k<B.length->(P++x::(B++Q)).getD (P.length+1+k) default=B.getD k default:=by intro k hk;rw[bH,aE (by omega),show P.length+1+k-P.length=k+1 by omega,List.getD_cons_succ,bH,aA hk]
 refine(Kk b _ (fun h=>ltD ((P++x::(B++Q)).getD h default) x) (P.length+1) (P.length+1+B.length) (by omega) (fun i j h1 h2 h3=>?_) (fun i h1 h2=>?_) (fun h k h1 h2 h3 h4=>?_)).imp ?_
 ·unfold vO;simp only[Tr.den];rw[pA (by omega)];simp only[aR];rw[hL];rw[aA (by simp; omega),aA (by omega),aA (by omega),aA (by omega),aA (by omega)];rw[vC _ _ (ho.get _) (ho.get _),e1];simp only[aJ];rw[show decide (dF ((P++x::(B++Q)).getD ((i+j) / 2) default) x<0)=ltD ((P++x::(B++Q)).getD ((i+j) / 2) default) x from rfl];cases ltD ((P++x::(B++Q)).getD ((i+j) / 2) default) x with
  | true=>simp only[fJ,aJ]; rw[aN (by omega)]
  | false=>simp only[dO,dL,aJ]
 ·unfold vO;simp only[Tr.den];rw[aE (by simp)]
 ·obtain⟨k',rfl⟩:∃ k',k=P.length+1+k':=⟨k-(P.length+1),by omega⟩;obtain⟨h',rfl⟩:∃ h',h=P.length+1+h':=⟨h-(P.length+1),by omega⟩;rw[e2 _ (by omega)]at h4 ⊢;exact Tt hB (by omega) (by omega) x h4
 ·intro z hz;cases z with
  | inr z=>exact hz
  | inl z=>
   obtain⟨n,rfl,h1,h2,h3,h4⟩:=hz;refine⟨n-(P.length+1),by omega,by omega,fun k hk=>?_,fun k hk1 hk2=>?_⟩
   ·rw[<-e2 k (by omega)]; exact h3 _ (by omega) (by omega)
   ·rw[<-e2 k hk2]; exact h4 _ (by omega) (by omega)
theorem Ae(y:aB)(hA:Srt A)(ho:jV (P++(A++y::Q)))(hn:(P++(A++y::Q)).length<=1000000000000000):
  Sq b (cK (fun s=>(uM ((P.length+A.length:Nat):Int) (P++(A++y::Q)) s).den) ((P.length:Int),((P.length+A.length:Nat):Int)))
   (sel (fun r:Int=>∃ n:Nat,r=((P.length+n:Nat):Int)/\n<=A.length/\(∀ k,k<n->ltD y (A.getD k default)=false)/\(∀ k,n<=k->k<A.length->ltD y (A.getD k default)=true)) (fun _=>False)):=by
 simp only[bX,dA]at hn;have hL:(P++(A++y::Q)).length=P.length+A.length+1+Q.length:=by simp; omega
 have e1:(P++(A++y::Q)).getD (P.length+A.length) default=y:=by rw[bH,aE (by omega),bH,aE (by omega)]; simp
 have e2:∀ k,k<A.length->(P++(A++y::Q)).getD (P.length+k) default=A.getD k default:=by intro k hk;rw[bH,aE (by omega),show P.length+k-P.length=k by omega,bH,aA hk]
 refine(Kk b _ (fun h=>!ltD y ((P++(A++y::Q)).getD h default)) P.length (P.length+A.length) (by omega) (fun i j h1 h2 h3=>?_) (fun i h1 h2=>?_) (fun h k h1 h2 h3 h4=>?_)).imp ?_
 ·unfold uM;simp only[Tr.den];rw[pA (by omega)];simp only[aR];rw[hL];rw[aA (by simp; omega),aA (by omega),aA (by omega),aA (by omega),aA (by omega)];rw[vC _ _ (ho.get _) (ho.get _),e1];simp only[aJ];rw[show decide (dF y ((P++(A++y::Q)).getD ((i+j) / 2) default)<0)=ltD y ((P++(A++y::Q)).getD ((i+j) / 2) default) from rfl];cases ltD y ((P++(A++y::Q)).getD ((i+j) / 2) default) with
  | true=>simp
  | false=>simp; rw[bE] <;> omega
 ·unfold uM;simp only[Tr.den];rw[aE (by simp)]
 ·obtain⟨k',rfl⟩:∃ k',k=P.length+k':=⟨k-P.length,by omega⟩;obtain⟨h',rfl⟩:∃ h',h=P.length+h':=⟨h-P.length,by omega⟩;rw[e2 _ (by omega)]at h4 ⊢;simp only[lN]at h4 ⊢;exact Lj hA (by omega) (by omega) y h4
 ·intro z hz;cases z with
  | inr z=>exact hz
  | inl z=>
   obtain⟨n,rfl,h1,h2,h3,h4⟩:=hz;refine⟨n-P.length,by omega,by omega,fun k hk=>?_,fun k hk1 hk2=>?_⟩
   ·have:=h3 (P.length+k) (by omega) (by omega);rw[e2 k (by omega)]at this; simpa using this
   ·have:=h4 (P.length+k) (by omega) (by omega);rw[e2 k hk2]at this; simpa using this
end
theorem oK(p q:Prop)[Decidable p][Decidable q]:(if decide p=true then some (decide q) else some false)=some (decide (p/\q)):=by by_cases hp:p <;> simp[hp]
theorem dV{n:Nat}(h:x∈l.take n):∃ k,k<n/\k<l.length/\x=l.getD k default:=by obtain⟨k,hk,rfl⟩:=Cq.1 h;simp only[cE]at hk;exact⟨k,by omega,by omega,by rw[bL (by omega)]; simp⟩
theorem dN{n:Nat}(h:x∈l.drop n):∃ k,n<=k/\k<l.length/\x=l.getD k default:=by obtain⟨k,hk,rfl⟩:=Cq.1 h;simp only[fC]at hk;exact⟨n+k,by omega,by omega,by rw[bL (by omega)]; simp⟩
theorem Srt.take{l:List aB}(h:Srt l)(n:Nat):Srt (l.take n):=zL (List.take_sublist _ _) h
theorem Srt.drop{l:List aB}(h:Srt l)(n:Nat):Srt (l.drop n):=zL (List.drop_sublist _ _) h
theorem yM{n:Nat}(h:Srt l)(h1:∀ k,k<n->k<l.length->ltD x (l.getD k default)=false)(h2:∀ k,n<=k->k<l.length->ltD (l.getD k default) x=false):Srt (l.take n++x::l.drop n):=by
 rw[show x::l.drop n=[x]++l.drop n from rfl,Srt.app,Srt.app];refine⟨h.take n,⟨sQ _ _,h.drop n,fun a ha y hy=>?_⟩,fun a ha y hy=>?_⟩
 ·simp only[bY]at ha;subst ha;obtain⟨k,h3,h4,rfl⟩:=dN hy;exact h2 k h3 h4
 ·obtain⟨k,h3,h4,rfl⟩:=dV ha;simp only[dH,bY]at hy;rcases hy with rfl | hy
  ·exact h1 k h3 h4
  ·obtain⟨k',h5,h6,rfl⟩:=dN hy;exact h.get (by omega) h6
theorem aDH{A B:List aB}(hA:Srt A)(hB:Srt B){u v:Nat}(hu:u<=A.length)(hv:v<=B.length)
  (h1:0<u->v<B.length->ltD (B.getD v default) (A.getD (u-1) default)=false)(h2:0<v->u<A.length->ltD (A.getD u default) (B.getD (v-1) default)=false)
  {C D:List aB}(hC:C.Perm (A.take u++B.take v))(hD:D.Perm (A.drop u++B.drop v))(sC:Srt C)(sD:Srt D):Srt (C++D)/\(C++D).Perm (A++B):=by
 constructor
 ·rw[Srt.app];refine⟨sC,sD,fun x hx y hy=>?_⟩;have hx:=hC.mem_iff.1 hx;have hy:=hD.mem_iff.1 hy;rw[dH]at hx hy;rcases hx with hx | hx
  ·obtain⟨i,i1,i2,rfl⟩:=dV hx;rcases hy with hy | hy
   ·obtain⟨j,j1,j2,rfl⟩:=dN hy;exact hA.get (by omega) j2
   ·obtain⟨j,j1,j2,rfl⟩:=dN hy;exact iY.ntrans _ _ _ (hB.get j1 j2) (iY.ntrans _ _ _ (h1 (by omega) (by omega)) (hA.get (i:=i) (j:=u-1) (by omega) (by omega)))
  ·obtain⟨i,i1,i2,rfl⟩:=dV hx;rcases hy with hy | hy
   ·obtain⟨j,j1,j2,rfl⟩:=dN hy;exact iY.ntrans _ _ _ (hA.get j1 j2) (iY.ntrans _ _ _ (h2 (by omega) (by omega)) (hB.get (i:=i) (j:=v-1) (by omega) (by omega)))
   ·obtain⟨j,j1,j2,rfl⟩:=dN hy;exact hB.get (by omega) j2
 ·refine(hC.append hD).trans ?_;have e:(A++B).Perm (A.take u++(A.drop u++(B.take v++B.drop v))):=by rw[iQ,<-cL,iQ]
  refine List.Perm.trans ?_ e.symm;rw[cL];refine zJ _ ?_;rw[<-cL,<-cL];exact List.Perm.append_right _ oY
section
variable (b:Bool) (P A B Q:List aB)
theorem Fp(hA:Srt A)(hB:Srt B)(ho:jV (P++(A++(B++Q))))(hn:(P++(A++(B++Q))).length<=1000000000000000)(i0 j0:Nat)(mid:Nat)(hmid:mid=(P.length+(P.length+A.length+B.length)) / 2)
  (h1:P.length<=i0)(h2:i0<=j0)(h3:j0<=P.length+A.length)(h4:j0<=mid)(h5:mid<=B.length+i0):
  Sq b (cK (fun s=>(pJ (P.length:Int) ((P.length+A.length:Nat):Int) ((P.length+A.length+B.length:Nat):Int) (P++(A++(B++Q))) s).den) ((i0:Int),(j0:Int)))
   (sel (fun r:Int=>∃ n:Nat,r=(n:Int)/\i0<=n/\n<=j0/\(∀ c,i0<=c->c<n->ltD (B.getD (mid-1-c) default) (A.getD (c-P.length) default)=false)/\(∀ c,n<=c->c<j0->ltD (B.getD (mid-1-c) default) (A.getD (c-P.length) default)=true)) (fun _=>False)):=by
 simp only[bX]at hn;have hL:(P++(A++(B++Q))).length=P.length+A.length+B.length+Q.length:=by simp; omega
 have e1:∀ k,P.length<=k->k<P.length+A.length->(P++(A++(B++Q))).getD k default=A.getD (k-P.length) default:=by intro k k1 k2;rw[bH,aE (by omega),bH,aA (by omega)]
 have e2:∀ k,P.length+A.length<=k->k<P.length+A.length+B.length->(P++(A++(B++Q))).getD k default=B.getD (k-(P.length+A.length)) default:=by
  intro k k1 k2;rw[bH,aE (by omega),bH,aE (by omega),bH,aA (by omega)]
  congr 1; omega
 refine(Kk b _ (fun c=>!ltD (B.getD (mid-1-c) default) (A.getD (c-P.length) default)) i0 j0 h2 (fun i j q1 q2 q3=>?_) (fun i q1 q2=>?_) (fun h k q1 q2 q3 q4=>?_)).imp ?_
 ·unfold pJ;simp only[Tr.den];rw[pA (i:=P.length) (j:=P.length+A.length+B.length) (by omega),<-hmid,pA (i:=i) (j:=j) (by omega)];have w1:IntKind.i64.wrap (IntKind.i64.wrap (IntKind.i64.wrap ((mid:Int)+((P.length+A.length:Nat):Int))-1)-(((i+j) / 2:Nat):Int))=((mid+(P.length+A.length)-1-(i+j) / 2:Nat):Int):=by rw[dQ (by omega),bE (n:=((mid+(P.length+A.length):Nat):Int)-1) (by omega) (by omega),bE (by omega) (by omega)];omega
  rw[w1];simp only[aR];rw[hL];rw[aA (by simp; omega),aA (by omega),aA (by omega),aA (by omega),aA (by omega)];rw[vC _ _ (ho.get _) (ho.get _)];simp only[aJ];rw[e1 ((i+j) / 2) (by omega) (by omega),e2 (mid+(P.length+A.length)-1-(i+j) / 2) (by omega) (by omega),show mid+(P.length+A.length)-1-(i+j) / 2-(P.length+A.length)=mid-1-(i+j) / 2 by omega];rw[show decide (dF (B.getD (mid-1-(i+j) / 2) default) (A.getD ((i+j) / 2-P.length) default)<0)=ltD (B.getD (mid-1-(i+j) / 2) default) (A.getD ((i+j) / 2-P.length) default) from rfl];cases ltD (B.getD (mid-1-(i+j) / 2) default) (A.getD ((i+j) / 2-P.length) default) with
  | true=>simp
  | false=>simp; rw[bE] <;> omega
 ·unfold pJ;simp only[Tr.den];rw[aE (by simp)]
 ·simp only[lN]at q4 ⊢;exact iY.ntrans _ _ _ (hB.get (i:=mid-1-h) (j:=mid-1-k) (by omega) (by omega)) (iY.ntrans _ _ _ q4 (hA.get (i:=k-P.length) (j:=h-P.length) (by omega) (by omega)))
 ·intro z hz;cases z with
  | inr z=>exact hz
  | inl z=>obtain⟨n,rfl,q1,q2,q3,q4⟩:=hz;refine⟨n,rfl,q1,q2,fun c c1 c2=>by simpa using q3 c c1 c2,fun c c1 c2=>by simpa using q4 c c1 c2⟩
end
theorem aUE(b:Bool)(f:Sc)(P A B Q:List aB)(hA0:A≠[])(hB0:B≠[])(hA:Srt A)(hB:Srt B)(ho:jV (P++(A++(B++Q))))(hn:(P++(A++(B++Q))).length<=1000000000000000)
  (hrec:∀ P' A' B' Q',A'≠[]->B'≠[]->Srt A'->Srt B'->jV (P'++(A'++(B'++Q')))->(P'++(A'++(B'++Q'))).length<=1000000000000000->A'.length+B'.length<A.length+B.length ->
   Sq b (f.1 (gQ P' A' B' Q')) (fun d=>∃ C,d=P'++(C++Q')/\C.Perm (A'++B')/\Srt C)):
  Sq b (Ao f (P.length:Int) ((P.length+A.length:Nat):Int) ((P.length+A.length+B.length:Nat):Int) (P++(A++(B++Q)))).den (fun d=>∃ C,d=P++(C++Q)/\C.Perm (A++B)/\Srt C):=by
 have hA1:0<A.length:=gR.2 hA0;have hB1:0<B.length:=gR.2 hB0;have hn':=hn;simp only[bX]at hn;have hL:(P++(A++(B++Q))).length=P.length+A.length+B.length+Q.length:=by simp; omega
 unfold Ao;simp only[Tr.den];rw[eT (n:=P.length+A.length) (m:=P.length) (by omega) (by omega),eT (n:=P.length+A.length+B.length) (m:=P.length+A.length) (by omega) (by omega)];by_cases c1:A.length=1
 ·obtain⟨x,rfl⟩:=Ja.1 c1;rw[aA (by simp)];simp only[List.singleton_append,eE]at *
  refine Sq.bind _ (Fq b P B Q x hB ho hn') (fun z hz=>?_);cases z with
  | inr z=>exact hz.elim
  | inl z=>
   obtain⟨n,rfl,h1,h2,h3⟩:=hz;simp only[sel];have hb:B++Q=B.take n++(B.drop n++Q):=by rw[<-cL,iQ]
   rw[hb,aDN P (B.take n) (B.drop n++Q) x _ (by simp; omega) (by rw[<-hb]; exact hn')];simp only[aJ,sel];refine aC.2 ⟨B.take n++x::B.drop n,by simp,?_,yM hB (fun k k1 k2=>zO (h2 k k1)) h3⟩;rw[List.perm_middle.congr_left,iQ]
 ·rw[aE (by simp; omega)];by_cases c2:B.length=1
  ·obtain⟨y,rfl⟩:=Ja.1 c2;rw[aA (eX (by simp))];simp only[List.singleton_append,eE]at *
   refine Sq.bind _ (Ae b P A Q y hA ho hn') (fun z hz=>?_);cases z with
   | inr z=>exact hz.elim
   | inl z=>
    obtain⟨n,rfl,h1,h2,h3⟩:=hz;simp only[sel];have hb:P++(A++y::Q)=(P++A.take n)++(A.drop n++y::Q):=by rw[cL,<-cL (A.take n),iQ]
    rw[hb,Qt (P++A.take n) (A.drop n) Q y _ _ (by simp; omega) (by simp; omega) (by rw[<-hb]; exact hn')];simp only[aJ,sel];refine aC.2 ⟨A.take n++y::A.drop n,by simp,?_,yM hA (fun k k1 k2=>h2 k k1) (fun k k1 k2=>zO (h3 k k1 k2))⟩;refine List.perm_middle.trans ?_;rw[iQ];exact(List.perm_append_singleton y A).symm
  ·rw[aE (by simp; omega)];rw[pA (i:=P.length) (j:=P.length+A.length+B.length) (by omega)];generalize hmid:(P.length+(P.length+A.length+B.length)) / 2=mid;have key:∀ (i0 j0:Nat),P.length<=i0->i0<=j0->j0<=P.length+A.length->j0<=mid->mid<=B.length+i0->(i0=P.length\/mid=B.length+i0)->(j0=P.length+A.length\/j0=mid) ->
     ∀ K:Int->Option (List aB),(∀ u v:Nat,u<=A.length->v<=B.length->u+v+P.length=mid->(0<u->v<B.length->ltD (B.getD v default) (A.getD (u-1) default)=false)->(0<v->u<A.length->ltD (A.getD u default) (B.getD (v-1) default)=false) ->
      Sq b (K ((P.length+u:Nat):Int)) (fun d=>∃ C,d=P++(C++Q)/\C.Perm (A++B)/\Srt C)) ->
     Sq b ((cK (fun s=>(pJ (P.length:Int) ((P.length+A.length:Nat):Int) ((P.length+A.length+B.length:Nat):Int) (P++(A++(B++Q))) s).den) ((i0:Int),(j0:Int))).bind (sel K some)) (fun d=>∃ C,d=P++(C++Q)/\C.Perm (A++B)/\Srt C):=by
    intro i0 j0 h1 h2 h3 h4 h5 h6 h7 K hK;refine Sq.bind _ (Fp b P A B Q hA hB ho hn' i0 j0 mid hmid.symm h1 h2 h3 h4 h5) (fun z hz=>?_);cases z with
    | inr z=>exact hz.elim
    | inl z=>
     obtain⟨n,rfl,q1,q2,q3,q4⟩:=hz;simp only[sel];have:=hK (n-P.length) (mid-n) (by omega) (by omega) (by omega) (fun u1 u2=>?_) (fun u1 u2=>?_)
     ·rwa [show P.length+(n-P.length)=n by omega]at this
     ·have:=q3 (n-1) (by omega) (by omega)
      rwa [show mid-1-(n-1)=mid-n by omega,show n-1-P.length=n-P.length-1 by omega]at this
     ·have:=q4 n (by omega) (by omega);rw[show mid-1-n=mid-n-1 by omega]at this;exact zO this
   have body:∀ u v:Nat,u<=A.length->v<=B.length->u+v+P.length=mid->(0<u->v<B.length->ltD (B.getD v default) (A.getD (u-1) default)=false)->(0<v->u<A.length->ltD (A.getD u default) (B.getD (v-1) default)=false) ->
     Sq b ((if decide (((P.length+u:Nat):Int)<((P.length+A.length:Nat):Int))=true then some (decide (((P.length+A.length:Nat):Int)<IntKind.i64.wrap (IntKind.i64.wrap ((mid:Int)+((P.length+A.length:Nat):Int))-((P.length+u:Nat):Int)))) else some false).bind fun j27=>
      (if j27=true then (wH ((P.length+u:Nat):Int) ((P.length+A.length:Nat):Int) (IntKind.i64.wrap (IntKind.i64.wrap ((mid:Int)+((P.length+A.length:Nat):Int))-((P.length+u:Nat):Int))) (P++(A++(B++Q)))).bind (fun r=>some r) else some (P++(A++(B++Q)))).bind fun j28=>
      (if decide ((P.length:Int)<((P.length+u:Nat):Int))=true then some (decide (((P.length+u:Nat):Int)<(mid:Int))) else some false).bind fun j30=>
      (if j30=true then (f.1 ((P.length:Int),((P.length+u:Nat):Int),(mid:Int),j28)).bind (fun r=>some r) else some j28).bind fun j31=>
      (if decide ((mid:Int)<IntKind.i64.wrap (IntKind.i64.wrap ((mid:Int)+((P.length+A.length:Nat):Int))-((P.length+u:Nat):Int)))=true then some (decide (IntKind.i64.wrap (IntKind.i64.wrap ((mid:Int)+((P.length+A.length:Nat):Int))-((P.length+u:Nat):Int))<((P.length+A.length+B.length:Nat):Int))) else some false).bind fun j33=>
      (if j33=true then (f.1 ((mid:Int),IntKind.i64.wrap (IntKind.i64.wrap ((mid:Int)+((P.length+A.length:Nat):Int))-((P.length+u:Nat):Int)),((P.length+A.length+B.length:Nat):Int),j31)).bind (fun r=>some r) else some j31).bind fun j34=>some j34)
      (fun d=>∃ C,d=P++(C++Q)/\C.Perm (A++B)/\Srt C):=by
    intro u v hu hv huv f1 f2;have w2:IntKind.i64.wrap (IntKind.i64.wrap ((mid:Int)+((P.length+A.length:Nat):Int))-((P.length+u:Nat):Int))=((P.length+A.length+v:Nat):Int):=by rw[dQ (by omega),eT (by omega) (by omega)]; congr 1; omega
    rw[w2];simp only[oK,aJ];have eA:=iQ u A;have eB:=iQ v B;have lA1:(A.take u).length=u:=by simp; omega
    have lB1:(B.take v).length=v:=by simp; omega
    have lA2:(A.drop u).length=A.length-u:=by simp
    have lB2:(B.drop v).length=B.length-v:=by simp
    have hs:P++(A++(B++Q))=(P++A.take u)++(A.drop u++(B.take v++(B.drop v++Q))):=by
     conv=>lhs; rw[<-eA,<-eB]
     simp only[cL]
    refine Sq.bind (fun d=>d=P++(A.take u++(B.take v++(A.drop u++(B.drop v++Q))))) ?_ (fun j28 h28=>?_)
    ·by_cases hc:(((P.length+u:Nat):Int)<((P.length+A.length:Nat):Int))/\(((P.length+A.length:Nat):Int)<((P.length+A.length+v:Nat):Int))
     ·rw[aA (by simpa using hc)];rw[hs]at hn' ⊢;have h:=Kh b (P++A.take u) (A.drop u) (B.take v) (B.drop v++Q) (fun h0=>by have:=congrArg List.length h0; simp only[fC,fG]at this; omega) (fun h0=>by have:=congrArg List.length h0; simp only[cE,fG]at this; omega)
       ((P.length+u:Nat):Int) ((P.length+A.length:Nat):Int) ((P.length+A.length+v:Nat):Int) (by simp; omega) (by simp; omega) (by simp; omega) hn'
      refine Sq.bind _ h (fun d hd=>aC.2 ?_);rw[hd]; simp only[cL]
     ·rw[aE (by simpa using hc)];refine aC.2 ?_;rw[hs];by_cases hu':u=A.length
      ·have:A.drop u=[]:=by subst hu'; simp
       rw[this]; simp
      ·have:v=0:=by omega
       subst this; simp
    subst h28;have oD:jV (P++(A.take u++(B.take v++(A.drop u++(B.drop v++Q))))):=by refine ho.perm ?_;rw[hs];simp only[cL];exact zJ _ (zJ _ (List.perm_append_comm_assoc _ _ _))
    refine Sq.bind (fun d=>∃ C,d=P++(C++(A.drop u++(B.drop v++Q)))/\C.Perm (A.take u++B.take v)/\Srt C) ?_ (fun j31 h31=>?_)
    ·by_cases hc:((P.length:Int)<((P.length+u:Nat):Int))/\(((P.length+u:Nat):Int)<(mid:Int))
     ·rw[aA (by simpa using hc)];have e:((P.length:Int),((P.length+u:Nat):Int),(mid:Int),P++(A.take u++(B.take v++(A.drop u++(B.drop v++Q)))))=gQ P (A.take u) (B.take v) (A.drop u++(B.drop v++Q)):=by unfold gQ; rw[lA1,lB1,<-huv]; simp; omega
      rw[e];refine Sq.bind _ (hrec _ _ _ _ (fun h0=>by have:=congrArg List.length h0; simp only[cE,fG]at this; omega) (fun h0=>by have:=congrArg List.length h0; simp only[cE,fG]at this; omega) (hA.take u) (hB.take v) oD (by simp; omega) (by omega)) (fun d hd=>aC.2 hd)
     ·rw[aE (by simpa using hc)];refine aC.2 ⟨A.take u++B.take v,by simp,.refl _,?_⟩;by_cases hu':u=0
      ·subst hu'; simpa using hB.take v
      ·have:v=0:=by omega
       subst this; simpa using hA.take u
    obtain⟨C,rfl,pC,sC⟩:=h31;have lC:C.length=u+v:=by rw[pC.length_eq]; simp; omega
    have fin:∀ D:List aB,D.Perm (A.drop u++B.drop v)->Srt D->Srt (C++D)/\(C++D).Perm (A++B):=fun D pD sD=>aDH hA hB hu hv f1 f2 pC pD sC sD;refine Sq.bind (fun d=>∃ C,d=P++(C++Q)/\C.Perm (A++B)/\Srt C) ?_ (fun j34 h34=>aC.2 h34);by_cases hc:((mid:Int)<((P.length+A.length+v:Nat):Int))/\(((P.length+A.length+v:Nat):Int)<((P.length+A.length+B.length:Nat):Int))
    ·rw[aA (by simpa using hc)];have e:((mid:Int),((P.length+A.length+v:Nat):Int),((P.length+A.length+B.length:Nat):Int),P++(C++(A.drop u++(B.drop v++Q))))=gQ (P++C) (A.drop u) (B.drop v) Q:=by unfold gQ; rw[lA2,lB2,<-huv]; simp; omega
     rw[e];refine Sq.bind _ (hrec _ _ _ _ (fun h0=>by have:=congrArg List.length h0; simp only[fC,fG]at this; omega) (fun h0=>by have:=congrArg List.length h0; simp only[fC,fG]at this; omega) (hA.drop u) (hB.drop v) ?_ (by simp; omega) (by omega)) (fun d hd=>?_)
     ·refine oD.perm ?_;rw[cL];refine zJ _ ?_;rw[<-cL];exact List.Perm.append_right _ pC.symm
     ·obtain⟨D,rfl,pD,sD⟩:=hd;exact aC.2 ⟨C++D,by simp,(fin D pD sD).2,(fin D pD sD).1⟩
    ·rw[aE (by simpa using hc)];have:=fin (A.drop u++B.drop v) (.refl _) (by
      by_cases hu':u=A.length
      ·have:A.drop u=[]:=by subst hu'; simp
       rw[this]; simpa using hB.drop v
      ·have:B.drop v=[]:=by rw[show v=B.length by omega]; simp
       rw[this]; simpa using hA.drop u)
     exact aC.2 ⟨C++(A.drop u++B.drop v),by simp,this.2,this.1⟩
   by_cases hm:mid<P.length+A.length
   ·rw[aA (by simp; omega)];simp only[aJ];rw[dQ (n:=mid) (m:=P.length+A.length) (by omega),eT (n:=mid+(P.length+A.length)) (by omega) (by omega),<-dQ (n:=mid) (m:=P.length+A.length) (by omega)];exact key (mid+(P.length+A.length)-(P.length+A.length+B.length)) mid (by omega) (by omega) (by omega) (by omega) (by omega) (by omega) (by omega) _ body
   ·rw[aE (by simp; omega)];simp only[aJ];exact key P.length (P.length+A.length) (by omega) (by omega) (by omega) (by omega) (by omega) (by omega) (by omega) _ body
theorem Oc(P A B Q:List aB)(hA0:A≠[])(hB0:B≠[])(hA:Srt A)(hB:Srt B)(ho:jV (P++(A++(B++Q))))(hn:(P++(A++(B++Q))).length<=1000000000000000):
  Sp (Vl (P.length:Int) ((P.length+A.length:Nat):Int) ((P.length+A.length+B.length:Nat):Int) (P++(A++(B++Q)))) (fun d=>∃ C,d=P++(C++Q)/\C.Perm (A++B)/\Srt C):=by
 have h:=mJ (C:=fun (a:Int×Int×Int×List aB) (x:Option (List aB))=>fD Proofs.Tryz.prog 272 [.own 30000,.t (.int .i64 (a.1)),.t (.int .i64 (a.2.1)),.t (.int .i64 (a.2.2.1)),.fn (.func 183) 0 []] [(30000,.arr 50 3 (a.2.2.2.length) (eF aH a.2.2.2))] [30000] x (fun (y:List aB)=>.tup []) (fun (y:List aB)=>[(30000,.arr 50 3 (y.length) (eF aH y))]))
  (fun a=>⟨bS Proofs.Tryz.func272 (by kernel_rfl),fun _ h=>nomatch h⟩) (fun rec a=>Ao rec a.1 a.2.1 a.2.2.1 a.2.2.2) (fun rec a=>Jd rec a.1 a.2.1 a.2.2.1 a.2.2.2)
  aXG (fun a=>(a.2.2.1-a.1).toNat) aSQ (fun b f a ha hrec=>?_) true (gQ P A B Q) ⟨P,A,B,Q,rfl,hA0,hB0,hA,hB,ho,hn⟩
 ·exact h.imp fun d hd=>hd P A B Q rfl
 ·obtain⟨P,A,B,Q,rfl,hA0,hB0,hA,hB,ho,hn⟩:=ha;refine(aUE b f P A B Q hA0 hB0 hA hB ho hn (fun P' A' B' Q' a1 a2 a3 a4 a5 a6 a7=>?_)).imp fun d hd P' A' B' Q' he=>?_
  ·exact(hrec (gQ P' A' B' Q') ⟨P',A',B',Q',rfl,a1,a2,a3,a4,a5,a6⟩ (by simp only[gQ]; omega)).imp fun d hd=>hd P' A' B' Q' rfl
  ·obtain⟨rfl,rfl,rfl,rfl⟩:=zX he;exact hd
def eW(a b:Nat)(l:List aB):Prop:=∀ i j,a<=i->i<j->j<b->ltD (l.getD j default) (l.getD i default)=false
structure PI (a b:Nat)(l d:List aB):Prop where
 len:d.length=l.length
 out:∀ k,k<a\/b<=k->d.getD k default=l.getD k default
 perm:d.Perm l
theorem eW.congr{b:Nat}{d:List aB}(h:eW a b l)(he:∀ k,a<=k->k<b->d.getD k default=l.getD k default):eW a b d:=by intro i j h1 h2 h3;rw[he i h1 (by omega),he j (by omega) h3];exact h i j h1 h2 h3
theorem eW.sub{b a' b':Nat}(h:eW a b l)(h1:a<=a')(h2:b'<=b):eW a' b' l:=fun i j q1 q2 q3=>h i j (by omega) q2 (by omega)
theorem tS(a m b:Nat)(l:List aB)(h1:a<m)(h2:m<b)(h3:b<=l.length)(ha:eW a m l)(hb:eW m b l)(ho:jV l)(hn:l.length<=1000000000000000):
  Sp (Vl (a:Int) (m:Int) (b:Int) l) (fun d=>PI a b l d/\eW a b d):=by
 have e:l=l.take a++((l.drop a).take (m-a)++((l.drop m).take (b-m)++l.drop b)):=by
  have e1:l.drop m=(l.drop m).take (b-m)++l.drop b:=by
   conv=>lhs; rw[<-iQ (b-m) (l.drop m)]
   rw[xD,show m+(b-m)=b by omega]
  have e2:l.drop a=(l.drop a).take (m-a)++l.drop m:=by
   conv=>lhs; rw[<-iQ (m-a) (l.drop a)]
   rw[xD,show a+(m-a)=m by omega]
  rw[<-e1,<-e2,iQ]
 have lP:(l.take a).length=a:=by simp; omega
 have lA:((l.drop a).take (m-a)).length=m-a:=by simp; omega
 have lB:((l.drop m).take (b-m)).length=b-m:=by simp; omega
 have gA:∀ k,k<m-a->((l.drop a).take (m-a)).getD k default=l.getD (a+k) default:=by intro k hk;rw[bL (by omega),bL (by omega)]; simp
 have gB:∀ k,k<b-m->((l.drop m).take (b-m)).getD k default=l.getD (m+k) default:=by intro k hk;rw[bL (by omega),bL (by omega)]; simp
 have h:=Oc (l.take a) ((l.drop a).take (m-a)) ((l.drop m).take (b-m)) (l.drop b) (fun h0=>by rw[h0]at lA; simp at lA; omega) (fun h0=>by rw[h0]at lB; simp at lB; omega)
  (rC fun i j hij hj=>by rw[gA i (by omega),gA j (by omega)]; exact ha _ _ (by omega) (by omega) (by omega))
  (rC fun i j hij hj=>by rw[gB i (by omega),gB j (by omega)]; exact hb _ _ (by omega) (by omega) (by omega)) (by rw[<-e]; exact ho) (by rw[<-e]; exact hn)
 rw[lP,lA,lB,<-e,show a+(m-a)=m by omega,show m+(b-m)=b by omega]at h;refine h.imp fun d hd=>?_;obtain⟨C,rfl,pC,sC⟩:=hd;have lC:C.length=b-a:=by rw[pC.length_eq,bX,lA,lB]; omega
 have lD:(l.drop b).length=l.length-b:=by simp
 refine⟨⟨by rw[bX,bX,lP,lC,lD]; omega,fun k hk=>?_,?_⟩,?_⟩
 ·rcases hk with hk | hk
  ·rw[bH,aA (by omega),bL (by omega)];by_cases hl:k<l.length
   ·rw[bL hl]; simp
   ·omega
  ·rw[bH,aE (by omega),bH,aE (by omega),lP,lC];by_cases hl:k<l.length
   ·rw[bL (by omega),bL hl]; simp; congr 1; omega
   ·rw[cF,xE (by omega),cF,xE (by omega)]
 ·conv=>rhs; rw[e]
  refine zJ _ ?_;rw[<-cL];exact List.Perm.append_right _ pC
 ·intro i j q1 q2 q3;rw[bH,aE (by omega),bH,aA (by omega),bH,aE (by omega),bH,aA (by omega)];exact sC.get (by omega) (by omega)
theorem xO(a b:Nat)(l:List aB)(hab:a<=b)(hb:b<=l.length)(ho:jV l)(hn:l.length<=1000000000000000):Sp (Om (a:Int) (b:Int) l) (fun d=>PI a b l d/\eW a b d):=by
 refine Sq.of_eq (aAA a b l hb hab hn ho) ?_;have h:=Sort.insertionSort_holds iY l.toArray a b hab (by simpa using hb);obtain⟨⟨h1,h2,h3⟩,h4⟩:=h;have g:∀ (k:Nat),(Sort.insertionSort ltD l.toArray a b).toList.getD k default=(Sort.insertionSort ltD l.toArray a b)[k]!:=fun k=>by rw[<-fX]
 refine⟨⟨by simpa using h1,fun k hk=>by rw[g,h2 k hk,fX],?_⟩,fun i j q1 q2 q3=>by rw[g,g]; exact h4 i j q1 q2 q3⟩;have h5:=Sort.permIn_mono _ _ a b 0 l.length (by omega) (by omega) (by simp) (show Sort.PermIn a b l.toArray (Sort.insertionSort ltD l.toArray a b) from ⟨h1,h2,h3⟩);have h6:=h5.2.2;rw[show l.length=l.toArray.size by simp]at h6;rw[show (Sort.insertionSort ltD l.toArray a b).extract 0 l.toArray.size=Sort.insertionSort ltD l.toArray a b by rw[<-h1]; simp]at h6;simpa using h6
theorem jB{w c:Nat}(ha:w∣a)(hc:w∣c)(h:c<a):c+w<=a:=by have:=Nat.le_of_dvd (by omega) (Nat.dvd_sub ha hc);omega
theorem aAG(l:List aB)(ho:jV l)(hn:l.length<=100000000000000):Sp (Uc (l.length:Int) l) (fun d=>d.Perm l/\Srt d):=by
 unfold Uc Uh;simp only[Tr.den,bU];refine Sq.while (fun s:List aB×Int×Int=>∃ a:Nat,s.2.1=a/\s.2.2=((a+20:Nat):Int)/\20∣a/\a<=l.length/\s.1.Perm l/\∀ c,20∣c->c+20<=a->eW c (c+20) s.1) (fun s=>(l.length-s.2.1).toNat) (fun s hs=>?_)
  ⟨0,rfl,rfl,by simp,by omega,.refl _,fun c h1 h2=>by omega⟩
 obtain⟨d,i,j⟩:=s;obtain⟨a,h1,h2,h3,h4,h5,h6⟩:=hs;simp only at h1 h2 h5 h6;subst h1 h2;have hlen:=h5.length_eq;unfold Kg;simp only[Tr.den];by_cases hc:a+20<=l.length
 ·rw[aA (by simp; omega)];refine bU.2 ((xO a (a+20) d (by omega) (by omega) (ho.perm h5.symm) (by omega)).imp fun d' hd'=>?_);rw[bE (by omega) (by omega)];refine aC.2 ⟨⟨a+20,rfl,by simp,?_,hc,hd'.1.perm.trans h5,fun c q1 q2=>?_⟩,by simp only; omega⟩
  ·omega
  ·by_cases hca:c<a
   ·exact(h6 c q1 (jB h3 q1 hca)).congr fun k k1 k2=>hd'.1.out k (.inl (by have:=jB h3 q1 hca; omega))
   ·have:c=a:=by omega
    subst this; exact hd'.2
 ·rw[aE (by simp; omega)];refine aC.2 ?_;simp only[sel];refine bU.2 ((xO a l.length d h4 (by omega) (ho.perm h5.symm) (by omega)).imp fun d2 hd2=>?_);obtain⟨p2,s2⟩:=hd2;have hp2:d2.Perm l:=p2.perm.trans h5;have b2:∀ c,20∣c->eW c (min (c+20) l.length) d2:=by
   intro c hc';by_cases hca:c<a
   ·have:=jB h3 hc' hca;exact((h6 c hc' this).congr fun k k1 k2=>p2.out k (.inl (by omega))).sub (by omega) (by omega)
   ·exact s2.sub (by omega) (by omega)
  clear h6 p2 s2;refine bU.2 ?_;refine Sq.while (fun s:List aB×Int=>∃ w:Nat,s.2=w/\0<w/\w<=400000000000000/\s.1.Perm l/\∀ c,w∣c->eW c (min (c+w) l.length) s.1) (fun s=>(l.length-s.2).toNat) (fun s hs=>?_) ⟨20,rfl,by omega,by omega,hp2,b2⟩;obtain⟨d,i⟩:=s;obtain⟨w,k1,k2,k3,k4,k5⟩:=hs;simp only at k1 k4 k5;subst k1;unfold Jz;simp only[Tr.den];by_cases hw:w<l.length
  ·rw[aA (by simp; omega)];have e2w:IntKind.i64.wrap (2*(w:Int))=((2*w:Nat):Int):=by rw[bE] <;> omega
   rw[e2w];refine bU.2 ?_;refine Sq.while (fun s:List aB×Int×Int=>∃ a:Nat,s.2.1=a/\s.2.2=((a+2*w:Nat):Int)/\(2*w)∣a/\a<=l.length/\s.1.Perm l/\(∀ c,(2*w)∣c->c+2*w<=a->eW c (c+2*w) s.1)/\∀ c,w∣c->a<=c->eW c (min (c+w) l.length) s.1) (fun s=>(l.length-s.2.1).toNat) (fun s hs=>?_)
    ⟨0,rfl,by simp,by simp,by omega,k4,fun c q1 q2=>by omega,fun c q1 q2=>k5 c q1⟩
   obtain⟨d,i,j⟩:=s;obtain⟨a,g1,g2,g3,g4,g5,g6,g7⟩:=hs;simp only at g1 g2 g5 g6 g7;subst g1 g2;have hlen:=g5.length_eq;have gw:w∣a:=Nat.dvd_trans ⟨2,by omega⟩ g3;have gw':w∣a+w:=Nat.dvd_add gw (Nat.dvd_refl w);unfold Jv;simp only[Tr.den];by_cases hb:a+2*w<=l.length
   ·rw[aA (by simp; omega),dQ (by omega),e2w,dQ (by omega)];refine bU.2 ((tS a (a+w) (a+2*w) d (by omega) (by omega) (by omega) ((g7 a gw (by omega)).sub (by omega) (by omega)) ((g7 (a+w) gw' (by omega)).sub (by omega) (by omega)) (ho.perm g5.symm) (by omega)).imp fun d' hd'=>?_);refine aC.2 ⟨⟨a+2*w,rfl,rfl,Nat.dvd_add g3 (Nat.dvd_refl _),hb,hd'.1.perm.trans g5,fun c q1 q2=>?_,fun c q1 q2=>?_⟩,by simp only; omega⟩
    ·by_cases hca:c<a
     ·have:=jB g3 q1 hca;exact(g6 c q1 this).congr fun k k1 k2=>hd'.1.out k (.inl (by omega))
     ·have:c=a:=by omega
      subst this; exact hd'.2
    ·exact(g7 c q1 (by omega)).congr fun k k1 k2=>hd'.1.out k (.inr (by omega))
   ·rw[aE (by simp; omega)];refine aC.2 ?_;simp only[sel];rw[dQ (by omega)];refine Sq.bind (fun d'=>d'.Perm l/\eW a l.length d'/\∀ k,k<a->d'.getD k default=d.getD k default) ?_ (fun d' hd'=>?_)
    ·by_cases hm:a+w<l.length
     ·rw[aA (by simp; omega)];refine bU.2 ((tS a (a+w) l.length d (by omega) (by omega) (by omega) ((g7 a gw (by omega)).sub (by omega) (by omega)) ((g7 (a+w) gw' (by omega)).sub (by omega) (by omega)) (ho.perm g5.symm) (by omega)).imp fun d' hd'=>?_);exact aC.2 ⟨hd'.1.perm.trans g5,hd'.2,fun k hk=>hd'.1.out k (.inl hk)⟩
     ·rw[aE (by simp; omega)];exact aC.2 ⟨g5,(g7 a gw (by omega)).sub (by omega) (by omega),fun _ _=>rfl⟩
    ·obtain⟨q1,q2,q3⟩:=hd';rw[show IntKind.i64.wrap ((w:Int)*2)=((2*w:Nat):Int) by rw[bE] <;> omega];refine aC.2 ⟨⟨2*w,rfl,by omega,by omega,q1,fun c hc'=>?_⟩,by simp only; omega⟩;by_cases hca:c<a
     ·have:=jB g3 hc' hca;exact((g6 c hc' this).congr fun k k1 k2=>q3 k (by omega)).sub (by omega) (by omega)
     ·exact q2.sub (by omega) (by omega)
  ·rw[aE (by simp; omega)];refine aC.2 ?_;simp only[sel];refine aC.2 ⟨k4,rC fun i j hij hj=>?_⟩;have:=k5 0 (by simp);rw[k4.length_eq]at hj;exact this i j (by omega) hij (by omega)
theorem aGF(l:List aB)(ho:jV l)(hn:l.length<=100000000000000):Sp (aET l) (fun d=>d.Perm l/\Srt d):=by unfold aET aIJ;simp only[Tr.den,bU];exact(aAG l ho hn).imp fun d hd=>aC.2 hd
abbrev Pl:=Int×List aF
def wt(p:Pl->Bool):List aB->Int
 | []=>0
 | x::l=>(if p (pl x)=true then x.N else 0)+wt p l
theorem gE(p:Pl->Bool)(l r:List aB):wt p (l++r)=wt p l+wt p r:=by
 induction l with
 | nil=>simp[wt]
 | cons x l ih=>simp only[rU,wt,ih]; omega
theorem Xm(p:Pl->Bool)(h:l.Perm r):wt p l=wt p r:=by
 induction h with
 | nil=>rfl
 | cons x _ ih=>simp only[wt,ih]
 | swap x y l=>simp only[wt]; omega
 | trans _ _ h1 h2=>exact h1.trans h2
abbrev W (n:Int):Int:=IntKind.i64.wrap n
def jS(l r:List aB):Prop:=∀ p,W (wt p l)=W (wt p r)
theorem wD{a b c d:Int}(h:W a=W c)(h':W b=W d):W (a+b)=W (c+d):=by
 have e1:W (a+b)=W (W a+W b):=by show IntKind.i64.wrap _=IntKind.i64.wrap _; rw[zR,Jn]
 have e2:W (c+d)=W (W c+W d):=by show IntKind.i64.wrap _=IntKind.i64.wrap _; rw[zR,Jn]
 rw[e1,e2,h,h']
theorem jS.refl(l:List aB):jS l l:=fun _=>rfl
theorem jS.symm{l r:List aB}(h:jS l r):jS r l:=fun p=>(h p).symm
theorem jS.trans{l r s:List aB}(h:jS l r)(h':jS r s):jS l s:=fun p=>(h p).trans (h' p)
theorem jS.app{l' r':List aB}(h:jS l r)(h':jS l' r'):jS (l++l') (r++r'):=fun p=>by rw[gE,gE]; exact wD (h p) (h' p)
theorem jS.of_perm(h:l.Perm r):jS l r:=fun p=>by rw[Xm p h]
def rY(n:Int):Prop:=-9223372036854775808<=n/\n<=9223372036854775807
theorem aDO{n:Int}(h:rY n):W n=n:=bE h.1 h.2
theorem aLV(n:Int):rY (W n):=Nl n
structure Can (l:List aB):Prop where
 lt:l.Pairwise (fun x y=>dF x y<0)
 nz:∀ x,x∈l->x.N≠0
 n64:∀ x,x∈l->rY x.N
theorem Can.nil:Can []:=⟨.nil,by simp,by simp⟩
theorem Can.tail(h:Can (x::l)):Can l:=⟨(lT.1 h.lt).2,fun y hy=>h.nz y (cH _ hy),fun y hy=>h.n64 y (cH _ hy)⟩
theorem Can.head(h:Can (x::l)):∀ y,y∈l->dF x y<0:=(lT.1 h.lt).1
theorem vL{p:Pl->Bool}(h:∀ y,y∈l->p (pl y)=false):wt p l=0:=by
 induction l with
 | nil=>rfl
 | cons x l ih=>simp only[wt,h x (cC),ih fun y hy=>h y (cH _ hy)]; rfl
theorem yU(h:dF x y<0):pl x≠pl y:=by intro he;rw[vQ,he,(TO.place.eq _ _).2 rfl]at h;omega
theorem lH:dF x y=0↔pl x=pl y:=TO.place.eq (pl x) (pl y)
theorem xY:0<dF x y↔dF y x<0:=(TO.place.sw (pl y) (pl x)).symm
def at1(q:Pl):Pl->Bool:=fun r=>Ux q r==0
theorem Wd{q r:Pl}:at1 q r=true↔q=r:=by unfold at1; rw[fB]; exact TO.place.eq _ _
theorem aFH(q:Pl):at1 q q=true:=Wd.2 rfl
theorem Su{q r:Pl}(h:q≠r):at1 q r=false:=by
 cases hc:at1 q r with
 | false=>rfl
 | true=>exact absurd (Wd.1 hc) h
theorem Can.wt_mem(h:Can l)(hx:x∈l):wt (at1 (pl x)) l=x.N:=by
 induction l with
 | nil=>simp at hx
 | cons y l ih=>
  simp only[wt];rcases aU.1 hx with rfl | hx'
  ·rw[aA (aFH _),vL fun z hz=>Su (yU (h.head z hz))]; omega
  ·rw[ih h.tail hx',aE (by rw[Su (Ne.symm (yU (h.head x hx')))]; simp)]; omega
theorem Can.wt_not{q:Pl}(hx:∀ y,y∈l->pl y≠q):wt (at1 q) l=0:=vL fun y hy=>Su (Ne.symm (hx y hy))
theorem aUI(h:pl x=pl y)(hn:x.N=y.N):x=y:=by cases x; cases y;simp only[pl,gO]at h hn;obtain⟨rfl,rfl⟩:=h;subst hn; rfl
theorem Can.ext:∀ {l r:List aB},Can l->Can r->jS l r->l=r:=by
 have key:∀ {x:aB} {l r:List aB},Can (x::l)->jS (x::l) r->(∀ y,y∈r->dF x y<0)->False:=by intro x l r hl hs hy;have h1:=hs (at1 (pl x));rw[hl.wt_mem cC,Can.wt_not (fun y h=>Ne.symm (yU (hy y h)))]at h1;rw[aDO (hl.n64 x cC)]at h1;exact hl.nz x cC h1
 intro l
 induction l with
 | nil=>
  intro r _ hr hs;cases r with
  | nil=>rfl
  | cons y r=>exact(key hr hs.symm (by simp)).elim
 | cons x l ih=>
  intro r hl hr hs;cases r with
  | nil=>exact(key hl hs (by simp)).elim
  | cons y r=>
   by_cases h1:dF x y<0
   ·exact(key hl hs fun z hz=>by
     rcases aU.1 hz with rfl | hz
     ·exact h1
     ·exact yA h1 (hr.head z hz)).elim
   ·by_cases h2:dF y x<0
    ·exact(key hr hs.symm fun z hz=>by
      rcases aU.1 hz with rfl | hz
      ·exact h2
      ·exact yA h2 (hl.head z hz)).elim
    ·have h3:dF x y=0:=by have:=xY (x:=x) (y:=y);omega
     have hp:=lH.1 h3;have hn:x.N=y.N:=by have h4:=hs (at1 (pl x));rw[hl.wt_mem cC,hp,hr.wt_mem cC,aDO (hl.n64 x cC),aDO (hr.n64 y cC)]at h4;exact h4
     have hxy:=aUI hp hn;subst hxy;rw[ih hl.tail hr.tail fun p=>?_];have h5:=hs p;simp only[wt]at h5;have h6:=wD (a:=-(if p (pl x)=true then x.N else 0)) (c:=-(if p (pl x)=true then x.N else 0)) rfl h5
     rwa [Int.neg_add_cancel_left,Int.neg_add_cancel_left]at h6
def rX(d:aB):List aB->List aB
 | []=>if d.N=0 then [] else [d]
 | x::l=>if dF d x<0 then (if d.N=0 then x::l else d::x::l) else if dF d x=0 then (if W (x.N+d.N)=0 then l else ⟨x.Time,x.Row,W (x.N+d.N)⟩::l) else x::rX d l
def cons(l:List aB):List aB:=l.foldr rX []
theorem Zg(d:aB)(p:Pl->Bool):∀ l,W (wt p (rX d l))=W (wt p (d::l))
 | []=>by
  simp only[rX,wt];by_cases h:d.N=0
  ·rw[aA h,h]; simp[wt]
  ·rw[aE h]; rfl
 | x::l=>by
  simp only[rX];by_cases h1:dF d x<0
  ·rw[aA h1];by_cases h:d.N=0
   ·rw[aA h]; simp only[wt,h]; congr 1; split <;> omega
   ·rw[aE h]
  ·rw[aE h1];by_cases h2:dF d x=0
   ·rw[aA h2];have hp:=lH.1 h2;have e:wt p (d::x::l)=(if p (pl x)=true then x.N+d.N else 0)+wt p l:=by simp only[wt,hp]; split <;> omega
    rw[e];by_cases h3:W (x.N+d.N)=0
    ·rw[aA h3];by_cases hpx:p (pl x)=true
     ·rw[aA hpx];have h0:W (x.N+d.N)=W 0:=by rw[h3]; rfl
      have:=wD h0 (rfl:W (wt p l)=W (wt p l));rw[this]; simp
     ·rw[aE hpx]; simp
    ·rw[aE h3];simp only[wt];rw[show pl (⟨x.Time,x.Row,W (x.N+d.N)⟩:aB)=pl x from rfl];by_cases hpx:p (pl x)=true
     ·rw[aA hpx,aA hpx]; exact zR _ _
     ·rw[aE hpx,aE hpx]
   ·rw[aE h2];have ih:=Zg d p l;have:W (wt p (x::rX d l))=W (wt p (x::d::l)):=by simp only[wt]at ih ⊢;exact wD rfl ih
    rw[this];simp only[wt]; congr 1; omega
theorem Fz{d:aB}:∀ {l:List aB} {y:aB},y∈rX d l->pl y=pl d\/∃ z,z∈l/\pl y=pl z
 | [],y,h=>by
  simp only[rX]at h;split at h
  ·simp at h
  ·simp at h; exact .inl (by rw[h])
 | x::l,y,h=>by
  simp only[rX]at h;split at h
  ·split at h
   ·exact .inr ⟨y,h,rfl⟩
   ·rcases aU.1 h with rfl | h
    ·exact .inl rfl
    ·exact .inr ⟨y,h,rfl⟩
  ·split at h
   ·rename_i h2;split at h
    ·exact .inr ⟨y,cH _ h,rfl⟩
    ·rcases aU.1 h with rfl | h
     ·exact .inr ⟨x,cC,rfl⟩
     ·exact .inr ⟨y,cH _ h,rfl⟩
   ·rcases aU.1 h with rfl | h
    ·exact .inr ⟨y,cC,rfl⟩
    ·rcases Fz h with h | ⟨z,hz,he⟩
     ·exact .inl h
     ·exact .inr ⟨z,cH _ hz,he⟩
theorem mT{x' y':aB}(h:pl x=pl x')(h':pl y=pl y'):dF x y=dF x' y':=by rw[vQ,vQ,h,h']
theorem Qi{d:aB}(hd:rY d.N):∀ {l:List aB},Can l->Can (rX d l)
 | [],_=>by
  simp only[rX];split
  ·exact .nil
  ·rename_i h;exact⟨sQ _ _,fun x hx=>by rw[bY.1 hx]; exact h,fun x hx=>by rw[bY.1 hx]; exact hd⟩
 | x::l,h=>by
  simp only[rX];split
  ·rename_i h1;split
   ·exact h
   ·rename_i h2;refine⟨lT.2 ⟨fun y hy=>?_,h.lt⟩,fun y hy=>?_,fun y hy=>?_⟩
    ·rcases aU.1 hy with rfl | hy
     ·exact h1
     ·exact yA h1 (h.head y hy)
    ·rcases aU.1 hy with rfl | hy
     ·exact h2
     ·exact h.nz y hy
    ·rcases aU.1 hy with rfl | hy
     ·exact hd
     ·exact h.n64 y hy
  ·rename_i h1;split
   ·split
    ·exact h.tail
    ·rename_i h3;refine⟨lT.2 ⟨fun y hy=>h.head y hy,h.tail.lt⟩,fun y hy=>?_,fun y hy=>?_⟩
     ·rcases aU.1 hy with rfl | hy
      ·exact h3
      ·exact h.tail.nz y hy
     ·rcases aU.1 hy with rfl | hy
      ·exact aLV _
      ·exact h.tail.n64 y hy
   ·rename_i h2;have ih:=Qi hd h.tail;have hxd:dF x d<0:=by have:=xY (x:=d) (y:=x); omega
    refine⟨lT.2 ⟨fun y hy=>?_,ih.lt⟩,fun y hy=>?_,fun y hy=>?_⟩
    ·rcases Fz hy with he | ⟨z,hz,he⟩
     ·rw[mT rfl he]; exact hxd
     ·rw[mT rfl he]; exact h.head z hz
    ·rcases aU.1 hy with rfl | hy
     ·exact h.nz y cC
     ·exact ih.nz y hy
    ·rcases aU.1 hy with rfl | hy
     ·exact h.n64 y cC
     ·exact ih.n64 y hy
def okN(l:List aB):Prop:=∀ x,x∈l->rY x.N
theorem iO(h:okN l):Can (cons l):=by
 induction l with
 | nil=>exact .nil
 | cons x l ih=>exact Qi (h x cC) (ih fun y hy=>h y (cH _ hy))
theorem iW(l:List aB):jS (cons l) l:=by
 induction l with
 | nil=>exact .refl _
 | cons x l ih=>intro p;rw[show cons (x::l)=rX x (cons l) from rfl,Zg];simp only[wt];exact wD rfl (ih p)
theorem Na(h:Can r)(hl:okN l)(hs:jS r l):cons l=r:=(iO hl).ext h ((iW l).trans hs.symm)
theorem Qs:∀ {y:aB},y∈cons l->∃ z,z∈l/\pl y=pl z:=by
 induction l with
 | nil=>intro y hy; simp[cons]at hy
 | cons x l ih=>
  intro y hy;rcases Fz (show y∈rX x (cons l) from hy) with h | ⟨z,hz,h⟩
  ·exact⟨x,cC,h⟩
  ·obtain⟨u,hu,h'⟩:=ih hz;exact⟨u,cH _ hu,h.trans h'⟩
theorem Pc(d:aB):∀ l:List aB,(rX d l).length<=l.length+1
 | []=>by simp only[rX]; split <;> simp
 | x::l=>by
  have:=Pc d l;simp only[rX];split
  ·split <;> simp
  ·split
   ·split
    ·simp; omega
    ·simp
   ·simp; omega
theorem sO(l:List aB):(cons l).length<=l.length:=by
 induction l with
 | nil=>simp[cons]
 | cons x l ih=>have:=Pc x (cons l);show (rX x (cons l)).length<=_;simp only[dA];omega
theorem Can.filter{l:List aB}(h:Can l)(p:aB->Bool):Can (l.filter p):=⟨h.lt.filter p,fun x hx=>h.nz x (fE.1 hx).1,fun x hx=>h.n64 x (fE.1 hx).1⟩
theorem kZ(p q:Pl->Bool)(l:List aB):wt p (l.filter fun d=>q (pl d))=wt (fun r=>p r&&q r) l:=by
 induction l with
 | nil=>rfl
 | cons x l ih=>
  simp only[kG,wt];by_cases hq:q (pl x)=true
  ·rw[aA hq]; simp only[wt,ih,hq,Bool.and_true]
  ·rw[aE hq];have hq':q (pl x)=false:=by simpa using hq
   simp[ih,hq']
theorem jS.filter{l r:List aB}(h:jS l r)(q:Pl->Bool):jS (l.filter fun d=>q (pl d)) (r.filter fun d=>q (pl d)):=fun p=>by rw[kZ,kZ]; exact h _
theorem aJG(l:List aB)(h:l.length<=1000000000000):aIO l=some l:=by
 unfold aIO;refine Det.eq ?_;unfold aDL;simp only[Tr.wpT];refine⟨fun h0=>?_,?_⟩
 ·rw[aA trivial]; exact(sH h0).symm
 ·rw[aE (by simp)];refine⟨by simp only[fG]; omega,rfl⟩
theorem aFC(l:List aF)(h:l.length<=1000000000000):Xs l=some l:=by
 unfold Xs;refine Det.eq ?_;unfold aJH;simp only[Tr.wpT];refine⟨fun h0=>?_,?_⟩
 ·rw[aA trivial]; exact(sH h0).symm
 ·rw[aE (by simp)];refine⟨by simp only[fG]; omega,rfl⟩
theorem aAD(h:ltD x y=false):¬ dF x y<0:=gM h
theorem aBN(n:Nat)(h:n<=1000000000000):Tj (n:Int)=some []:=by
 unfold Tj Vh;simp only[Tr.den];rw[aE (cB (by omega)),show IntKind.i64.wrap ((n:Int)-0)=(n:Int) by rw[bE] <;> omega];by_cases h0:(n:Int)>0
 ·rw[aA (bJ h0),aA (by simp; omega),aA (by simp)];rfl
 ·rw[aE (cB h0)]; rfl
theorem aBT(n:Nat)(h:n<=1000000000000):Uq (n:Int)=some []:=by
 unfold Uq Sz;simp only[Tr.den];rw[aE (cB (by omega)),show IntKind.i64.wrap ((n:Int)-0)=(n:Int) by rw[bE] <;> omega];by_cases h0:(n:Int)>0
 ·rw[aA (bJ h0),aA (by simp; omega),aA (by simp)];rfl
 ·rw[aE (cB h0)]; rfl
theorem jO{α:Type}[Inhabited α](ls:List (List α))(i:Nat)(hi:i<ls.length):(ls.take (i+1)).flatten=(ls.take i).flatten++ls.getD i default:=by rw[aO hi]; simp
theorem Du{α:Type}[Inhabited α](ls:List (List α))(i:Nat):(ls.take i).flatten.length<=ls.flatten.length:=by
 have:ls.flatten=(ls.take i).flatten++(ls.drop i).flatten:=by rw[<-List.flatten_append,iQ]
 rw[this,bX]; omega
theorem aWZ(ls:List (List aB))(h:ls.flatten.length<=1000000000000)(hl:ls.length<=1000000000000):G39 ls=some ls.flatten:=by
 unfold G39 T39;simp only[Tr.den];have h1:=bB (bd:=fun s=>(Nf ls s).den) (fun i=>(((ls.take i).flatten.length:Int),(i:Int))) ls.length (r:=.inl (ls.flatten.length:Int)) (fun i hi=>?_) ?_
 ·refine(congrArg (fun x=>Option.bind x _) h1).trans ?_;simp only[aJ,sel];rw[aBN _ h];simp only[aJ];have h2:=bB (bd:=fun s=>(Kw ls s).den) (fun i=>((ls.take i).flatten,(i:Int))) ls.length (r:=.inl ls.flatten) (fun i hi=>?_) ?_
  ·refine(congrArg (fun x=>Option.bind x _) h2).trans ?_;rfl
  ·unfold Kw;simp only[Tr.den,aR];have:=Du ls (i+1);rw[jO ls i hi,bX]at this;rw[aA (bJ (by omega)),aA (by omega),aA (by omega),aN (by omega),jO ls i hi]
  ·unfold Kw;simp only[Tr.den];rw[aE (cB (by omega)),dI]
 ·unfold Nf;simp only[Tr.den,aR];have:=Du ls (i+1);rw[jO ls i hi,bX]at this;rw[aA (bJ (by omega)),aA (by omega),aE (cB (by rw[dQ (by omega)]; omega)),dQ (by omega),aN (by omega),jO ls i hi,bX]
 ·unfold Nf;simp only[Tr.den];rw[aE (cB (by omega)),dI]
theorem aKM(ls:List (List aF))(h:ls.flatten.length<=1000000000000)(hl:ls.length<=1000000000000):aTN ls=some ls.flatten:=by
 unfold aTN aXJ;simp only[Tr.den];have h1:=bB (bd:=fun s=>(Cy ls s).den) (fun i=>(((ls.take i).flatten.length:Int),(i:Int))) ls.length (r:=.inl (ls.flatten.length:Int)) (fun i hi=>?_) ?_
 ·refine(congrArg (fun x=>Option.bind x _) h1).trans ?_;simp only[aJ,sel];rw[aBT _ h];simp only[aJ];have h2:=bB (bd:=fun s=>(Df ls s).den) (fun i=>((ls.take i).flatten,(i:Int))) ls.length (r:=.inl ls.flatten) (fun i hi=>?_) ?_
  ·refine(congrArg (fun x=>Option.bind x _) h2).trans ?_;rfl
  ·unfold Df;simp only[Tr.den,aR];have:=Du ls (i+1);rw[jO ls i hi,bX]at this;rw[aA (bJ (by omega)),aA (by omega),aA (by omega),aN (by omega),jO ls i hi]
  ·unfold Df;simp only[Tr.den];rw[aE (cB (by omega)),dI]
 ·unfold Cy;simp only[Tr.den,aR];have:=Du ls (i+1);rw[jO ls i hi,bX]at this;rw[aA (bJ (by omega)),aA (by omega),aE (cB (by rw[dQ (by omega)]; omega)),dQ (by omega),aN (by omega),jO ls i hi,bX]
 ·unfold Cy;simp only[Tr.den];rw[aE (cB (by omega)),dI]
structure okD (l:List aB):Prop where
 r:jV l
 n:okN l
theorem okD.app(h:okD l)(h':okD r):okD (l++r):=
 ⟨fun x hx=>(dH.1 hx).elim (h.r x) (h'.r x),fun x hx=>(dH.1 hx).elim (h.n x) (h'.n x)⟩
theorem okD.nil:okD []:=⟨fun _ h=>by simp at h,fun _ h=>by simp at h⟩
theorem okD.sub(h:okD l)(hs:∀ x,x∈r->x∈l):okD r:=⟨fun x hx=>h.r x (hs x hx),fun x hx=>h.n x (hs x hx)⟩
theorem okD.cons{l:List aB}(h:okD l):okD (cons l):=⟨fun x hx=>by
 obtain⟨z,hz,he⟩:=Qs hx;have:=h.r z hz;unfold okR at this ⊢
 rwa [show x.Row=z.Row from congrArg (·.2) he],(iO h.n).n64⟩
structure LO (K:Type)[MKey K]:Prop where
 irr:∀ a:K,MKey.lt a a=false
 tr:∀ a b c:K,MKey.lt a b=true->MKey.lt b c=true->MKey.lt a c=true
 tot:∀ a b:K,a≠b->MKey.lt a b=true\/MKey.lt b a=true
theorem lM:∀ (x y:List UInt8),Op.bytesLess x y=decide (Lib.compareBytes x y<0)
 | [],[]=>by simp[Op.bytesLess,Lib.compareBytes]
 | _::_,[]=>by simp[Op.bytesLess,Lib.compareBytes]
 | [],_::_=>by simp[Op.bytesLess,Lib.compareBytes]
 | a::x,b::y=>by
  rw[Op.bytesLess,lM x y,Lib.compareBytes];by_cases h1:a<b
  ·simp[h1]
  ·by_cases h2:b<a
   ·have h3:¬ a=b:=fun h=>by subst h; exact absurd h2 h1
    simp[h1,h2,h3]
   ·have h3:a=b:=UInt8.le_antisymm (UInt8.not_lt.1 h2) (UInt8.not_lt.1 h1);simp[h3]
theorem LO.bytes:LO ByteArray:=by
 have e:∀ a b:ByteArray,MKey.lt a b=decide (At a b<0):=fun a b=>by show Op.bytesLess a.toList b.toList=_;rw[lM,Lib.toList_data,Lib.toList_data]; rfl
 constructor
 ·intro a;rw[e,(TO.str.eq a a).2 rfl]; rfl
 ·intro a b c h1 h2;rw[e]at h1 h2 ⊢;exact bJ (TO.str.tr a b c (dP h1) (dP h2))
 ·intro a b h;rw[e,e];have h1:=TO.str.eq a b;have h2:=TO.str.sw b a;by_cases h3:At a b<0
  ·exact .inl (bJ h3)
  ·refine .inr (bJ ?_);by_cases h4:At a b=0
   ·exact absurd (h1.1 h4) h
   ·omega
section
variable {K V:Type} [MKey K]
def MC(v:List (K×V)):Prop:=v.Pairwise fun p q=>MKey.lt p.1 q.1=true
theorem Gl(v:List (K×V))(k k':K):bF (mdel v k) k'=if k=k' then none else bF v k':=by
 induction v with
 | nil=>simp[mdel,bF]
 | cons p v ih=>
  simp only[mdel,kG]at ih ⊢;by_cases hp:p.1=k
  ·rw[aE (by simpa using hp),ih];simp only[bF,hp];by_cases hk:k=k' <;> simp[hk]
  ·rw[aA (by simpa using hp)];simp only[bF,ih];by_cases hk:k=k'
   ·subst hk; simp[hp]
   ·simp[hk]
theorem Gb(k:K)(c:V)(k':K):∀ v:List (K×V),bF v k=none->bF (mins k c v) k'=if k=k' then some c else bF v k'
 | [],_=>by simp[mins,bF]
 | p::v,h=>by
  simp only[bF]at h;by_cases hp:p.1=k
  ·rw[aA hp]at h; cases h
  ·rw[aE hp]at h;simp only[mins];split
   ·simp only[bF]
   ·simp only[bF,Gb k c k' v h];by_cases hk:k=k'
    ·subst hk; simp[hp]
    ·simp[hk]
theorem qR(v:List (K×V))(k:K)(c:V)(k':K):bF (mput v k c) k'=if k=k' then some c else bF v k':=by unfold mput;rw[Gb k c k' _ (by rw[Gl]; simp),Gl];by_cases h:k=k' <;> simp[h]
theorem MC.mdel{v:List (K×V)}(h:MC v)(k:K):MC (mdel v k):=List.Pairwise.filter _ h
theorem aFM{k:K}{c:V}{q:K×V}:∀ {v:List (K×V)},q∈mins k c v->q=(k,c)\/q∈v
 | v,h=>by have:=(Bb k c v).mem_iff.1 h;simpa using this
theorem MC.mins(hK:LO K){k:K}{c:V}:∀ {v:List (K×V)},MC v->k∉aW v->MC (mins k c v)
 | [],_,_=>sQ _ _
 | p::v,h,hk=>by
  have h1:=lT.1 h;simp only[PL.mins];split
  ·rename_i hlt;refine lT.2 ⟨fun q hq=>?_,h⟩;rcases aU.1 hq with rfl | hq
   ·exact hlt
   ·exact hK.tr _ _ _ hlt (h1.1 q hq)
  ·rename_i hlt;simp only[aW,fI,aU,not_or]at hk;refine lT.2 ⟨fun q hq=>?_,MC.mins hK h1.2 hk.2⟩;rcases aFM hq with rfl | hq
   ·rcases hK.tot k p.1 hk.1 with h2 | h2
    ·rw[h2]at hlt; cases hlt
    ·exact h2
   ·exact h1.1 q hq
theorem MC.mput(hK:LO K){v:List (K×V)}(h:MC v)(k:K)(c:V):MC (mput v k c):=(h.mdel k).mins hK (aIM v k)
theorem aGH:MC ([]:List (K×V)):=List.Pairwise.nil
theorem Zx{v:List (K×V)}{k:K}{c:V}(h:bF v k=some c):(k,c)∈v:=by
 induction v with
 | nil=>cases h
 | cons p v ih=>
  simp only[bF]at h;split at h
  ·rename_i hp;cases h;rw[<-hp]; exact cC
  ·exact cH _ (ih h)
theorem Hd{v:List (K×V)}{k:K}:k∈aW v↔∃ c,bF v k=some c:=by
 constructor
 ·intro h;cases hc:bF v k with
  | none=>exact absurd h (lG hc)
  | some c=>exact⟨c,rfl⟩
 ·rintro⟨c,hc⟩;exact dC.2 ⟨_,Zx hc,rfl⟩
theorem MC.nodup(hK:LO K){v:List (K×V)}(h:MC v):(aW v).Nodup:=by unfold aW List.Nodup;rw[wR];refine h.imp fun {p q} hpq he=>?_;rw[he,hK.irr]at hpq;cases hpq
def jC(f:K->Int):List K->Int
 | []=>0
 | k::l=>f k+jC f l
omit [MKey K] in
theorem aBW(f:K->Int){l r:List K}(h:l.Perm r):jC f l=jC f r:=by
 induction h with
 | nil=>rfl
 | cons x _ ih=>simp only[jC,ih]
 | swap x y l=>simp only[jC]; omega
 | trans _ _ h1 h2=>exact h1.trans h2
end
theorem aXV{P:Program}{Y R:Type}{n:Nat}{bps:List PV}{x:Option R}{ret:R->PV}{h:Con P k bps x ret}{B:R->Tr P Y}{r:R}(hx:x=some r):(Tr.ca n h B).den=(B r).den:=by subst hx; rfl
theorem Mm{P:Program}{Y:Type}{n:Nat}{p:Prop}[Decidable p]{t:Tr P Y}(hp:p):(Tr.grd n p t).den=t.den:=aA hp
def yC(n:Int):ByteArray:=⟨(Lib.itoa n).toArray⟩
theorem qH{n:Int}(h:rY n):(yC n).size<=21:=by have:=Lib.itoa_length_le n h.1 h.2;unfold yC;show (Lib.itoa n).toArray.size<=21;simpa using this
theorem Vz{n:Int}(h:rY n):aDR n=some (yC n):=by unfold aDR; rw[aA (show -9223372036854775808<=n/\n<=9223372036854775807 from h)]; rfl
theorem sz1(x:UInt8):(⟨#[x]⟩:ByteArray).size=1:=rfl
def wJ(n:Int):ByteArray:=yC n++⟨#[59]⟩
theorem Tq(n:Int):(wJ n).size=(yC n).size+1:=jU
theorem mO{n:Int}(h:rY n):(wJ n).size<=22:=by have h1:=qH h;rw[Tq];exact Nat.succ_le_succ h1
theorem Sv{n:Int}(h:rY n):G51 n=some (wJ n):=by unfold G51 T51;have:=qH h;simp -implicitDefEqProofs only[Tr.den,Vz h,aJ];rw[aA (by rw[sz1]; omega)];rfl
theorem aNN(n:Nat)(h:n<=1000000000000):aWH (n:Int)=some (wJ (n:Int)):=by unfold aWH aUB;simp only[Tr.den];rw[aE (cB (by omega)),Sv (n:=(n:Int)) ⟨by omega,by omega⟩];rfl
def Lx(s:ByteArray):ByteArray:=((yC s.size++⟨#[58]⟩)++s)++⟨#[44]⟩
theorem Kt{s:ByteArray}(h:s.size<=1073741824):(Lx s).size<=s.size+23:=by have:=qH (n:=(s.size:Int)) ⟨by omega,by omega⟩;unfold Lx;rw[jU,jU,jU,sz1,sz1];omega
theorem aYC{s:ByteArray}(h:s.size<=1073741824):G52 s=some (Lx s):=by
 have h1:=qH (n:=(s.size:Int)) ⟨by omega,by omega⟩;have h2:aDR (s.size:Int)=some (yC s.size):=Vz ⟨by omega,by omega⟩;generalize hi:yC (s.size:Int)=z at h1 h2;have e1:(z++(⟨#[58]⟩:ByteArray)).size=z.size+1:=jU;have e2:((z++(⟨#[58]⟩:ByteArray))++s).size=z.size+1+s.size:=by rw[jU,e1]
 unfold G52 T52;refine(aXV h2).trans ?_;refine(Mm ?_).trans ((Mm ?_).trans ((Mm ?_).trans ?_))
 ·rw[sz1]; omega
 ·rw[e1]; omega
 ·rw[e2,sz1]; omega
 ·unfold Lx;rw[hi];rfl
structure okV (v:aF):Prop where
 k:rY v.Kind
 n:rY v.N
 s:v.S.size<=1073741824
theorem aPZ:okV default:=⟨⟨by decide,by decide⟩,⟨by decide,by decide⟩,by decide⟩
def xK(v:aF):ByteArray:=(wJ v.Kind++wJ v.N)++Lx v.S
theorem Jj{v:aF}(h:okV v):(xK v).size<=1073742000:=by have h1:=mO h.k;have h2:=mO h.n;have h3:=Kt h.s;have h4:=h.s;unfold xK;rw[jU,jU];omega
theorem aKO{v:aF}(h:okV v):aYQ v=some (xK v):=by have h1:=mO h.k;have h2:=mO h.n;have h3:=Kt h.s;have h4:=h.s;unfold aYQ aWI;simp only[Tr.den,Sv h.k,Sv h.n,aYC h.s,aJ];rw[aA (by omega),jU,aA (by omega)];rfl
def Hw(r:List aF):Prop:=∀ v,v∈r->okV v
theorem Hw.get{r:List aF}(h:Hw r)(k:Nat):okV (r.getD k default):=by
 by_cases hk:k<r.length
 ·exact h _ (aQ hk)
 ·rw[cF,xE (by omega)]; exact aPZ
def Ih(r:List aF):ByteArray:=r.foldl (fun b v=>b++xK v) ((⟨#[]⟩:ByteArray)++wJ (r.length:Int))
theorem xF(b:ByteArray):∀ (r:List aF),Hw r->(r.foldl (fun b v=>b++xK v) b).size<=b.size+r.length*1073742000
 | [],_=>by simp
 | v::r,h=>by have h1:=xF (b++xK v) r fun x hx=>h x (cH _ hx);have h2:=Jj (h v cC);rw[jU]at h1;simp only[oB,dA];omega
theorem Xa(r:List aF)(h:Hw r)(hn:r.length<=1000):aKN r=some (Ih r):=by
 have hs:=mO (n:=(r.length:Int)) ⟨by omega,by omega⟩;unfold aKN aWB;simp only[Tr.den];rw[aNN r.length (by omega)];simp only[aJ];rw[aA (by show 0+_<=_; omega)];simp only[aJ];have h1:=bB (bd:=fun s=>(Eg r s).den) (fun i=>((r.take i).foldl (fun b v=>b++xK v) ((⟨#[]⟩:ByteArray)++wJ (r.length:Int)),(i:Int))) r.length (r:=.inl (Ih r)) (fun i hi=>?_) ?_
 ·refine(congrArg (fun x=>Option.bind x _) h1).trans ?_;rfl
 ·unfold Eg;simp only[Tr.den,aR];have h2:=xF ((⟨#[]⟩:ByteArray)++wJ (r.length:Int)) (r.take i) fun v hv=>h v (El hv);have h3:=Jj (h.get i);rw[jU,show (⟨#[]⟩:ByteArray).size=0 from rfl]at h2;simp only[cE]at h2;rw[aA (bJ (by omega)),aA (by omega),aKO (h.get i)];simp only[aJ];rw[aA (by have:min i r.length*1073742000<=1000*1073742000:=sX (by omega) (cR _);omega)];simp only[aJ];rw[aN (by omega),aO hi,zU];rfl
 ·unfold Eg;simp only[Tr.den];rw[aE (cB (by omega)),dI];rfl
def iM(n:aG)(i:Int):List Int:=if i=0 then n.Key else n.Key2
def La(n:aG)(i:Int)(row:List aF):ByteArray:=Ih ((iM n i).map fun c=>row.getD c.toNat default)
def An(cols:List Int)(row:List aF):Prop:=∀ c,c∈cols->0<=c/\c<row.length
structure okI (n:aG)(i:Int)(l:List aB):Prop where
 v:∀ d,d∈l->Hw d.Row
 c:∀ d,d∈l->An (iM n i) d.Row
 r:∀ d,d∈l->d.Row.length<=1000
 t:∀ d,d∈l->0<=d.Time/\d.Time<=2199023255552
 n:okN l
theorem okI.sub(h:okI n i l)(hs:∀ x,x∈r->x∈l):okI n i r:=
 ⟨fun d hd=>h.v d (hs d hd),fun d hd=>h.c d (hs d hd),fun d hd=>h.r d (hs d hd),fun d hd=>h.t d (hs d hd),fun d hd=>h.n d (hs d hd)⟩
abbrev kd (n:aG)(i:Int)(d:aB):ByteArray:=La n i d.Row
def bW(n:aG)(i:Int)(l:List aB):List (ByteArray×List aB):=l.foldl (fun m d=>mput m (kd n i d) ((bF m (kd n i d)).getD []++[d])) []
theorem Ji(n:aG)(i:Int)(l:List aB):MC (bW n i l):=by
 unfold bW;have:∀ (l:List aB) (m:List (ByteArray×List aB)),MC m->MC (l.foldl (fun m d=>mput m (kd n i d) ((bF m (kd n i d)).getD []++[d])) m):=by
  intro l
  induction l with
  | nil=>exact fun m h=>h
  | cons d l ih=>exact fun m h=>ih _ (h.mput LO.bytes _ _)
 exact this l [] aGH
def ofK(n:aG)(i:Int)(k:ByteArray)(l:List aB):List aB:=l.filter fun d=>decide (kd n i d=k)
theorem tK(n:aG)(i:Int)(k:ByteArray)(l:List aB):bF (bW n i l) k=if ofK n i k l=[] then none else some (ofK n i k l):=by
 have:∀ (l:List aB) (m:List (ByteArray×List aB)),bF (l.foldl (fun m d=>mput m (kd n i d) ((bF m (kd n i d)).getD []++[d])) m) k=if ofK n i k l=[] then bF m k else some ((bF m k).getD []++ofK n i k l):=by
  intro l
  induction l with
  | nil=>intro m; simp[ofK]
  | cons d l ih=>
   intro m;rw[oB,ih];unfold ofK;by_cases hk:kd n i d=k
   ·rw[On (p:=fun d=>decide (kd n i d=k)) (bJ hk),qR,aA hk,hk];by_cases h:l.filter (fun d=>decide (kd n i d=k))=[]
    ·rw[aA h,aE (by simp),h]
    ·rw[aE h,aE (by simp)]; simp
   ·rw[Gq (p:=fun d=>decide (kd n i d=k)) (cB hk),qR,aE hk]
 have:=this l [];simpa[bF,bW] using this
theorem iU(n:aG)(i:Int)(k:ByteArray)(l:List aB):(ofK n i k l).length<=l.length:=tY _ _
theorem qQ(n:aG)(i:Int)(k:ByteArray)(l:List aB):(bF (bW n i l) k).getD []=ofK n i k l:=by rw[tK]; split <;> simp_all
def TS(l:List aB):Prop:=l.Pairwise fun x y=>x.Time<=y.Time
theorem aBG(h:dF x y<0):x.Time<=y.Time:=by
 by_cases h1:y.Time<x.Time
 ·have:dF x y=1:=by unfold dF fW vR;rw[aE (show ¬ x.Time<y.Time by omega),aA h1];rfl
  omega
 ·omega
theorem Can.ts(h:Can l):TS l:=h.lt.imp fun h=>aBG h
theorem TS.get(h:TS l){i j:Nat}(hij:i<=j)(hj:j<l.length):(l.getD i default).Time<=(l.getD j default).Time:=by
 rcases Nat.lt_or_eq_of_le hij with h1 | h1
 ·rw[bL hj,bL (show i<l.length by omega)];exact wQ.1 h i j (by omega) hj h1
 ·subst h1; exact Int.le_refl _
def kK(l:List aB):Prop:=∀ d,d∈l->0<=d.Time/\d.Time<=2199023255552
def bZ(l:List aB)(a b:Int):List aB:=l.filter fun d=>decide (a<=d.Time)&&decide (d.Time<=b)
theorem pM(l:List aB)(a b:Int):(bZ l a b).length<=l.length:=tY _ _
theorem Jx{a b:Int}{d:aB}(h:d∈bZ l a b):d∈l:=(fE.1 h).1
theorem kK.get(h:kK l)(k:Nat):0<=(l.getD k default).Time/\(l.getD k default).Time<=2199023255552:=by
 by_cases hk:k<l.length
 ·exact h _ (aQ hk)
 ·rw[cF,xE (by omega)]; exact⟨by decide,by decide⟩
def tH(a b:aB)(t n:Int):aB:=⟨t,a.Row++b.Row,n⟩
def okW(l:List aB):Prop:=∀ d,d∈l->d.Row.length<=1000
theorem okW.get(h:okW l)(k:Nat):(l.getD k default).Row.length<=1000:=by
 by_cases hk:k<l.length
 ·exact h _ (aQ hk)
 ·rw[cF,xE (by omega)]; decide
def mG(i:Int)(a b:aB):aB:=if i=1 then tH b a (if b.Time>a.Time then b.Time else a.Time) (W (a.N*b.N)) else tH a b (if b.Time>a.Time then b.Time else a.Time) (W (a.N*b.N))
def tX(n:aG)(i:Int)(other:List aB)(a:aB):List aB:=
 (bZ other (if i=1 then a.Time-n.After else a.Time-n.Before) (if i=1 then a.Time+n.Before else a.Time+n.After)).map (mG i a)
def aRT(n:aG)(i:Int)(l other:List aB):List aB:=l.flatMap (tX n i other)
theorem aBY(n:aG)(i:Int)(other:List aB)(a:aB):(tX n i other a).length<=other.length:=by unfold tX; rw[bQ]; exact pM _ _ _
theorem tE{f:aB->List aB}{c:Nat}(h:∀ a,(f a).length<=c)(l:List aB):(l.flatMap f).length<=l.length*c:=by
 induction l with
 | nil=>simp
 | cons a l ih=>rw[fH,bX,dA,gP];have:=h a;omega
structure okB (n:aG):Prop where
 b:0<=n.Before/\n.Before<=10000
 a:0<=n.After/\n.After<=10000
def kJ(n:aG)(right:List aB)(a:aB):List aB:=
 if bZ right (a.Time-n.Keep+1) a.Time=[] then [] else [tH a ((bZ right (a.Time-n.Keep+1) a.Time).getD ((bZ right (a.Time-n.Keep+1) a.Time).length-1) default) a.Time a.N]
def aRU(n:aG)(l right:List aB):List aB:=l.flatMap (kJ n right)
theorem Iv(n:aG)(right:List aB)(a:aB):(kJ n right a).length<=1:=by unfold kJ; split <;> simp
structure Nj (n:aG):Prop where
 op:(n.Op=6/\okB n)\/(n.Op=7/\1<=n.Keep/\n.Keep<=10000)
 k1:n.Key.length<=1000
 k2:n.Key2.length<=1000
theorem Nj.cols(h:Nj n)(i:Int):(iM n i).length<=1000:=by
 by_cases hi:i=0
 ·unfold iM; rw[aA hi]; exact h.k1
 ·unfold iM; rw[aE hi]; exact h.k2
theorem okI.tm(h:okI n i l):kK l:=h.t
theorem okI.w(h:okI n i l):okW l:=h.r
theorem Fa{f:aB->List aB}(h:∀ a,a∈l->okD (f a)):okD (l.flatMap f):=by
 constructor
 ·intro x hx;obtain⟨a,ha,hx⟩:=nF.1 hx;exact(h a ha).r x hx
 ·intro x hx;obtain⟨a,ha,hx⟩:=nF.1 hx;exact(h a ha).n x hx
theorem aEN(h:okW l)(h':okW r):okD (aRT n i l r):=by
 refine Fa fun a ha=>?_;unfold tX;constructor
 ·intro x hx;obtain⟨b,hb,rfl⟩:=dC.1 hx;have:=h a ha;have:=h' b (Jx hb);unfold mG okR tH; split <;> simp <;> omega
 ·intro x hx;obtain⟨b,hb,rfl⟩:=dC.1 hx;unfold mG tH; split <;> exact aLV _
theorem aDY(h:okW l)(h':okW r)(hn:okN l):okD (aRU n l r):=by
 refine Fa fun a ha=>?_;unfold kJ;have hr:okW (bZ r (a.Time-n.Keep+1) a.Time):=fun d hd=>h' d (Jx hd);split
 ·exact .nil
 ·constructor
  ·intro x hx;rw[bY.1 hx];have:=h a ha;have:=hr.get ((bZ r (a.Time-n.Keep+1) a.Time).length-1);unfold okR tH;simp only[bX]; omega
  ·intro x hx;rw[bY.1 hx];exact hn a ha
theorem jG(n:aG)(i:Int)(l:List aB):(bW n i l).length<=l.length:=by
 have:∀ (l:List aB) (m:List (ByteArray×List aB)),(l.foldl (fun m d=>mput m (kd n i d) ((bF m (kd n i d)).getD []++[d])) m).length<=m.length+l.length:=by
  intro l
  induction l with
  | nil=>intro m; simp
  | cons d l ih=>intro m;rw[oB];refine gY (ih _) ?_;have h1:=(zW m (kd n i d) ((bF m (kd n i d)).getD []++[d])).length_eq;have h2:(mdel m (kd n i d)).length<=m.length:=tY _ _;rw[h1]; simp only[dA]; omega
 have h2:=this l [];simp only[fG,eY]at h2;exact h2
theorem aKV{k:ByteArray}(h:Can l):Can (ofK n i k l):=h.filter _
theorem xC(a b c:Int):G97 a b c=some (decide (b<=a/\a<=c)):=by
 unfold G97 T97;simp only[Tr.den];by_cases h:a>=b
 ·rw[aA (bJ h)];simp only[aJ]
  congr 1
  by_cases h':a<=c
  ·rw[bJ h',bJ ⟨h,h'⟩]
  ·rw[sN,eJ,eJ]; omega
 ·rw[aE (cB h)];simp only[aJ]
  congr 1
  rw[sN,eJ];constructor
  ·intro h; cases h
  ·omega
theorem aPP(a b:aF):aWT a b=some (mB a b):=by
 unfold aWT aWX mB fW vR;simp only[Tr.den,eJ];have hs:=lM a.S.toList b.S.toList;have h2:=lM b.S.toList a.S.toList;rw[Lib.toList_data,Lib.toList_data]at hs h2;have e1:Op.bytesLess a.S.toList b.S.toList=decide (At a.S b.S<0):=by rw[Lib.toList_data,Lib.toList_data]; exact hs
 have e2:(a.S.toList==b.S.toList)=decide (At a.S b.S=0):=by
  rw[sN,fB,eJ,TO.str.eq,Lib.toList_data,Lib.toList_data];constructor
  ·intro h;generalize a.S=x at h ⊢;generalize b.S=y at h ⊢;cases x; cases y; simp at h; simp[h]
  ·intro h; rw[h]
 have h3:At a.S b.S = -1\/At a.S b.S=0\/At a.S b.S=1:=by
  unfold At;generalize a.S.data.toList=x;generalize b.S.data.toList=y
  induction x generalizing y with
  | nil=>cases y <;> simp[Lib.compareBytes]
  | cons u x ih=>
   cases y with
   | nil=>simp[Lib.compareBytes]
   | cons v y=>
    rw[Lib.compareBytes];by_cases q1:u<v
    ·rw[aA q1]; exact .inl rfl
    ·rw[aE q1];by_cases q2:v<u
     ·rw[aA q2]; exact .inr (.inr rfl)
     ·rw[aE q2]; exact ih y
 rw[e1,e2];by_cases k1:a.Kind<b.Kind
 ·simp[k1]
 ·by_cases k2:b.Kind<a.Kind
  ·simp[k1,k2]
  ·by_cases n1:a.N<b.N
   ·simp[k1,k2,n1]
   ·by_cases n2:b.N<a.N
    ·simp[k1,k2,n1,n2]
    ·rcases h3 with h | h | h <;> simp[k1,k2,n1,n2,h]
theorem Ww(a b:List aF)(ha:a.length<=1073741824)(hb:b.length<=1073741824):aSZ a b=some (Cm a b):=by
 refine Sp.eq ?_;unfold aSZ aSY;simp only[Tr.den,bU];refine Sq.while (fun k:Int=>0<=k/\k<=a.length/\k<=b.length/\Cm (a.drop k.toNat) (b.drop k.toNat)=Cm a b) (fun k=>a.length-k.toNat) (fun k hk=>?_) ⟨by omega,by omega,by omega,by simp⟩;obtain⟨h0,h1,h2,h3⟩:=hk;unfold Xt;simp only[Tr.den,aPP,aJ];have stop:(k=a.length\/k=b.length)->Sp (sel (fun _:Unit=>if decide ((a.length:Int)<(b.length:Int))=true then some (-1:Int) else if decide ((a.length:Int)>(b.length:Int))=true then some 1 else some 0) some (Sum.inl ())) (fun z=>z=Cm a b):=by
  intro hk;simp only[sel];rcases hk with hk | hk
  ·rw[jY (show a.length<=k.toNat by omega)]at h3;by_cases hl:(a.length:Int)<b.length
   ·rw[aA (bJ hl)];rw[cU (show k.toNat<b.length by omega)]at h3;exact aC.2 h3
   ·rw[aE (cB hl),aE (cB (by omega))];rw[jY (show b.length<=k.toNat by omega)]at h3;exact aC.2 h3
  ·rw[jY (show b.length<=k.toNat by omega)]at h3;rw[aE (cB (by omega))];by_cases hl:(a.length:Int)>b.length
   ·rw[aA (bJ hl)];rw[cU (show k.toNat<a.length by omega)]at h3;exact aC.2 h3
   ·rw[aE (cB (by omega))];rw[jY (show a.length<=k.toNat by omega)]at h3;exact aC.2 h3
 by_cases hk:k<a.length
 ·rw[aA (bJ hk)];simp only[aJ];by_cases hk':k<b.length
  ·rw[aA (bJ hk'),aA ⟨h0,hk⟩,aA ⟨h0,hk'⟩];rw[cU (show k.toNat<a.length by omega),cU (show k.toNat<b.length by omega)]at h3;simp only[rO]at h3;by_cases hz:mB (a.getD k.toNat default) (b.getD k.toNat default)=0
   ·rw[aE (Qv hz),bE (by omega) (by omega)];refine aC.2 ⟨⟨by omega,by omega,by omega,?_⟩,by omega⟩;rw[show (k+1).toNat=k.toNat+1 by omega]; refine Eq.trans ?_ h3; simp only[fW,hz,fJ]
   ·rw[aA (Od hz)];refine aC.2 (aC.2 ?_);refine Eq.trans ?_ h3; simp only[fW,aE hz]
  ·rw[aE (cB hk')];exact aC.2 (stop (.inr (by omega)))
 ·rw[aE (cB hk)];exact aC.2 (stop (.inl (by omega)))
section
variable {P:Program} {A R:Type}
theorem aIC{C:A->Option R->Prop}(c0:∀ a,C a none)(B:{f:A->Option R // ∀ a,C a (f a)}->A->Tr P R)(ok:∀ f a,C a (B f a).den)(I:Nat->A->Prop)(Q:A->R->Prop)
  (h:∀ b f n a,I n a->(∀ m a',m<n->I m a'->Sq b (f.1 a') (Q a'))->Sq b (B f a).den (Q a)):∀ k n a,I n a->Sq (decide (n<k)) ((aBX c0 B ok k).1 a) (Q a):=by
 intro k
 induction k with
 | zero=>intro n a ha; exact⟨fun y hy=>(by cases hy),fun hb=>by simp at hb⟩
 | succ k ih=>intro n a ha;refine h _ _ n a ha fun m a' hm ha'=>?_;have h1:=ih m a' ha';exact⟨h1.1,fun hb=>h1.2 (by simp at hb ⊢; omega)⟩
theorem aIP{C:A->Option R->Prop}(c0:∀ a,C a none)(B:{f:A->Option R // ∀ a,C a (f a)}->A->Tr P R)(ok:∀ f a,C a (B f a).den)(I:Nat->A->Prop)(Q:A->R->Prop)
  (h:∀ b f n a,I n a->(∀ m a',m<n->I m a'->Sq b (f.1 a') (Q a'))->Sq b (B f a).den (Q a))(b:Bool)(n:Nat)(a:A)(ha:I n a):Sq b (vS c0 B ok a) (Q a):=by
 have h1:=aIC c0 B ok I Q h;unfold vS Lim;split
 ·rename_i hh;obtain⟨k,hk⟩:=hh.choose_spec;exact aC.2 ((h1 k n a ha).1 _ hk)
 ·rename_i hh;exfalso;have h2:=h1 (n+1) n a ha;obtain⟨y,hy⟩:=Cb.1 (h2.2 (by simp));exact hh ⟨y,_,hy⟩
end
theorem mU{S R:Type}{b:Bool}{bd:S->Option (S⊕R)}(idx:S->Int)(N:Nat)(hN:N<=1000000000000000)(I:S->Prop){Q:R->Prop}
  (h:∀ s (k:Nat),I s->idx s=k->k<=N->Sq b (bd s) (sel (fun s'=>idx s'=IntKind.i64.wrap ((k:Int)+1)/\k<N/\I s') Q)){s:S}(hs:I s)(h0:idx s=0):Sq b (cK bd s) Q:=by
 refine Sq.while (fun s=>I s/\∃ k:Nat,idx s=k/\k<=N) (fun s=>N-(idx s).toNat) (fun s hs=>?_) ⟨hs,0,h0,by omega⟩;obtain⟨hI,k,hk,hkN⟩:=hs;refine(h s k hI hk hkN).imp fun z hz=>?_;cases z with
 | inr r=>exact hz
 | inl s'=>obtain⟨q1,q2,q3⟩:=hz;rw[aN (by omega)]at q1;exact⟨⟨q3,k+1,q1,by omega⟩,by rw[q1,hk]; omega⟩
inductive OkE (fs:List aV):Nat->Nat->Nat->bO->Prop
 | mk {nc np h:Nat} {e:bO} (k:Nat) (hm:Nat->Nat) (hs:e.S.size<=1048576) (hl:e.Args.length<=1048576) (ho:0<=e.Op/\e.Op<=22)
   (hlt:∀ i,hm i<h) (hA:∀ i,i<e.Args.length->OkE fs nc np (hm i) (e.Args.getD i default))
   (c3:e.Op=3->0<=e.N/\e.N<nc) (c4:e.Op=4->0<=e.N/\e.N<np) (c1:e.Op=6\/e.Op=7\/e.Op=20->1<=e.Args.length) (c2:8<=e.Op/\e.Op<=19->2<=e.Args.length)
   (c21:e.Op=21->3<=e.Args.length) (c22:e.Op=22->0<=e.N/\e.N<fs.length/\k<h) (hb:e.Op=22->OkE fs 0 e.Args.length k (fs.getD e.N.toNat default).Body):OkE fs nc np h e
def Sm(v:aF):Prop:=v.S.size<=1073741824
structure OkF (fs:List aV)(nc np:Nat)(f:gF):Prop where
 fs:f.funcs_=fs
 nc:f.row_.length=nc
 np:f.params_.length=np
 row:∀ v,v∈f.row_->Sm v
 params:∀ v,v∈f.params_->Sm v
theorem tM(n:Int):Sm (vI n):=by show (0:Nat)<=_; omega
theorem By(b:Bool):Sm (vB b):=by show (0:Nat)<=_; omega
theorem Dm{l:List aF}(h:∀ v,v∈l->Sm v){i:Nat}(hi:i<l.length):Sm (l.getD i default):=h _ (aQ hi)
theorem kU{c:Prop}[Decidable c]{x y:aF}(hx:Sm x)(hy:Sm y):Sm (if c then x else y):=by split <;> assumption
theorem lZ(op:Int)(a b:aF):Sm (bop op a b):=by unfold bop;refine kU (tM _) (kU (tM _) (kU (tM _) (kU (kU (tM _) (tM _)) (kU (kU (tM _) (tM _)) (kU (By _) (kU (By _) (kU (By _) (kU (By _) (kU (By _) (kU (By _) ?_))))))))));show ((a.S++b.S).extract 0 (min 200 (a.S.size+b.S.size))).size<=1073741824;rw[ByteArray.size_extract]; omega
theorem aPH(fs:List aV)(nc np n:Nat)(f:gF)(e:bO)(hf:OkF fs nc np f)(he:OkE fs nc np n e):Sp (aWK f e) Sm:=by
 refine aIP (C:=fun (a:gF×bO) (x:Option (aF))=>Con Proofs.Tryz.prog 171 [.t (jE a.1),.t (dE a.2)] x (fun (y:aF)=>.t (cP y))) (fun a=>⟨bS Proofs.Tryz.func171 (by kernel_rfl),fun _ h=>nomatch h⟩) (fun rec a=>Tb rec a.1 a.2) (fun rec a=>Lr rec a.1 a.2)
  (fun n a=>∃ fs nc np,OkF fs nc np a.1/\OkE fs nc np n a.2) (fun _=>Sm) (fun b r n a ha hrec=>?_) true n (f,e) ⟨fs,nc,np,hf,he⟩
 clear hf he fs nc np f e;obtain⟨f,e⟩:=a;obtain⟨fs,nc,np,hf,he⟩:=ha;simp only at hf he ⊢;have hfun:=hf.fs;cases he with
 | mk k' hm hs hl ho hlt hA c3 c4 c1 c2 c21 c22 hb=>
 have hr:∀ i,i<e.Args.length->Sq b (r.1 (f,e.Args.getD i default)) Sm:=fun i hi=>hrec _ _ (hlt i) ⟨fs,nc,np,hf,hA i hi⟩;unfold Tb;by_cases h21:e.Op=21
 ·have hl3:=c21 h21;simp only[h21,Tr.den];rw[aA (by decide),aA (by omega)];refine Sq.bind _ (hr 0 (by omega)) fun v1 _=>?_;split
  ·rw[aA (by omega)];refine Sq.bind _ (hr 1 (by omega)) fun v2 h2=>aC.2 h2
  ·rw[aA (by omega)];refine Sq.bind _ (hr 2 (by omega)) fun v2 h2=>aC.2 h2
 ·simp only[Tr.den];rw[aE (by simpa using h21)];refine bU.2 (mU (fun s:List aF×Int=>s.2) e.Args.length (by omega) (fun s=>(s.1.length:Int)=s.2/\∀ v,v∈s.1->Sm v) (fun s k hI hk hkN=>?_) ⟨rfl,fun v hv=>by cases hv⟩ rfl);obtain⟨b6,v5⟩:=s;obtain⟨hbl,hbs⟩:=hI;simp only at hk hbl hbs;subst hk;unfold Nn;simp only[Tr.den,aR];by_cases hc:k<e.Args.length
  ·rw[aA (bJ (by omega)),aA (by omega)];refine Sq.bind _ (hr k hc) fun v hv=>?_;rw[aA (by simp only[eE]; omega)];refine aC.2 ⟨rfl,hc,?_,fun u hu=>?_⟩
   ·simp only[bX,eE]; rw[aN (by omega)]; omega
   ·rcases dH.1 hu with h | h
    ·exact hbs u h
    ·cases bY.1 h; exact hv
  ·rw[aE (cB (by omega))];refine aC.2 ?_;have hbe:b6.length=e.Args.length:=by omega
   show Sq b _ Sm;simp only[sel];have z0:(0:Int).toNat=0:=rfl;have z1:(1:Int).toNat=1:=rfl;have hop:e.Op=0\/e.Op=1\/e.Op=2\/e.Op=3\/e.Op=4\/e.Op=5\/e.Op=6\/e.Op=7\/e.Op=20\/e.Op=22\/(8<=e.Op/\e.Op<=19):=by omega
   rcases hop with h | h | h | h | h | h | h | h | h | h | h
   ·rw[aA (by rw[h]; rfl),iE]; exact aC.2 (tM _)
   ·simp (decide:=true) only[h,↓reduceIte];exact aC.2 (by show e.S.size<=_; omega)
   ·simp (decide:=true) only[h,↓reduceIte,jD];exact aC.2 (By _)
   ·have:=c3 h;have hn:=hf.nc;simp (decide:=true) only[h,↓reduceIte];rw[aA (by omega)];exact aC.2 (Dm hf.row (by omega))
   ·have:=c4 h;have hn:=hf.np;simp (decide:=true) only[h,↓reduceIte];rw[aA (by omega)];exact aC.2 (Dm hf.params (by omega))
   ·simp (decide:=true) only[h,↓reduceIte,iE];exact aC.2 (tM _)
   ·have:=c1 (by omega);simp (decide:=true) only[h,↓reduceIte,jD];rw[aA ⟨trivial,by omega⟩,aA (by show 0<b6.length; omega)];exact aC.2 (By _)
   ·have:=c1 (by omega);simp (decide:=true) only[h,↓reduceIte,iE];rw[aA ⟨trivial,by omega⟩,aA (by show 0<b6.length; omega)];exact aC.2 (tM _)
   ·have:=c1 (by omega);simp (decide:=true) only[h,↓reduceIte,iE];rw[aA ⟨trivial,by omega⟩,aA (by show 0<b6.length; omega)];exact aC.2 (tM _)
   ·have hc2:=c22 h;simp (decide:=true) only[h,↓reduceIte];rw[aA (by rw[hfun]; omega)];rw[hfun];refine Sq.bind _ (hrec k' (_,_) hc2.2.2 ⟨fs,0,e.Args.length,⟨rfl,rfl,hbe,fun v hv=>(by cases hv),hbs⟩,hb h⟩) fun v hv=>aC.2 hv
   ·have h2:=c2 h;have p0:Sm (b6.getD 0 default):=Dm hbs (by omega);have p1:Sm (b6.getD 1 default):=Dm hbs (by omega);have d0:(0:Int)<=0/\(0:Int)<(b6.length:Int):=⟨by omega,by omega⟩;have d1:(0:Int)<=1/\(1:Int)<(b6.length:Int):=⟨by omega,by omega⟩;have d2:0<b6.length:=by omega
    have d3:1<b6.length:=by omega
    have hop:e.Op=8\/e.Op=9\/e.Op=10\/e.Op=11\/e.Op=12\/e.Op=13\/e.Op=14\/e.Op=15\/e.Op=16\/e.Op=17\/e.Op=18\/e.Op=19:=by omega
    rcases hop with h | h | h | h | h | h | h | h | h | h | h | h
    ·simp (decide:=true) only[h,↓reduceIte];change Sq b (((some 225:Option Nat).bind _).bind _) Sm;simp only[aJ,Tr.den,z0,z1];rw[aA ⟨trivial,by omega⟩,aA d2,aA ⟨trivial,by omega⟩,aA d3,Wp];exact aC.2 (lZ 8 (b6.getD 0 default) (b6.getD 1 default))
    ·simp (decide:=true) only[h,↓reduceIte];change Sq b (((some 226:Option Nat).bind _).bind _) Sm;simp only[aJ,Tr.den,z0,z1];rw[aA ⟨trivial,by omega⟩,aA d2,aA ⟨trivial,by omega⟩,aA d3,Zb];exact aC.2 (lZ 9 (b6.getD 0 default) (b6.getD 1 default))
    ·simp (decide:=true) only[h,↓reduceIte];change Sq b (((some 227:Option Nat).bind _).bind _) Sm;simp only[aJ,Tr.den,z0,z1];rw[aA ⟨trivial,by omega⟩,aA d2,aA ⟨trivial,by omega⟩,aA d3,Vy];exact aC.2 (lZ 10 (b6.getD 0 default) (b6.getD 1 default))
    ·simp (decide:=true) only[h,↓reduceIte];change Sq b (((some 228:Option Nat).bind _).bind _) Sm;simp only[aJ,Tr.den,z0,z1];rw[aA ⟨trivial,by omega⟩,aA d2,aA ⟨trivial,by omega⟩,aA d3,Xx];exact aC.2 (lZ 11 (b6.getD 0 default) (b6.getD 1 default))
    ·simp (decide:=true) only[h,↓reduceIte];change Sq b (((some 229:Option Nat).bind _).bind _) Sm;simp only[aJ,Tr.den,z0,z1];rw[aA ⟨trivial,by omega⟩,aA d2,aA ⟨trivial,by omega⟩,aA d3,Ws];exact aC.2 (lZ 12 (b6.getD 0 default) (b6.getD 1 default))
    ·simp (decide:=true) only[h,↓reduceIte];change Sq b (((some 230:Option Nat).bind _).bind _) Sm;simp only[aJ,Tr.den,z0,z1];rw[aA ⟨trivial,by omega⟩,aA d2,aA ⟨trivial,by omega⟩,aA d3,Wu];exact aC.2 (lZ 13 (b6.getD 0 default) (b6.getD 1 default))
    ·simp (decide:=true) only[h,↓reduceIte];change Sq b (((some 231:Option Nat).bind _).bind _) Sm;simp only[aJ,Tr.den,z0,z1];rw[aA ⟨trivial,by omega⟩,aA d2,aA ⟨trivial,by omega⟩,aA d3,Xh];exact aC.2 (lZ 14 (b6.getD 0 default) (b6.getD 1 default))
    ·simp (decide:=true) only[h,↓reduceIte];change Sq b (((some 232:Option Nat).bind _).bind _) Sm;simp only[aJ,Tr.den,z0,z1];rw[aA ⟨trivial,by omega⟩,aA d2,aA ⟨trivial,by omega⟩,aA d3,Wi];exact aC.2 (lZ 15 (b6.getD 0 default) (b6.getD 1 default))
    ·simp (decide:=true) only[h,↓reduceIte];change Sq b (((some 233:Option Nat).bind _).bind _) Sm;simp only[aJ,Tr.den,z0,z1];rw[aA ⟨trivial,by omega⟩,aA d2,aA ⟨trivial,by omega⟩,aA d3,Yf];exact aC.2 (lZ 16 (b6.getD 0 default) (b6.getD 1 default))
    ·simp (decide:=true) only[h,↓reduceIte];change Sq b (((some 234:Option Nat).bind _).bind _) Sm;simp only[aJ,Tr.den,z0,z1];rw[aA ⟨trivial,by omega⟩,aA d2,aA ⟨trivial,by omega⟩,aA d3,Wh];exact aC.2 (lZ 17 (b6.getD 0 default) (b6.getD 1 default))
    ·simp (decide:=true) only[h,↓reduceIte];change Sq b (((some 235:Option Nat).bind _).bind _) Sm;simp only[aJ,Tr.den,z0,z1];rw[aA ⟨trivial,by omega⟩,aA d2,aA ⟨trivial,by omega⟩,aA d3,Wz];exact aC.2 (lZ 18 (b6.getD 0 default) (b6.getD 1 default))
    ·simp (decide:=true) only[h,↓reduceIte];change Sq b (((some 236:Option Nat).bind _).bind _) Sm;simp only[aJ,Tr.den,z0,z1];rw[aA ⟨trivial,by omega⟩,aA d2,aA ⟨trivial,by omega⟩,aA d3,aOB _ (by have q0:=p0; have q1:=p1; unfold Sm at q0 q1; show (b6.getD 0 default).S.size+(b6.getD 1 default).S.size<=_; omega)];exact aC.2 (lZ 19 (b6.getD 0 default) (b6.getD 1 default))
inductive OkI (ar:Nat->Nat)(n:Nat):Nat->Nat->bO->Prop
 | mk {nc np:Nat} {e:bO} (hs:e.S.size<=1048576) (hl:e.Args.length<=1048576) (ho:0<=e.Op/\e.Op<=22)
   (hA:∀ i,i<e.Args.length->OkI ar n nc np (e.Args.getD i default))
   (c3:e.Op=3->0<=e.N/\e.N<nc) (c4:e.Op=4->0<=e.N/\e.N<np) (c1:e.Op=6\/e.Op=7\/e.Op=20->1<=e.Args.length) (c2:8<=e.Op/\e.Op<=19->2<=e.Args.length)
   (c21:e.Op=21->3<=e.Args.length) (c22:e.Op=22->0<=e.N/\e.N<n/\e.Args.length=ar e.N.toNat):OkI ar n nc np e
theorem Ku(f:Nat->Nat):∀ n,∃ H,∀ i,i<n->f i<H
 | 0=>⟨0,fun i hi=>absurd hi (Ad i)⟩
 | n+1=>by
  obtain⟨H,hH⟩:=Ku f n;refine⟨H+f n+1,fun i hi=>?_⟩;rcases mE i n with h | h
  ·have:=hH i h; omega
  ·have:i=n:=by omega
   subst this; omega
theorem aPO(hB:∀ i,i<fs.length->OkI (fun k=>(fs.getD k default).Params.length) i 0 (fs.getD i default).Params.length (fs.getD i default).Body):
  ∀ j,j<=fs.length->∀ nc np e,OkI (fun k=>(fs.getD k default).Params.length) j nc np e->∃ h,OkE fs nc np h e:=by
 intro j
 induction j using Nat.strongRecOn with
 | _ j ih=>
  intro hj nc np e he
  induction he with
  | @mk e hs hl ho hA c3 c4 c1 c2 c21 c22 ihA=>
   have hc:∀ i,∃ h,i<e.Args.length->OkE fs nc np h (e.Args.getD i default):=fun i=>by
    by_cases hi:i<e.Args.length
    ·obtain⟨h,hh⟩:=ihA i hi;exact⟨h,fun _=>hh⟩
    ·exact⟨0,fun h=>absurd h hi⟩
   let hm:Nat->Nat:=fun i=>if i<e.Args.length then (hc i).choose else 0
   have hmA:∀ i,i<e.Args.length->OkE fs nc np (hm i) (e.Args.getD i default):=fun i hi=>by show OkE fs nc np (if i<e.Args.length then (hc i).choose else 0) _;rw[aA hi];exact(hc i).choose_spec hi
   obtain⟨H,hH⟩:=Ku hm e.Args.length;obtain⟨k,hk⟩:∃ k,e.Op=22->OkE fs 0 e.Args.length k (fs.getD e.N.toNat default).Body:=by
    by_cases h22:e.Op=22
    ·obtain⟨g1,g2,g3⟩:=c22 h22;obtain⟨k,hk⟩:=ih e.N.toNat (by omega) (by omega) 0 _ _ (hB e.N.toNat (by omega));exact⟨k,fun _=>by rw[g3]; exact hk⟩
    ·exact⟨0,fun h=>absurd h h22⟩
   refine⟨H+k+1,.mk k hm hs hl ho (fun i=>?_) hmA c3 c4 c1 c2 c21 (fun h=>?_) hk⟩
   ·by_cases hi:i<e.Args.length
    ·have:=hH i hi; omega
    ·show (if i<e.Args.length then (hc i).choose else 0)<_;rw[aE hi]; omega
   ·obtain⟨g1,g2,g3⟩:=c22 h;exact⟨g1,by omega,by omega⟩
theorem Ed(n:Int):aMB n=some (decide (0<=n/\n<3)):=by
 by_cases h:0<=n
 ·simp[aMB,aKJ,Tr.den,h]
 ·simp[aMB,aKJ,Tr.den,h]
def aCV(op:Int):Int:=
 if 0<=op/\op<=5 then 0 else if op=6\/op=7\/op=20 then 1 else if op=21 then 3 else if op=22 then -1 else if 5<op/\op<21 then 2 else -1
theorem Zh(op:Int):aVY op=some (aCV op):=by
 have hs:op=0\/op=1\/op=2\/op=3\/op=4\/op=5\/op=6\/op=7\/op=20\/op=21\/op=22\/(op<0\/(8<=op/\op<=19)\/22<op):=by omega
 rcases hs with h | h | h | h | h | h | h | h | h | h | h | h
 iterate 11 (subst h; rfl)
 have n0:(op==0)=false:=by simp; omega
 have n1:(op==1)=false:=by simp; omega
 have n2:(op==2)=false:=by simp; omega
 have n3:(op==3)=false:=by simp; omega
 have n4:(op==4)=false:=by simp; omega
 have n5:(op==5)=false:=by simp; omega
 have n6:(op==6)=false:=by simp; omega
 have n7:(op==7)=false:=by simp; omega
 have n20:(op==20)=false:=by simp; omega
 have n21:(op==21)=false:=by simp; omega
 have n22:(op==22)=false:=by simp; omega
 have q1:¬ (0<=op/\op<=5):=by omega
 have q2:¬ (op=6\/op=7\/op=20):=by omega
 have q3:¬ op=21:=by omega
 have q4:¬ op=22:=by omega
 unfold aVY aXN aCV;rw[aE q1,aE q2,aE q3,aE q4];simp only[Tr.den,n0,n1,n2,n3,n4,n5,n6,n7,n20,n21,n22,aJ,dO,dL];by_cases h1:op>5
 ·have h1':5<op:=h1;by_cases h2:op<21
  ·rw[aA (bJ h1),aA ⟨h1',h2⟩,qL h2]; rfl
  ·rw[aA (bJ h1),aE (fun h=>h2 h.2),gI h2]; rfl
 ·have:¬ (5<op/\op<21):=by omega
  rw[aE (cB h1),aE this]; rfl
theorem Wb(l:List Int)(n:Int):Sp (aGK l n) (fun r=>r.2=true->0<=n/\n<l.length):=by
 unfold aGK aPK;simp only[Tr.den];by_cases h1:n<0
 ·rw[aA (bJ h1)];exact aC.2 (fun h=>by cases h)
 ·rw[aE (cB h1)];by_cases h2:n>=(l.length:Int)
  ·simp only[aJ,qL h2,fJ];exact aC.2 (fun h=>by cases h)
  ·simp only[aJ,gI h2,dO,dL];rw[aA (by omega),aA (by omega),Ed];exact aC.2 (fun _=>by omega)
theorem aQC(fs:List aV)(n:Int)(l:List Int)(hl:l.length<=1048576):Sp (aFO fs n l) (fun r=>r.2=true->0<=n/\n<fs.length/\l.length=(fs.getD n.toNat default).Params.length):=by
 unfold aFO aQA;simp only[Tr.den];by_cases h1:n<0
 ·rw[aA (bJ h1)];exact aC.2 (fun h=>by cases h)
 ·rw[aE (cB h1)];by_cases h2:n>=(fs.length:Int)
  ·simp only[aJ,qL h2,fJ];exact aC.2 (fun h=>by cases h)
  ·simp only[aJ,gI h2,dO,dL];rw[aA (by omega)];by_cases h3:((fs.getD n.toNat default).Params.length:Int)=(l.length:Int)
   ·rw[aE (by simpa using h3)];refine bU.2 (mU (fun s:Int=>s) l.length (by omega) (fun _=>True) (fun s k _ hk hkN=>?_) trivial rfl);subst hk;unfold Md;simp only[Tr.den,aR];by_cases hc:k<l.length
    ·rw[aA (bJ (by omega)),aA (by omega),aA (by omega)];split
     ·exact aC.2 (aC.2 (fun h=>by cases h))
     ·exact aC.2 ⟨rfl,hc,trivial⟩
    ·rw[aE (cB (by omega))];exact aC.2 (aC.2 (fun _=>by omega))
   ·rw[aA (by simpa using h3)];exact aC.2 (fun h=>by cases h)
theorem Sq.of{α:Type}{b:Bool}{x:Option α}{Q:α->Prop}(h:Sp x Q):Sq b x Q:=⟨h.1,fun _=>h.2 rfl⟩
inductive vV:bO->Prop
 | mk {e:bO} (hs:e.S.size<=1048576) (hl:e.Args.length<=1048576) (hA:∀ i,i<e.Args.length->vV (e.Args.getD i default)):vV e
theorem uB{x:bO}(h:x∈e.Args):SizeOf.sizeOf x<SizeOf.sizeOf e:=by
 cases e with
 | mk a b s l=>have:=List.sizeOf_lt_of_mem h;simp only[bO.Args]at this;simp only[bO.mk.sizeOf_spec];omega
abbrev arF (fs:List aV)(k:Nat):Nat:=(fs.getD k default).Params.length
theorem aOF(fs:List aV)(cs ps:List Int)(e:bO)(he:vV e):Sp (aVE fs cs ps e) (fun r=>r.2=true->OkI (arF fs) fs.length cs.length ps.length e):=by
 refine mJ (C:=fun (a:(List aV)×(List Int)×(List Int)×bO) (x:Option (Int×Bool))=>Con Proofs.Tryz.prog 212 [.t (eL bK (a.1)),.t (eL bR (a.2.1)),.t (eL bR (a.2.2.1)),.t (dE a.2.2.2)] x (fun (y:Int×Bool)=>.tup [.t (.int .i64 (y.1)),.t (.bool (y.2))])) (fun a=>⟨bS Proofs.Tryz.func212 (by kernel_rfl),fun _ h=>nomatch h⟩) (fun rec a=>Tz rec a.1 a.2.1 a.2.2.1 a.2.2.2) (fun rec a=>Mz rec a.1 a.2.1 a.2.2.1 a.2.2.2)
  (fun a=>vV a.2.2.2) (fun a=>SizeOf.sizeOf a.2.2.2) (fun a r=>r.2=true->OkI (arF a.1) a.1.length a.2.1.length a.2.2.1.length a.2.2.2) (fun b r a ha hrec=>?_) true (fs,cs,ps,e) he
 clear he fs cs ps e;obtain⟨fs,cs,ps,e⟩:=a;simp only at ha hrec ⊢;cases ha with
 | mk hs hl hA=>
 have hr:∀ i,i<e.Args.length->Sq b (r.1 (fs,cs,ps,e.Args.getD i default)) (fun r=>r.2=true->OkI (arF fs) fs.length cs.length ps.length (e.Args.getD i default)):=fun i hi=>hrec _ (hA i hi) (uB (aQ hi));unfold Tz;simp only[Tr.den];refine bU.2 (mU (fun s:List Int×Int=>s.2) e.Args.length (by omega) (fun s=>(s.1.length:Int)=s.2/\∀ i:Nat,(i:Int)<s.2->OkI (arF fs) fs.length cs.length ps.length (e.Args.getD i default)) (fun s k hI hk hkN=>?_) ⟨rfl,fun i hi=>absurd hi (by show ¬ ((i:Int)<0); omega)⟩ rfl);obtain⟨b3,v2⟩:=s;obtain⟨hbl,hbs⟩:=hI;simp only at hk hbl hbs;subst hk;unfold Nc;simp only[Tr.den,aR];by_cases hc:k<e.Args.length
 ·rw[aA (bJ (by omega)),aA (by omega)];refine Sq.bind _ (hr k hc) fun v hv=>?_;by_cases hv2:v.2=true
  ·rw[aE (by rw[hv2]; decide),aA (by simp only[eE]; omega)];refine aC.2 ⟨rfl,hc,?_,fun i hi=>?_⟩
   ·simp only[bX,eE]; rw[aN (by omega)]; omega
   ·simp only at hi;rw[aN (by omega)]at hi;rcases mE i k with h | h
    ·exact hbs i (by omega)
    ·have:i=k:=by omega
     subst this; exact hv hv2
  ·rw[aA (by simp only[Bool.not_eq_true]at hv2; rw[hv2]; rfl)];exact aC.2 (aC.2 (fun h=>by cases h))
 ·rw[aE (cB (by omega))];refine aC.2 ?_;have hbe:b3.length=e.Args.length:=by omega
  have hA':∀ i,i<e.Args.length->OkI (arF fs) fs.length cs.length ps.length (e.Args.getD i default):=fun i hi=>hbs i (by omega);simp only[sel];refine Sq.bind (fun s:List Int×Bool=>s.1=b3) (by split <;> exact aC.2 rfl) (fun s hsb=>?_);obtain⟨j5,j6⟩:=s;simp only at hsb;subst hsb;cases j6 with
  | true=>exact aC.2 (fun h=>by cases h)
  | false=>
   simp only[dO,dL];by_cases h22:e.Op=22
   ·rw[aA (by rw[h22]; rfl)];refine Sq.bind _ (Sq.of (aQC fs e.N j5 (by omega))) fun r hr=>aC.2 (fun h=>?_);have h3:=hr h;exact .mk hs hl (by omega) hA' (fun h=>by omega) (fun h=>by omega) (fun h=>by omega) (fun h=>by omega) (fun h=>by omega) (fun _=>⟨h3.1,h3.2.1,by rw[<-hbe]; exact h3.2.2⟩)
   ·rw[aE (by simpa using h22),Zh];simp only[aJ];by_cases hN:aCV e.Op=(j5.length:Int)
    ·rw[aE (by simpa using hN)];have hh:(0<=e.Op/\e.Op<=21)/\(e.Op=6\/e.Op=7\/e.Op=20->1<=j5.length)/\(8<=e.Op/\e.Op<=19->2<=j5.length)/\(e.Op=21->3<=j5.length):=by
      unfold aCV at hN
      repeat' split at hN
      all_goals omega
     obtain⟨ho,c1,c2,c21⟩:=hh;have fin:(e.Op=3->0<=e.N/\e.N<cs.length)->(e.Op=4->0<=e.N/\e.N<ps.length)->OkI (arF fs) fs.length cs.length ps.length e:=fun c3 c4=>
      .mk hs hl (by omega) hA' c3 c4 (fun h=>by have:=c1 h; omega) (fun h=>by have:=c2 h; omega) (fun h=>by have:=c21 h; omega) (fun h=>absurd h h22)
     clear hN;by_cases h3:e.Op=3
     ·simp (decide:=true) only[h3,↓reduceIte];refine Sq.bind _ (Sq.of (Wb cs e.N)) fun r hr=>aC.2 (fun h=>fin (fun _=>hr h) (fun h=>by omega))
     by_cases h4:e.Op=4
     ·simp (decide:=true) only[h4,↓reduceIte];refine Sq.bind _ (Sq.of (Wb ps e.N)) fun r hr=>aC.2 (fun h=>fin (fun h=>by omega) (fun _=>hr h))
     have fin':=fin (fun h=>absurd h h3) (fun h=>absurd h h4);by_cases hu:e.Op=0\/e.Op=1\/e.Op=2\/e.Op=5
     ·rcases hu with h | h | h | h
      all_goals simp (decide:=true) only[h,↓reduceIte]
      all_goals repeat' (first | exact aC.2 (fun _=>fin') | split)
     by_cases hu1:e.Op=6\/e.Op=7\/e.Op=20
     ·have g0:(0:Int)<(j5.length:Int):=by have:=c1 hu1; omega
      have g0':Int.toNat 0<j5.length:=by show 0<j5.length; omega
      rcases hu1 with h | h | h
      all_goals simp (decide:=true) only[h,g0,g0',nD,↓reduceIte]
      all_goals repeat' (first | exact aC.2 (fun _=>fin') | split)
     have l2:2<=j5.length:=by
      by_cases h:e.Op=21
      ·have:=c21 h; omega
      ·exact c2 (by omega)
     have g0:(0:Int)<(j5.length:Int):=by omega
     have g0':Int.toNat 0<j5.length:=by show 0<j5.length; omega
     have g1:(1:Int)<(j5.length:Int):=by omega
     have g1':Int.toNat 1<j5.length:=by show 1<j5.length; omega
     have hop:e.Op=8\/e.Op=9\/e.Op=10\/e.Op=11\/e.Op=12\/e.Op=13\/e.Op=14\/e.Op=15\/e.Op=16\/e.Op=17\/e.Op=18\/e.Op=19\/e.Op=21:=by omega
     rcases hop with h | h | h | h | h | h | h | h | h | h | h | h | h
     iterate 12
      ·simp (decide:=true) only[h,g0,g0',g1,g1',nD,↓reduceIte,aJ]
       repeat' (first | exact aC.2 (fun _=>fin') | split)
     have l3:=c21 h;have g2:(2:Int)<(j5.length:Int):=by omega
     have g2':Int.toNat 2<j5.length:=by show 2<j5.length; omega
     simp (decide:=true) only[h,g0,g0',g1,g1',g2,g2',nD,↓reduceIte,aJ]
     repeat' (first | exact aC.2 (fun _=>fin') | split)
    ·rw[aA (by simpa using hN)];exact aC.2 (fun h=>by cases h)
theorem Yp(e:bO)(h:vV e):Sp (G80 e) (fun _=>True):=by
 refine mJ (C:=fun (a:bO) (x:Option (Int))=>Con Proofs.Tryz.prog 130 [.t (dE a)] x (fun (y:Int)=>.t (.int .i64 (y)))) (fun a=>⟨bS Proofs.Tryz.func130 (by kernel_rfl),fun _ h=>nomatch h⟩) (fun rec a=>T80 rec a) (fun rec a=>Ti rec a)
  vV (fun e=>SizeOf.sizeOf e) (fun _ _=>True) (fun b f e he hrec=>?_) true e h
 cases he with
 | mk hs hl hA=>
 unfold T80;simp only[Tr.den,bU];refine mU (fun s:Int×Int=>s.2) e.Args.length (by omega) (fun _=>True) (fun s k _ hk hkN=>?_) trivial rfl;obtain⟨v1,v2⟩:=s;simp only at hk;subst hk;unfold Ve;simp only[Tr.den,aR];by_cases hc:k<e.Args.length
 ·rw[aA (bJ (by omega)),aA (by omega)];refine Sq.bind _ (hrec _ (hA k hc) (uB (aQ hc))) fun r _=>aC.2 ⟨rfl,hc,trivial⟩
 ·rw[aE (cB (by omega))];exact aC.2 (aC.2 trivial)
theorem Fg(fs:List aV)(cs ps:List Int)(e:bO)(he:vV e):Sp (qG fs cs ps e) (fun r=>r.2=true->OkI (arF fs) fs.length cs.length ps.length e):=by
 unfold qG aKF;simp only[Tr.den];refine Sq.bind _ (Yp e he) fun r _=>?_;split
 ·exact aC.2 (fun h=>by cases h)
 ·refine Sq.bind _ (aOF fs cs ps e he) fun r2 h2=>?_;split
  ·exact aC.2 (fun h=>by cases h)
  ·rename_i h3;exact aC.2 (fun _=>h2 (by simpa using h3))
theorem aJT(fs:List aV)(hl:fs.length<=1048576)(hb:∀ i,i<fs.length->vV (fs.getD i default).Body/\(fs.getD i default).Params.length<=1048576):
  Sp (G82 fs) (fun ok=>ok=true->fs.length<=20/\∀ i,i<fs.length->OkI (arF (fs.take i)) (fs.take i).length 0 (fs.getD i default).Params.length (fs.getD i default).Body):=by
 unfold G82 T82;simp only[Tr.den];refine bU.2 (mU (fun s:Int=>s) fs.length (by omega) (fun s=>∀ i:Nat,(i:Int)<s->OkI (arF (fs.take i)) (fs.take i).length 0 (fs.getD i default).Params.length (fs.getD i default).Body) (fun s k hI hk hkN=>?_) (fun i hi=>absurd hi (by show ¬ ((i:Int)<0); omega)) rfl);subst hk;unfold Tv;simp only[Tr.den,aR];by_cases hc:k<fs.length
 ·rw[aA (bJ (by omega))];by_cases h20:(k:Int)<=20
  ·simp only[aJ,qL h20,fJ];rw[aA (by omega)];have hp:=(hb k hc).2;refine bU.2 (mU (fun s:Int=>s) (fs.getD k default).Params.length (by omega) (fun _=>True) (fun s m _ hm hmN=>?_) trivial rfl);subst hm;unfold Sl;simp only[Tr.den,aR];by_cases hm:m<(fs.getD k default).Params.length
   ·rw[aA (bJ (by omega)),aA (by omega),Ed];simp only[aJ];split
    ·exact aC.2 (aC.2 (aC.2 (fun h=>by cases h)))
    ·exact aC.2 ⟨rfl,hm,trivial⟩
   ·rw[aE (cB (by omega))];refine aC.2 ?_;simp only[sel];rw[aA ⟨by omega,by omega,by omega⟩];have e1:(fs.drop (Int.toNat 0)).take ((k:Int)-0).toNat=fs.take k:=by rw[show ((k:Int)-0).toNat=k by omega]; rfl
    rw[e1,aA ⟨by omega,by omega,by omega⟩];refine Sq.bind _ (Sq.of (Fg (fs.take k) [] (fs.getD k default).Params (fs.getD k default).Body (hb k hc).1)) fun r5 h5=>?_;by_cases ho:r5.2=true
    ·rw[aE (by rw[ho]; decide)];refine Sq.bind (fun _=>True) (by split <;> exact aC.2 trivial) fun j6 _=>?_;cases j6 with
     | true=>exact aC.2 (aC.2 (fun h=>by cases h))
     | false=>
      refine aC.2 ⟨rfl,hc,fun i hi=>?_⟩;rw[aN (by omega)]at hi;rcases mE i k with h | h
      ·exact hI i (by omega)
      ·have:i=k:=by omega
       subst this; exact h5 ho
    ·rw[aA (by simp only[Bool.not_eq_true]at ho; rw[ho]; rfl)];exact aC.2 (aC.2 (fun h=>by cases h))
  ·simp only[aJ,gI h20,dO,dL];refine aC.2 (aC.2 (fun h=>?_));have:=dP h;omega
 ·rw[aE (cB (by omega))];simp only[aJ,dO,dL];refine aC.2 (aC.2 (fun h=>⟨by have:=dP h; omega,fun i hi=>hI i (by omega)⟩))
theorem OkI.congr{ar ar':Nat->Nat}{n:Nat}(h:∀ k,k<n->ar k=ar' k){nc np:Nat}(he:OkI ar n nc np e):OkI ar' n nc np e:=by
 induction he with
 | @mk e hs hl ho hA c3 c4 c1 c2 c21 c22 ih=>exact .mk hs hl ho ih c3 c4 c1 c2 c21 (fun h22=>by obtain⟨g1,g2,g3⟩:=c22 h22;exact⟨g1,g2,by rw[g3]; exact h _ (by omega)⟩)
theorem aFK{i:Nat}(h:k<i):arF (fs.take i) k=arF fs k:=by unfold arF;rw[cF,cF,gT,aA h]
theorem aBK(hl:fs.length<=1048576)(hb:∀ i,i<fs.length->vV (fs.getD i default).Body/\(fs.getD i default).Params.length<=1048576)(h:G82 fs=some true)
  {cs ps:List Int}(he:vV e){t:Int}(ht:qG fs cs ps e=some (t,true)):∃ h,OkE fs cs.length ps.length h e:=by
 have h1:=(aJT fs hl hb).1 _ h rfl;refine aPO (fun i hi=>?_) fs.length (cR _) _ _ e ((Fg fs cs ps e he).1 _ ht rfl);have h2:=h1.2 i hi;rw[cE,Iw (by omega)]at h2;exact h2.congr (fun k hk=>aFK hk)
section
variable {α:Type} [Inhabited α] (tm:α->Int) (nx:Int->α->Int) (hit:Int->Bool) (sz bg:Int)
def isM(t0 now:Int)(l:List α):Bool:=decide (tm (l.getLastD default)-t0<sz)&&hit (l.foldl nx now)
def Hn:Int->List α->Nat->Int
 | _,[],_=>-1
 | i,q::qs,0=>if isM tm nx hit sz (tm q) bg [q]=true then i else -1
 | i,q::qs,k+1=>if isM tm nx hit sz (tm q) bg ((q::qs).take (k+1+1))=true then i else Hn (i+1) qs k
end
end Go.PL
