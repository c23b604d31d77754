/-
  Parts: Plain law: the stable sort of the library: merging in place, and the whole. Own work. Plain law: merging in place sorts; the stable sort sorts. Own work. Plain law: the stable sort of the library sorts. Own work. The kept part of a plain-law text (strip.py). Own work. The kept part of a plain-law text (strip.py). Own work. The kept part of a plain-law text (strip.py). Own work. The kept part of a plain-law text (strip.py). Own work. The kept part of a plain-law text (strip.py). Own work. The kept part of a plain-law text (strip.py). Own work. The kept part of a plain-law text (strip.py). Own work. The kept part of a plain-law text (strip.py). Own work. The kept part of a plain-law text (strip.py). Own work. The kept part of a plain-law text (strip.py). Own work. The kept part of a plain-law text (strip.py). Own work. The kept part of a plain-law text (strip.py). Own work. The kept part of a plain-law text (strip.py). Own work. The kept part of a plain-law text (strip.py). Own work. The kept part of a plain-law text (strip.py). Own work. The kept part of a plain-law text (strip.py). Own work. The kept part of a plain-law text (strip.py). Own work.
-/
import Derived.Test.YtjefblkdnolgaaaGreatDoorMf
import Derived.Lib.Strings
import Derived.Lib.ItoaLen
set_option maxHeartbeats 4000000
namespace Go.PL
open Go
set_option linter.unusedVariables false
variable {a i k n:Nat} {e:bL} {fs:List bE} {l r:List aC} {x y:aC}
def Srt(l:List aC):Prop:=l.Pairwise (fun x y=>ltD y x=false)
theorem Srt.app:Srt (l++r)↔Srt l/\Srt r/\∀ x,x∈l->∀ y,y∈r->ltD y x=false:=by unfold Srt; rw[yC]
theorem Srt.get(h:Srt l){j:Nat}(hij:i<=j)(hj:j<l.length):ltD (l.getD j default) (l.getD i default)=false:=by
 rcases Nat.lt_or_eq_of_le hij with h1 | h1
 ·rw[bR hj,bR (show i<l.length by omega)];exact xM.1 h i j (by omega) hj h1
 ·subst h1; exact iD.irrefl _
theorem oW(h:∀ i j,i<j->j<l.length->ltD (l.getD j default) (l.getD i default)=false):Srt l:=by
 unfold Srt;rw[xM];intro i j hi hj hij;have:=h i j hij hj
 rwa [bR hj,bR hi]at this
theorem Fi{R':Type}(b:Bool)(bd:Int×Int->Option ((Int×Int)⊕(Int⊕R')))(p:Nat->Bool)(i0 j0:Nat)(hij:i0<=j0)
  (hstep:∀ i j:Nat,i0<=i->i<j->j<=j0->bd ((i:Int),(j:Int))=some (.inl (if p ((i+j) / 2)=true then ((((i+j) / 2+1:Nat):Int),(j:Int)) else ((i:Int),(((i+j) / 2:Nat):Int)))))
  (hstop:∀ i:Nat,i0<=i->i<=j0->bd ((i:Int),(i:Int))=some (.inr (.inl (i:Int))))(mono:∀ h k,i0<=k->k<=h->h<j0->p h=true->p k=true):
  Sq b (cO bd ((i0:Int),(j0:Int))) (sel (fun r:Int=>∃ n:Nat,r=n/\i0<=n/\n<=j0/\(∀ k,i0<=k->k<n->p k=true)/\(∀ k,n<=k->k<j0->p k=false)) (fun _=>False)):=by
 refine Sq.while (fun s=>∃ i j:Nat,s=((i:Int),(j:Int))/\i0<=i/\i<=j/\j<=j0/\(∀ k,i0<=k->k<i->p k=true)/\(∀ k,j<=k->k<j0->p k=false)) (fun s=>(s.2-s.1).toNat) (fun s hs=>?_)
  ⟨i0,j0,rfl,eE _,hij,eE _,fun k h1 h2=>by omega,fun k h1 h2=>by omega⟩
 obtain⟨i,j,rfl,h1,h2,h3,h4,h5⟩:=hs;by_cases hlt:i<j
 ·rw[hstep i j h1 hlt h3];refine aB.2 ?_;by_cases hp:p ((i+j) / 2)=true
  ·rw[aA hp];refine⟨⟨(i+j) / 2+1,j,rfl,by omega,by omega,h3,fun k hk1 hk2=>?_,h5⟩,by simp only; omega⟩;exact mono ((i+j) / 2) k hk1 (by omega) (by omega) hp
  ·rw[aE hp];refine⟨⟨i,(i+j) / 2,rfl,h1,by omega,by omega,h4,fun k hk1 hk2=>?_⟩,by simp only; omega⟩;cases hpk:p k with
   | false=>rfl
   | true=>exact absurd (mono k ((i+j) / 2) (by omega) hk1 hk2 hpk) hp
 ·have:i=j:=by omega
  subst this;rw[hstop i h1 h3];exact aB.2 ⟨i,rfl,h1,h3,h4,h5⟩
section
variable (P A B Q:List aC)
theorem Xy(P B R:List aC)(x:aC)(e:Int)(he:e=((P.length+B.length+1:Nat):Int))(hn:(P++x::(B++R)).length<=1000000000000000):
  cO (fun s=>(jQ e s).den) (P++x::(B++R),(P.length:Int))=some (.inl (P++(B++x::R))):=by
 subst he;simp only[bU,dO]at hn;have h:=bG (bd:=fun s=>(jQ ((P.length+B.length+1:Nat):Int) s).den) (fun t=>(P++(B.take t++x::(B.drop t++R)),((P.length+t:Nat):Int))) B.length (r:=.inl (P++(B++x::R))) (fun t ht=>?_) ?_
 ·simpa using h
 ·have hL:(P++(B.take t++x::(B.drop t++R))).length=P.length+B.length+1+R.length:=by simp; omega
  unfold jQ;simp only[Tr.den];rw[qL (by omega),aP (by omega)];simp only[aX];rw[hL];rw[aA (by simp; omega),aA (by omega),aA (by omega),aA (by omega),aA (by omega),aA (by omega),aA (by omega),aA (by omega),aA (by omega),aA (by simp; omega)];have h2:=Cz (P++B.take t) x [] (B.getD t default) (B.drop (t+1)++R);rw[aO ht,cV ht];rw[show (P++B.take t).length=P.length+t by simp; omega]at h2;simp only[eS,qK,nL,dC,wR]at h2 ⊢;rw[<-h2];rfl
 ·unfold jQ;simp only[Tr.den];rw[qL (by omega),aE (by simp)];simp
theorem Jz(P A R:List aC)(y:aC)(e k:Int)(he:e=(P.length:Int))(hk:k=((P.length+A.length:Nat):Int))(hn:(P++(A++y::R)).length<=1000000000000000):
  cO (fun s=>(jS e s).den) (P++(A++y::R),k)=some (.inl (P++y::(A++R))):=by
 subst he hk;simp only[bU,dO]at hn;have h:=bG (bd:=fun s=>(jS (P.length:Int) s).den) (fun t=>(P++(A.take (A.length-t)++y::(A.drop (A.length-t)++R)),((P.length+(A.length-t):Nat):Int))) A.length (r:=.inl (P++y::(A++R))) (fun t ht=>?_) ?_
 ·simpa using h
 ·have hL:(P++(A.take (A.length-t)++y::(A.drop (A.length-t)++R))).length=P.length+A.length+1+R.length:=by simp; omega
  unfold jS;simp only[Tr.den];obtain⟨u,hu⟩:∃ u,A.length-t=u+1:=⟨A.length-t-1,by omega⟩;have hu':A.length-(t+1)=u:=by omega
  rw[hu]at hL ⊢;rw[hu'];rw[<-oO,qL (by omega)];simp only[aX];rw[hL];rw[aA (by simp; omega),aA (by omega),aA (by omega),aA (by omega),aA (by omega),aA (by omega),aA (by omega),aA (by omega),aA (by omega),aA (by simp; omega)];have h2:=Vb (P++A.take u) (A.getD u default) [] y (A.drop (u+1)++R);rw[aO (show u<A.length by omega),cV (show u<A.length by omega)];rw[show (P++A.take u).length=P.length+u by simp; omega]at h2;simp only[eS,qK,nL,dC,wR]at h2 ⊢;rw[<-h2];rfl
 ·unfold jS;simp only[Tr.den];rw[aE (by simp)];simp
end
def fW(P A B Q:List aC):Int×Int×Int×List aC:=((P.length:Int),((P.length+A.length:Nat):Int),((P.length+A.length+B.length:Nat):Int),P++(A++(B++Q)))
def aMB(a:Int×Int×Int×List aC):Prop:=∃ P A B Q,a=fW P A B Q/\A≠[]/\B≠[]/\Srt A/\Srt B/\iY (P++(A++(B++Q)))/\(P++(A++(B++Q))).length<=1000000000000000
def aMV(a:Int×Int×Int×List aC)(d:List aC):Prop:=∀ P A B Q,a=fW P A B Q->∃ C,d=P++(C++Q)/\C.Perm (A++B)/\Srt C
theorem xH{P A B Q P' A' B' Q':List aC}(h:fW P A B Q=fW P' A' B' Q'):P=P'/\A=A'/\B=B'/\Q=Q':=by unfold fW at h;simp only[fX]at h;obtain⟨h1,h2,h3,h4⟩:=h;obtain⟨e1,h5⟩:=List.append_inj h4 (by omega);obtain⟨e2,h6⟩:=List.append_inj h5 (by omega);obtain⟨e3,e4⟩:=List.append_inj h6 (by omega);exact⟨e1,e2,e3,e4⟩
theorem Ma{A:List aC}(h:Srt A){h':Nat}(hk:k<=h')(hh:h' < A.length)(x:aC)(hp:ltD (A.getD h' default) x=true):ltD (A.getD k default) x=true:=by
 have:=h.get hk hh;cases hc:ltD (A.getD k default) x with
 | true=>rfl
 | false=>rw[<-hp];exact(iD.ntrans _ _ _ this hc).symm
theorem Gm{A:List aC}(h:Srt A){h':Nat}(hk:k<=h')(hh:h' < A.length)(x:aC)(hp:ltD x (A.getD h' default)=false):ltD x (A.getD k default)=false:=by exact iD.ntrans _ _ _ hp (h.get hk hh)
section
variable (b:Bool) (P A B Q:List aC)
theorem Dg(x:aC)(hB:Srt B)(ho:iY (P++x::(B++Q)))(hn:(P++x::(B++Q)).length<=1000000000000000):
  Sq b (cO (fun s=>(sV (P.length:Int) (P++x::(B++Q)) s).den) (((P.length+1:Nat):Int),((P.length+1+B.length:Nat):Int)))
   (sel (fun r:Int=>∃ n:Nat,r=((P.length+1+n:Nat):Int)/\n<=B.length/\(∀ k,k<n->ltD (B.getD k default) x=true)/\(∀ k,n<=k->k<B.length->ltD (B.getD k default) x=false)) (fun _=>False)):=by
 simp only[bU,dO]at hn;have hL:(P++x::(B++Q)).length=P.length+1+B.length+Q.length:=by simp; omega
 have e1:(P++x::(B++Q)).getD P.length default=x:=by rw[bI,aE (by omega)]; simp
 have e2:∀ k,k<B.length->(P++x::(B++Q)).getD (P.length+1+k) default=B.getD k default:=by intro k hk;rw[bI,aE (by omega),show P.length+1+k-P.length=k+1 by omega,List.getD_cons_succ,bI,aA hk]
 refine(Fi b _ (fun h=>ltD ((P++x::(B++Q)).getD h default) x) (P.length+1) (P.length+1+B.length) (by omega) (fun i j h1 h2 h3=>?_) (fun i h1 h2=>?_) (fun h k h1 h2 h3 h4=>?_)).imp ?_
 ·unfold sV;simp only[Tr.den];rw[nQ (by omega)];simp only[aX];rw[hL];rw[aA (by simp; omega),aA (by omega),aA (by omega),aA (by omega),aA (by omega)];rw[sM _ _ (ho.get _) (ho.get _),e1];simp only[aK];rw[show decide (dD ((P++x::(B++Q)).getD ((i+j) / 2) default) x<0)=ltD ((P++x::(B++Q)).getD ((i+j) / 2) default) x from rfl];cases ltD ((P++x::(B++Q)).getD ((i+j) / 2) default) x with
  | true=>simp only[gK,aK]; rw[aP (by omega)]
  | false=>simp only[dS,dQ,aK]
 ·unfold sV;simp only[Tr.den];rw[aE (by simp)]
 ·obtain⟨k',rfl⟩:∃ k',k=P.length+1+k':=⟨k-(P.length+1),by omega⟩;obtain⟨h',rfl⟩:∃ h',h=P.length+1+h':=⟨h-(P.length+1),by omega⟩;rw[e2 _ (by omega)]at h4 ⊢;exact Ma hB (by omega) (by omega) x h4
 ·intro z hz;cases z with
  | inr z=>exact hz
  | inl z=>
   obtain⟨n,rfl,h1,h2,h3,h4⟩:=hz;refine⟨n-(P.length+1),by omega,by omega,fun k hk=>?_,fun k hk1 hk2=>?_⟩
   ·rw[<-e2 k (by omega)]; exact h3 _ (by omega) (by omega)
   ·rw[<-e2 k hk2]; exact h4 _ (by omega) (by omega)
theorem xW(y:aC)(hA:Srt A)(ho:iY (P++(A++y::Q)))(hn:(P++(A++y::Q)).length<=1000000000000000):
  Sq b (cO (fun s=>(sI ((P.length+A.length:Nat):Int) (P++(A++y::Q)) s).den) ((P.length:Int),((P.length+A.length:Nat):Int)))
   (sel (fun r:Int=>∃ n:Nat,r=((P.length+n:Nat):Int)/\n<=A.length/\(∀ k,k<n->ltD y (A.getD k default)=false)/\(∀ k,n<=k->k<A.length->ltD y (A.getD k default)=true)) (fun _=>False)):=by
 simp only[bU,dO]at hn;have hL:(P++(A++y::Q)).length=P.length+A.length+1+Q.length:=by simp; omega
 have e1:(P++(A++y::Q)).getD (P.length+A.length) default=y:=by rw[bI,aE (by omega),bI,aE (by omega)]; simp
 have e2:∀ k,k<A.length->(P++(A++y::Q)).getD (P.length+k) default=A.getD k default:=by intro k hk;rw[bI,aE (by omega),show P.length+k-P.length=k by omega,bI,aA hk]
 refine(Fi b _ (fun h=>!ltD y ((P++(A++y::Q)).getD h default)) P.length (P.length+A.length) (by omega) (fun i j h1 h2 h3=>?_) (fun i h1 h2=>?_) (fun h k h1 h2 h3 h4=>?_)).imp ?_
 ·unfold sI;simp only[Tr.den];rw[nQ (by omega)];simp only[aX];rw[hL];rw[aA (by simp; omega),aA (by omega),aA (by omega),aA (by omega),aA (by omega)];rw[sM _ _ (ho.get _) (ho.get _),e1];simp only[aK];rw[show decide (dD y ((P++(A++y::Q)).getD ((i+j) / 2) default)<0)=ltD y ((P++(A++y::Q)).getD ((i+j) / 2) default) from rfl];cases ltD y ((P++(A++y::Q)).getD ((i+j) / 2) default) with
  | true=>simp
  | false=>simp; rw[bT] <;> omega
 ·unfold sI;simp only[Tr.den];rw[aE (by simp)]
 ·obtain⟨k',rfl⟩:∃ k',k=P.length+k':=⟨k-P.length,by omega⟩;obtain⟨h',rfl⟩:∃ h',h=P.length+h':=⟨h-P.length,by omega⟩;rw[e2 _ (by omega)]at h4 ⊢;simp only[kE]at h4 ⊢;exact Gm hA (by omega) (by omega) y h4
 ·intro z hz;cases z with
  | inr z=>exact hz
  | inl z=>
   obtain⟨n,rfl,h1,h2,h3,h4⟩:=hz;refine⟨n-P.length,by omega,by omega,fun k hk=>?_,fun k hk1 hk2=>?_⟩
   ·have:=h3 (P.length+k) (by omega) (by omega);rw[e2 k (by omega)]at this; simpa using this
   ·have:=h4 (P.length+k) (by omega) (by omega);rw[e2 k hk2]at this; simpa using this
end
theorem nC(p q:Prop)[Decidable p][Decidable q]:(if decide p=true then some (decide q) else some false)=some (decide (p/\q)):=by by_cases hp:p <;> simp[hp]
theorem dM(h:x∈l.take n):∃ k,k<n/\k<l.length/\x=l.getD k default:=by obtain⟨k,hk,rfl⟩:=Ea.1 h;simp only[cG]at hk;exact⟨k,by omega,by omega,by rw[bR (by omega)]; simp⟩
theorem dH(h:x∈l.drop n):∃ k,n<=k/\k<l.length/\x=l.getD k default:=by obtain⟨k,hk,rfl⟩:=Ea.1 h;simp only[fA]at hk;exact⟨n+k,by omega,by omega,by rw[bR (by omega)]; simp⟩
theorem Srt.take{l:List aC}(h:Srt l)(n:Nat):Srt (l.take n):=Gl (List.take_sublist _ _) h
theorem Srt.drop{l:List aC}(h:Srt l)(n:Nat):Srt (l.drop n):=Gl (List.drop_sublist _ _) h
theorem wC(h:Srt l)(h1:∀ k,k<n->k<l.length->ltD x (l.getD k default)=false)(h2:∀ k,n<=k->k<l.length->ltD (l.getD k default) x=false):Srt (l.take n++x::l.drop n):=by
 rw[show x::l.drop n=[x]++l.drop n from rfl,Srt.app,Srt.app];refine⟨h.take n,⟨qZ _ _,h.drop n,fun a ha y hy=>?_⟩,fun a ha y hy=>?_⟩
 ·simp only[bW]at ha;subst ha;obtain⟨k,h3,h4,rfl⟩:=dH hy;exact h2 k h3 h4
 ·obtain⟨k,h3,h4,rfl⟩:=dM ha;simp only[dA,bW]at hy;rcases hy with rfl | hy
  ·exact h1 k h3 h4
  ·obtain⟨k',h5,h6,rfl⟩:=dH hy;exact h.get (by omega) h6
theorem aCA{A B:List aC}(hA:Srt A)(hB:Srt B){u v:Nat}(hu:u<=A.length)(hv:v<=B.length)
  (h1:0<u->v<B.length->ltD (B.getD v default) (A.getD (u-1) default)=false)(h2:0<v->u<A.length->ltD (A.getD u default) (B.getD (v-1) default)=false)
  {C D:List aC}(hC:C.Perm (A.take u++B.take v))(hD:D.Perm (A.drop u++B.drop v))(sC:Srt C)(sD:Srt D):Srt (C++D)/\(C++D).Perm (A++B):=by
 constructor
 ·rw[Srt.app];refine⟨sC,sD,fun x hx y hy=>?_⟩;have hx:=hC.mem_iff.1 hx;have hy:=hD.mem_iff.1 hy;rw[dA]at hx hy;rcases hx with hx | hx
  ·obtain⟨i,i1,i2,rfl⟩:=dM hx;rcases hy with hy | hy
   ·obtain⟨j,j1,j2,rfl⟩:=dH hy;exact hA.get (by omega) j2
   ·obtain⟨j,j1,j2,rfl⟩:=dH hy;exact iD.ntrans _ _ _ (hB.get j1 j2) (iD.ntrans _ _ _ (h1 (by omega) (by omega)) (hA.get (i:=i) (j:=u-1) (by omega) (by omega)))
  ·obtain⟨i,i1,i2,rfl⟩:=dM hx;rcases hy with hy | hy
   ·obtain⟨j,j1,j2,rfl⟩:=dH hy;exact iD.ntrans _ _ _ (hA.get j1 j2) (iD.ntrans _ _ _ (h2 (by omega) (by omega)) (hB.get (i:=i) (j:=v-1) (by omega) (by omega)))
   ·obtain⟨j,j1,j2,rfl⟩:=dH hy;exact hB.get (by omega) j2
 ·refine(hC.append hD).trans ?_;have e:(A++B).Perm (A.take u++(A.drop u++(B.take v++B.drop v))):=by rw[iI,<-dC,iI]
  refine List.Perm.trans ?_ e.symm;rw[dC];refine yA _ ?_;rw[<-dC,<-dC];exact List.Perm.append_right _ nI
section
variable (b:Bool) (P A B Q:List aC)
theorem Bn(hA:Srt A)(hB:Srt B)(ho:iY (P++(A++(B++Q))))(hn:(P++(A++(B++Q))).length<=1000000000000000)(i0 j0:Nat)(mid:Nat)(hmid:mid=(P.length+(P.length+A.length+B.length)) / 2)
  (h1:P.length<=i0)(h2:i0<=j0)(h3:j0<=P.length+A.length)(h4:j0<=mid)(h5:mid<=B.length+i0):
  Sq b (cO (fun s=>(oJ (P.length:Int) ((P.length+A.length:Nat):Int) ((P.length+A.length+B.length:Nat):Int) (P++(A++(B++Q))) s).den) ((i0:Int),(j0:Int)))
   (sel (fun r:Int=>∃ n:Nat,r=(n:Int)/\i0<=n/\n<=j0/\(∀ c,i0<=c->c<n->ltD (B.getD (mid-1-c) default) (A.getD (c-P.length) default)=false)/\(∀ c,n<=c->c<j0->ltD (B.getD (mid-1-c) default) (A.getD (c-P.length) default)=true)) (fun _=>False)):=by
 simp only[bU]at hn;have hL:(P++(A++(B++Q))).length=P.length+A.length+B.length+Q.length:=by simp; omega
 have e1:∀ k,P.length<=k->k<P.length+A.length->(P++(A++(B++Q))).getD k default=A.getD (k-P.length) default:=by intro k k1 k2;rw[bI,aE (by omega),bI,aA (by omega)]
 have e2:∀ k,P.length+A.length<=k->k<P.length+A.length+B.length->(P++(A++(B++Q))).getD k default=B.getD (k-(P.length+A.length)) default:=by
  intro k k1 k2;rw[bI,aE (by omega),bI,aE (by omega),bI,aA (by omega)]
  congr 1; omega
 refine(Fi b _ (fun c=>!ltD (B.getD (mid-1-c) default) (A.getD (c-P.length) default)) i0 j0 h2 (fun i j q1 q2 q3=>?_) (fun i q1 q2=>?_) (fun h k q1 q2 q3 q4=>?_)).imp ?_
 ·unfold oJ;simp only[Tr.den];rw[nQ (i:=P.length) (j:=P.length+A.length+B.length) (by omega),<-hmid,nQ (i:=i) (j:=j) (by omega)];have w1:IntKind.i64.wrap (IntKind.i64.wrap (IntKind.i64.wrap ((mid:Int)+((P.length+A.length:Nat):Int))-1)-(((i+j) / 2:Nat):Int))=((mid+(P.length+A.length)-1-(i+j) / 2:Nat):Int):=by rw[dI (by omega),bT (n:=((mid+(P.length+A.length):Nat):Int)-1) (by omega) (by omega),bT (by omega) (by omega)];omega
  rw[w1];simp only[aX];rw[hL];rw[aA (by simp; omega),aA (by omega),aA (by omega),aA (by omega),aA (by omega)];rw[sM _ _ (ho.get _) (ho.get _)];simp only[aK];rw[e1 ((i+j) / 2) (by omega) (by omega),e2 (mid+(P.length+A.length)-1-(i+j) / 2) (by omega) (by omega),show mid+(P.length+A.length)-1-(i+j) / 2-(P.length+A.length)=mid-1-(i+j) / 2 by omega];rw[show decide (dD (B.getD (mid-1-(i+j) / 2) default) (A.getD ((i+j) / 2-P.length) default)<0)=ltD (B.getD (mid-1-(i+j) / 2) default) (A.getD ((i+j) / 2-P.length) default) from rfl];cases ltD (B.getD (mid-1-(i+j) / 2) default) (A.getD ((i+j) / 2-P.length) default) with
  | true=>simp
  | false=>simp; rw[bT] <;> omega
 ·unfold oJ;simp only[Tr.den];rw[aE (by simp)]
 ·simp only[kE]at q4 ⊢;exact iD.ntrans _ _ _ (hB.get (i:=mid-1-h) (j:=mid-1-k) (by omega) (by omega)) (iD.ntrans _ _ _ q4 (hA.get (i:=k-P.length) (j:=h-P.length) (by omega) (by omega)))
 ·intro z hz;cases z with
  | inr z=>exact hz
  | inl z=>obtain⟨n,rfl,q1,q2,q3,q4⟩:=hz;refine⟨n,rfl,q1,q2,fun c c1 c2=>by simpa using q3 c c1 c2,fun c c1 c2=>by simpa using q4 c c1 c2⟩
end
theorem aPG(b:Bool)(f:Oh)(P A B Q:List aC)(hA0:A≠[])(hB0:B≠[])(hA:Srt A)(hB:Srt B)(ho:iY (P++(A++(B++Q))))(hn:(P++(A++(B++Q))).length<=1000000000000000)
  (hrec:∀ P' A' B' Q',A'≠[]->B'≠[]->Srt A'->Srt B'->iY (P'++(A'++(B'++Q')))->(P'++(A'++(B'++Q'))).length<=1000000000000000->A'.length+B'.length<A.length+B.length ->
   Sq b (f.1 (fW P' A' B' Q')) (fun d=>∃ C,d=P'++(C++Q')/\C.Perm (A'++B')/\Srt C)):
  Sq b (yE f (P.length:Int) ((P.length+A.length:Nat):Int) ((P.length+A.length+B.length:Nat):Int) (P++(A++(B++Q)))).den (fun d=>∃ C,d=P++(C++Q)/\C.Perm (A++B)/\Srt C):=by
 have hA1:0<A.length:=iZ.2 hA0;have hB1:0<B.length:=iZ.2 hB0;have hn':=hn;simp only[bU]at hn;have hL:(P++(A++(B++Q))).length=P.length+A.length+B.length+Q.length:=by simp; omega
 unfold yE;simp only[Tr.den];rw[dZ (n:=P.length+A.length) (m:=P.length) (by omega) (by omega),dZ (n:=P.length+A.length+B.length) (m:=P.length+A.length) (by omega) (by omega)];by_cases c1:A.length=1
 ·obtain⟨x,rfl⟩:=Fk.1 c1;rw[aA (by simp)];simp only[List.singleton_append,eI]at *
  refine Sq.bind _ (Dg b P B Q x hB ho hn') (fun z hz=>?_);cases z with
  | inr z=>exact hz.elim
  | inl z=>
   obtain⟨n,rfl,h1,h2,h3⟩:=hz;simp only[sel];have hb:B++Q=B.take n++(B.drop n++Q):=by rw[<-dC,iI]
   rw[hb,Xy P (B.take n) (B.drop n++Q) x _ (by simp; omega) (by rw[<-hb]; exact hn')];simp only[aK,sel];refine aB.2 ⟨B.take n++x::B.drop n,by simp,?_,wC hB (fun k k1 k2=>xQ (h2 k k1)) h3⟩;rw[List.perm_middle.congr_left,iI]
 ·rw[aE (by simp; omega)];by_cases c2:B.length=1
  ·obtain⟨y,rfl⟩:=Fk.1 c2;rw[aA (fL (by simp))];simp only[List.singleton_append,eI]at *
   refine Sq.bind _ (xW b P A Q y hA ho hn') (fun z hz=>?_);cases z with
   | inr z=>exact hz.elim
   | inl z=>
    obtain⟨n,rfl,h1,h2,h3⟩:=hz;simp only[sel];have hb:P++(A++y::Q)=(P++A.take n)++(A.drop n++y::Q):=by rw[dC,<-dC (A.take n),iI]
    rw[hb,Jz (P++A.take n) (A.drop n) Q y _ _ (by simp; omega) (by simp; omega) (by rw[<-hb]; exact hn')];simp only[aK,sel];refine aB.2 ⟨A.take n++y::A.drop n,by simp,?_,wC hA (fun k k1 k2=>h2 k k1) (fun k k1 k2=>xQ (h3 k k1 k2))⟩;refine List.perm_middle.trans ?_;rw[iI];exact(List.perm_append_singleton y A).symm
  ·rw[aE (by simp; omega)];rw[nQ (i:=P.length) (j:=P.length+A.length+B.length) (by omega)];generalize hmid:(P.length+(P.length+A.length+B.length)) / 2=mid;have key:∀ (i0 j0:Nat),P.length<=i0->i0<=j0->j0<=P.length+A.length->j0<=mid->mid<=B.length+i0->(i0=P.length\/mid=B.length+i0)->(j0=P.length+A.length\/j0=mid) ->
     ∀ K:Int->Option (List aC),(∀ u v:Nat,u<=A.length->v<=B.length->u+v+P.length=mid->(0<u->v<B.length->ltD (B.getD v default) (A.getD (u-1) default)=false)->(0<v->u<A.length->ltD (A.getD u default) (B.getD (v-1) default)=false) ->
      Sq b (K ((P.length+u:Nat):Int)) (fun d=>∃ C,d=P++(C++Q)/\C.Perm (A++B)/\Srt C)) ->
     Sq b ((cO (fun s=>(oJ (P.length:Int) ((P.length+A.length:Nat):Int) ((P.length+A.length+B.length:Nat):Int) (P++(A++(B++Q))) s).den) ((i0:Int),(j0:Int))).bind (sel K some)) (fun d=>∃ C,d=P++(C++Q)/\C.Perm (A++B)/\Srt C):=by
    intro i0 j0 h1 h2 h3 h4 h5 h6 h7 K hK;refine Sq.bind _ (Bn b P A B Q hA hB ho hn' i0 j0 mid hmid.symm h1 h2 h3 h4 h5) (fun z hz=>?_);cases z with
    | inr z=>exact hz.elim
    | inl z=>
     obtain⟨n,rfl,q1,q2,q3,q4⟩:=hz;simp only[sel];have:=hK (n-P.length) (mid-n) (by omega) (by omega) (by omega) (fun u1 u2=>?_) (fun u1 u2=>?_)
     ·rwa [show P.length+(n-P.length)=n by omega]at this
     ·have:=q3 (n-1) (by omega) (by omega)
      rwa [show mid-1-(n-1)=mid-n by omega,show n-1-P.length=n-P.length-1 by omega]at this
     ·have:=q4 n (by omega) (by omega);rw[show mid-1-n=mid-n-1 by omega]at this;exact xQ this
   have body:∀ u v:Nat,u<=A.length->v<=B.length->u+v+P.length=mid->(0<u->v<B.length->ltD (B.getD v default) (A.getD (u-1) default)=false)->(0<v->u<A.length->ltD (A.getD u default) (B.getD (v-1) default)=false) ->
     Sq b ((if decide (((P.length+u:Nat):Int)<((P.length+A.length:Nat):Int))=true then some (decide (((P.length+A.length:Nat):Int)<IntKind.i64.wrap (IntKind.i64.wrap ((mid:Int)+((P.length+A.length:Nat):Int))-((P.length+u:Nat):Int)))) else some false).bind fun j27=>
      (if j27=true then (uW ((P.length+u:Nat):Int) ((P.length+A.length:Nat):Int) (IntKind.i64.wrap (IntKind.i64.wrap ((mid:Int)+((P.length+A.length:Nat):Int))-((P.length+u:Nat):Int))) (P++(A++(B++Q)))).bind (fun r=>some r) else some (P++(A++(B++Q)))).bind fun j28=>
      (if decide ((P.length:Int)<((P.length+u:Nat):Int))=true then some (decide (((P.length+u:Nat):Int)<(mid:Int))) else some false).bind fun j30=>
      (if j30=true then (f.1 ((P.length:Int),((P.length+u:Nat):Int),(mid:Int),j28)).bind (fun r=>some r) else some j28).bind fun j31=>
      (if decide ((mid:Int)<IntKind.i64.wrap (IntKind.i64.wrap ((mid:Int)+((P.length+A.length:Nat):Int))-((P.length+u:Nat):Int)))=true then some (decide (IntKind.i64.wrap (IntKind.i64.wrap ((mid:Int)+((P.length+A.length:Nat):Int))-((P.length+u:Nat):Int))<((P.length+A.length+B.length:Nat):Int))) else some false).bind fun j33=>
      (if j33=true then (f.1 ((mid:Int),IntKind.i64.wrap (IntKind.i64.wrap ((mid:Int)+((P.length+A.length:Nat):Int))-((P.length+u:Nat):Int)),((P.length+A.length+B.length:Nat):Int),j31)).bind (fun r=>some r) else some j31).bind fun j34=>some j34)
      (fun d=>∃ C,d=P++(C++Q)/\C.Perm (A++B)/\Srt C):=by
    intro u v hu hv huv f1 f2;have w2:IntKind.i64.wrap (IntKind.i64.wrap ((mid:Int)+((P.length+A.length:Nat):Int))-((P.length+u:Nat):Int))=((P.length+A.length+v:Nat):Int):=by rw[dI (by omega),dZ (by omega) (by omega)]; congr 1; omega
    rw[w2];simp only[nC,aK];have eA:=iI u A;have eB:=iI v B;have lA1:(A.take u).length=u:=by simp; omega
    have lB1:(B.take v).length=v:=by simp; omega
    have lA2:(A.drop u).length=A.length-u:=by simp
    have lB2:(B.drop v).length=B.length-v:=by simp
    have hs:P++(A++(B++Q))=(P++A.take u)++(A.drop u++(B.take v++(B.drop v++Q))):=by
     conv=>lhs; rw[<-eA,<-eB]
     simp only[dC]
    refine Sq.bind (fun d=>d=P++(A.take u++(B.take v++(A.drop u++(B.drop v++Q))))) ?_ (fun j28 h28=>?_)
    ·by_cases hc:(((P.length+u:Nat):Int)<((P.length+A.length:Nat):Int))/\(((P.length+A.length:Nat):Int)<((P.length+A.length+v:Nat):Int))
     ·rw[aA (by simpa using hc)];rw[hs]at hn' ⊢;have h:=Fv b (P++A.take u) (A.drop u) (B.take v) (B.drop v++Q) (fun h0=>by have:=congrArg List.length h0; simp only[fA,eS]at this; omega) (fun h0=>by have:=congrArg List.length h0; simp only[cG,eS]at this; omega)
       ((P.length+u:Nat):Int) ((P.length+A.length:Nat):Int) ((P.length+A.length+v:Nat):Int) (by simp; omega) (by simp; omega) (by simp; omega) hn'
      refine Sq.bind _ h (fun d hd=>aB.2 ?_);rw[hd]; simp only[dC]
     ·rw[aE (by simpa using hc)];refine aB.2 ?_;rw[hs];by_cases hu':u=A.length
      ·have:A.drop u=[]:=by subst hu'; simp
       rw[this]; simp
      ·have:v=0:=by omega
       subst this; simp
    subst h28;have oD:iY (P++(A.take u++(B.take v++(A.drop u++(B.drop v++Q))))):=by refine ho.perm ?_;rw[hs];simp only[dC];exact yA _ (yA _ (List.perm_append_comm_assoc _ _ _))
    refine Sq.bind (fun d=>∃ C,d=P++(C++(A.drop u++(B.drop v++Q)))/\C.Perm (A.take u++B.take v)/\Srt C) ?_ (fun j31 h31=>?_)
    ·by_cases hc:((P.length:Int)<((P.length+u:Nat):Int))/\(((P.length+u:Nat):Int)<(mid:Int))
     ·rw[aA (by simpa using hc)];have e:((P.length:Int),((P.length+u:Nat):Int),(mid:Int),P++(A.take u++(B.take v++(A.drop u++(B.drop v++Q)))))=fW P (A.take u) (B.take v) (A.drop u++(B.drop v++Q)):=by unfold fW; rw[lA1,lB1,<-huv]; simp; omega
      rw[e];refine Sq.bind _ (hrec _ _ _ _ (fun h0=>by have:=congrArg List.length h0; simp only[cG,eS]at this; omega) (fun h0=>by have:=congrArg List.length h0; simp only[cG,eS]at this; omega) (hA.take u) (hB.take v) oD (by simp; omega) (by omega)) (fun d hd=>aB.2 hd)
     ·rw[aE (by simpa using hc)];refine aB.2 ⟨A.take u++B.take v,by simp,.refl _,?_⟩;by_cases hu':u=0
      ·subst hu'; simpa using hB.take v
      ·have:v=0:=by omega
       subst this; simpa using hA.take u
    obtain⟨C,rfl,pC,sC⟩:=h31;have lC:C.length=u+v:=by rw[pC.length_eq]; simp; omega
    have fin:∀ D:List aC,D.Perm (A.drop u++B.drop v)->Srt D->Srt (C++D)/\(C++D).Perm (A++B):=fun D pD sD=>aCA hA hB hu hv f1 f2 pC pD sC sD;refine Sq.bind (fun d=>∃ C,d=P++(C++Q)/\C.Perm (A++B)/\Srt C) ?_ (fun j34 h34=>aB.2 h34);by_cases hc:((mid:Int)<((P.length+A.length+v:Nat):Int))/\(((P.length+A.length+v:Nat):Int)<((P.length+A.length+B.length:Nat):Int))
    ·rw[aA (by simpa using hc)];have e:((mid:Int),((P.length+A.length+v:Nat):Int),((P.length+A.length+B.length:Nat):Int),P++(C++(A.drop u++(B.drop v++Q))))=fW (P++C) (A.drop u) (B.drop v) Q:=by unfold fW; rw[lA2,lB2,<-huv]; simp; omega
     rw[e];refine Sq.bind _ (hrec _ _ _ _ (fun h0=>by have:=congrArg List.length h0; simp only[fA,eS]at this; omega) (fun h0=>by have:=congrArg List.length h0; simp only[fA,eS]at this; omega) (hA.drop u) (hB.drop v) ?_ (by simp; omega) (by omega)) (fun d hd=>?_)
     ·refine oD.perm ?_;rw[dC];refine yA _ ?_;rw[<-dC];exact List.Perm.append_right _ pC.symm
     ·obtain⟨D,rfl,pD,sD⟩:=hd;exact aB.2 ⟨C++D,by simp,(fin D pD sD).2,(fin D pD sD).1⟩
    ·rw[aE (by simpa using hc)];have:=fin (A.drop u++B.drop v) (.refl _) (by
      by_cases hu':u=A.length
      ·have:A.drop u=[]:=by subst hu'; simp
       rw[this]; simpa using hB.drop v
      ·have:B.drop v=[]:=by rw[show v=B.length by omega]; simp
       rw[this]; simpa using hA.drop u)
     exact aB.2 ⟨C++(A.drop u++B.drop v),by simp,this.2,this.1⟩
   by_cases hm:mid<P.length+A.length
   ·rw[aA (by simp; omega)];simp only[aK];rw[dI (n:=mid) (m:=P.length+A.length) (by omega),dZ (n:=mid+(P.length+A.length)) (by omega) (by omega),<-dI (n:=mid) (m:=P.length+A.length) (by omega)];exact key (mid+(P.length+A.length)-(P.length+A.length+B.length)) mid (by omega) (by omega) (by omega) (by omega) (by omega) (by omega) (by omega) _ body
   ·rw[aE (by simp; omega)];simp only[aK];exact key P.length (P.length+A.length) (by omega) (by omega) (by omega) (by omega) (by omega) (by omega) (by omega) _ body
theorem Im(P A B Q:List aC)(hA0:A≠[])(hB0:B≠[])(hA:Srt A)(hB:Srt B)(ho:iY (P++(A++(B++Q))))(hn:(P++(A++(B++Q))).length<=1000000000000000):
  Sp (My (P.length:Int) ((P.length+A.length:Nat):Int) ((P.length+A.length+B.length:Nat):Int) (P++(A++(B++Q)))) (fun d=>∃ C,d=P++(C++Q)/\C.Perm (A++B)/\Srt C):=by
 have h:=kV (C:=fun (a:Int×Int×Int×List aC) (x:Option (List aC))=>eT Proofs.Tryz.prog 272 [.own 30000,.t (.int .i64 (a.1)),.t (.int .i64 (a.2.1)),.t (.int .i64 (a.2.2.1)),.fn (.func 183) 0 []] [(30000,.arr 50 3 (a.2.2.2.length) (eF aG a.2.2.2))] [30000] x (fun (y:List aC)=>.tup []) (fun (y:List aC)=>[(30000,.arr 50 3 (y.length) (eF aG y))]))
  (fun a=>⟨bO Proofs.Tryz.func272 (by kernel_rfl),fun _ h=>nomatch h⟩) (fun rec a=>yE rec a.1 a.2.1 a.2.2.1 a.2.2.2) (fun rec a=>Fd rec a.1 a.2.1 a.2.2.1 a.2.2.2)
  aMB (fun a=>(a.2.2.1-a.1).toNat) aMV (fun b f a ha hrec=>?_) true (fW P A B Q) ⟨P,A,B,Q,rfl,hA0,hB0,hA,hB,ho,hn⟩
 ·exact h.imp fun d hd=>hd P A B Q rfl
 ·obtain⟨P,A,B,Q,rfl,hA0,hB0,hA,hB,ho,hn⟩:=ha;refine(aPG b f P A B Q hA0 hB0 hA hB ho hn (fun P' A' B' Q' a1 a2 a3 a4 a5 a6 a7=>?_)).imp fun d hd P' A' B' Q' he=>?_
  ·exact(hrec (fW P' A' B' Q') ⟨P',A',B',Q',rfl,a1,a2,a3,a4,a5,a6⟩ (by simp only[fW]; omega)).imp fun d hd=>hd P' A' B' Q' rfl
  ·obtain⟨rfl,rfl,rfl,rfl⟩:=xH he;exact hd
def eK(a b:Nat)(l:List aC):Prop:=∀ i j,a<=i->i<j->j<b->ltD (l.getD j default) (l.getD i default)=false
structure PI (a b:Nat)(l d:List aC):Prop where
 len:d.length=l.length
 out:∀ k,k<a\/b<=k->d.getD k default=l.getD k default
 perm:d.Perm l
theorem eK.congr{b:Nat}{d:List aC}(h:eK a b l)(he:∀ k,a<=k->k<b->d.getD k default=l.getD k default):eK a b d:=by intro i j h1 h2 h3;rw[he i h1 (by omega),he j (by omega) h3];exact h i j h1 h2 h3
theorem eK.sub{b a' b':Nat}(h:eK a b l)(h1:a<=a')(h2:b'<=b):eK a' b' l:=fun i j q1 q2 q3=>h i j (by omega) q2 (by omega)
theorem rM(a m b:Nat)(l:List aC)(h1:a<m)(h2:m<b)(h3:b<=l.length)(ha:eK a m l)(hb:eK m b l)(ho:iY l)(hn:l.length<=1000000000000000):
  Sp (My (a:Int) (m:Int) (b:Int) l) (fun d=>PI a b l d/\eK a b d):=by
 have e:l=l.take a++((l.drop a).take (m-a)++((l.drop m).take (b-m)++l.drop b)):=by
  have e1:l.drop m=(l.drop m).take (b-m)++l.drop b:=by
   conv=>lhs; rw[<-iI (b-m) (l.drop m)]
   rw[uI,show m+(b-m)=b by omega]
  have e2:l.drop a=(l.drop a).take (m-a)++l.drop m:=by
   conv=>lhs; rw[<-iI (m-a) (l.drop a)]
   rw[uI,show a+(m-a)=m by omega]
  rw[<-e1,<-e2,iI]
 have lP:(l.take a).length=a:=by simp; omega
 have lA:((l.drop a).take (m-a)).length=m-a:=by simp; omega
 have lB:((l.drop m).take (b-m)).length=b-m:=by simp; omega
 have gA:∀ k,k<m-a->((l.drop a).take (m-a)).getD k default=l.getD (a+k) default:=by intro k hk;rw[bR (by omega),bR (by omega)]; simp
 have gB:∀ k,k<b-m->((l.drop m).take (b-m)).getD k default=l.getD (m+k) default:=by intro k hk;rw[bR (by omega),bR (by omega)]; simp
 have h:=Im (l.take a) ((l.drop a).take (m-a)) ((l.drop m).take (b-m)) (l.drop b) (fun h0=>by rw[h0]at lA; simp at lA; omega) (fun h0=>by rw[h0]at lB; simp at lB; omega)
  (oW fun i j hij hj=>by rw[gA i (by omega),gA j (by omega)]; exact ha _ _ (by omega) (by omega) (by omega))
  (oW fun i j hij hj=>by rw[gB i (by omega),gB j (by omega)]; exact hb _ _ (by omega) (by omega) (by omega)) (by rw[<-e]; exact ho) (by rw[<-e]; exact hn)
 rw[lP,lA,lB,<-e,show a+(m-a)=m by omega,show m+(b-m)=b by omega]at h;refine h.imp fun d hd=>?_;obtain⟨C,rfl,pC,sC⟩:=hd;have lC:C.length=b-a:=by rw[pC.length_eq,bU,lA,lB]; omega
 have lD:(l.drop b).length=l.length-b:=by simp
 refine⟨⟨by rw[bU,bU,lP,lC,lD]; omega,fun k hk=>?_,?_⟩,?_⟩
 ·rcases hk with hk | hk
  ·rw[bI,aA (by omega),bR (by omega)];by_cases hl:k<l.length
   ·rw[bR hl]; simp
   ·omega
  ·rw[bI,aE (by omega),bI,aE (by omega),lP,lC];by_cases hl:k<l.length
   ·rw[bR (by omega),bR hl]; simp; congr 1; omega
   ·rw[cF,tY (by omega),cF,tY (by omega)]
 ·conv=>rhs; rw[e]
  refine yA _ ?_;rw[<-dC];exact List.Perm.append_right _ pC
 ·intro i j q1 q2 q3;rw[bI,aE (by omega),bI,aA (by omega),bI,aE (by omega),bI,aA (by omega)];exact sC.get (by omega) (by omega)
theorem vO(a b:Nat)(l:List aC)(hab:a<=b)(hb:b<=l.length)(ho:iY l)(hn:l.length<=1000000000000000):Sp (Gw (a:Int) (b:Int) l) (fun d=>PI a b l d/\eK a b d):=by
 refine Sq.of_eq (Vy a b l hb hab hn ho) ?_;have h:=Sort.insertionSort_holds iD l.toArray a b hab (by simpa using hb);obtain⟨⟨h1,h2,h3⟩,h4⟩:=h;have g:∀ (k:Nat),(Sort.insertionSort ltD l.toArray a b).toList.getD k default=(Sort.insertionSort ltD l.toArray a b)[k]!:=fun k=>by rw[<-fM]
 refine⟨⟨by simpa using h1,fun k hk=>by rw[g,h2 k hk,fM],?_⟩,fun i j q1 q2 q3=>by rw[g,g]; exact h4 i j q1 q2 q3⟩;have h5:=Sort.permIn_mono _ _ a b 0 l.length (by omega) (by omega) (by simp) (show Sort.PermIn a b l.toArray (Sort.insertionSort ltD l.toArray a b) from ⟨h1,h2,h3⟩);have h6:=h5.2.2;rw[show l.length=l.toArray.size by simp]at h6;rw[show (Sort.insertionSort ltD l.toArray a b).extract 0 l.toArray.size=Sort.insertionSort ltD l.toArray a b by rw[<-h1]; simp]at h6;simpa using h6
theorem iJ{w c:Nat}(ha:w∣a)(hc:w∣c)(h:c<a):c+w<=a:=by have:=Nat.le_of_dvd (by omega) (Nat.dvd_sub ha hc);omega
theorem Wl(l:List aC)(ho:iY l)(hn:l.length<=100000000000000):Sp (Nr (l.length:Int) l) (fun d=>d.Perm l/\Srt d):=by
 unfold Nr Mm;simp only[Tr.den,bQ];refine Sq.while (fun s:List aC×Int×Int=>∃ a:Nat,s.2.1=a/\s.2.2=((a+20:Nat):Int)/\20∣a/\a<=l.length/\s.1.Perm l/\∀ c,20∣c->c+20<=a->eK c (c+20) s.1) (fun s=>(l.length-s.2.1).toNat) (fun s hs=>?_)
  ⟨0,rfl,rfl,by simp,by omega,.refl _,fun c h1 h2=>by omega⟩
 obtain⟨d,i,j⟩:=s;obtain⟨a,h1,h2,h3,h4,h5,h6⟩:=hs;simp only at h1 h2 h5 h6;subst h1 h2;have hlen:=h5.length_eq;unfold Fw;simp only[Tr.den];by_cases hc:a+20<=l.length
 ·rw[aA (by simp; omega)];refine bQ.2 ((vO a (a+20) d (by omega) (by omega) (ho.perm h5.symm) (by omega)).imp fun d' hd'=>?_);rw[bT (by omega) (by omega)];refine aB.2 ⟨⟨a+20,rfl,by simp,?_,hc,hd'.1.perm.trans h5,fun c q1 q2=>?_⟩,by simp only; omega⟩
  ·omega
  ·by_cases hca:c<a
   ·exact(h6 c q1 (iJ h3 q1 hca)).congr fun k k1 k2=>hd'.1.out k (.inl (by have:=iJ h3 q1 hca; omega))
   ·have:c=a:=by omega
    subst this; exact hd'.2
 ·rw[aE (by simp; omega)];refine aB.2 ?_;simp only[sel];refine bQ.2 ((vO a l.length d h4 (by omega) (ho.perm h5.symm) (by omega)).imp fun d2 hd2=>?_);obtain⟨p2,s2⟩:=hd2;have hp2:d2.Perm l:=p2.perm.trans h5;have b2:∀ c,20∣c->eK c (min (c+20) l.length) d2:=by
   intro c hc';by_cases hca:c<a
   ·have:=iJ h3 hc' hca;exact((h6 c hc' this).congr fun k k1 k2=>p2.out k (.inl (by omega))).sub (by omega) (by omega)
   ·exact s2.sub (by omega) (by omega)
  clear h6 p2 s2;refine bQ.2 ?_;refine Sq.while (fun s:List aC×Int=>∃ w:Nat,s.2=w/\0<w/\w<=400000000000000/\s.1.Perm l/\∀ c,w∣c->eK c (min (c+w) l.length) s.1) (fun s=>(l.length-s.2).toNat) (fun s hs=>?_) ⟨20,rfl,by omega,by omega,hp2,b2⟩;obtain⟨d,i⟩:=s;obtain⟨w,k1,k2,k3,k4,k5⟩:=hs;simp only at k1 k4 k5;subst k1;unfold Fs;simp only[Tr.den];by_cases hw:w<l.length
  ·rw[aA (by simp; omega)];have e2w:IntKind.i64.wrap (2*(w:Int))=((2*w:Nat):Int):=by rw[bT] <;> omega
   rw[e2w];refine bQ.2 ?_;refine Sq.while (fun s:List aC×Int×Int=>∃ a:Nat,s.2.1=a/\s.2.2=((a+2*w:Nat):Int)/\(2*w)∣a/\a<=l.length/\s.1.Perm l/\(∀ c,(2*w)∣c->c+2*w<=a->eK c (c+2*w) s.1)/\∀ c,w∣c->a<=c->eK c (min (c+w) l.length) s.1) (fun s=>(l.length-s.2.1).toNat) (fun s hs=>?_)
    ⟨0,rfl,by simp,by simp,by omega,k4,fun c q1 q2=>by omega,fun c q1 q2=>k5 c q1⟩
   obtain⟨d,i,j⟩:=s;obtain⟨a,g1,g2,g3,g4,g5,g6,g7⟩:=hs;simp only at g1 g2 g5 g6 g7;subst g1 g2;have hlen:=g5.length_eq;have gw:w∣a:=Nat.dvd_trans ⟨2,by omega⟩ g3;have gw':w∣a+w:=Nat.dvd_add gw (Nat.dvd_refl w);unfold Ey;simp only[Tr.den];by_cases hb:a+2*w<=l.length
   ·rw[aA (by simp; omega),dI (by omega),e2w,dI (by omega)];refine bQ.2 ((rM a (a+w) (a+2*w) d (by omega) (by omega) (by omega) ((g7 a gw (by omega)).sub (by omega) (by omega)) ((g7 (a+w) gw' (by omega)).sub (by omega) (by omega)) (ho.perm g5.symm) (by omega)).imp fun d' hd'=>?_);refine aB.2 ⟨⟨a+2*w,rfl,rfl,Nat.dvd_add g3 (Nat.dvd_refl _),hb,hd'.1.perm.trans g5,fun c q1 q2=>?_,fun c q1 q2=>?_⟩,by simp only; omega⟩
    ·by_cases hca:c<a
     ·have:=iJ g3 q1 hca;exact(g6 c q1 this).congr fun k k1 k2=>hd'.1.out k (.inl (by omega))
     ·have:c=a:=by omega
      subst this; exact hd'.2
    ·exact(g7 c q1 (by omega)).congr fun k k1 k2=>hd'.1.out k (.inr (by omega))
   ·rw[aE (by simp; omega)];refine aB.2 ?_;simp only[sel];rw[dI (by omega)];refine Sq.bind (fun d'=>d'.Perm l/\eK a l.length d'/\∀ k,k<a->d'.getD k default=d.getD k default) ?_ (fun d' hd'=>?_)
    ·by_cases hm:a+w<l.length
     ·rw[aA (by simp; omega)];refine bQ.2 ((rM a (a+w) l.length d (by omega) (by omega) (by omega) ((g7 a gw (by omega)).sub (by omega) (by omega)) ((g7 (a+w) gw' (by omega)).sub (by omega) (by omega)) (ho.perm g5.symm) (by omega)).imp fun d' hd'=>?_);exact aB.2 ⟨hd'.1.perm.trans g5,hd'.2,fun k hk=>hd'.1.out k (.inl hk)⟩
     ·rw[aE (by simp; omega)];exact aB.2 ⟨g5,(g7 a gw (by omega)).sub (by omega) (by omega),fun _ _=>rfl⟩
    ·obtain⟨q1,q2,q3⟩:=hd';rw[show IntKind.i64.wrap ((w:Int)*2)=((2*w:Nat):Int) by rw[bT] <;> omega];refine aB.2 ⟨⟨2*w,rfl,by omega,by omega,q1,fun c hc'=>?_⟩,by simp only; omega⟩;by_cases hca:c<a
     ·have:=iJ g3 hc' hca;exact((g6 c hc' this).congr fun k k1 k2=>q3 k (by omega)).sub (by omega) (by omega)
     ·exact q2.sub (by omega) (by omega)
  ·rw[aE (by simp; omega)];refine aB.2 ?_;simp only[sel];refine aB.2 ⟨k4,oW fun i j hij hj=>?_⟩;have:=k5 0 (by simp);rw[k4.length_eq]at hj;exact this i j (by omega) hij (by omega)
theorem aBH(l:List aC)(ho:iY l)(hn:l.length<=100000000000000):Sp (aCT l) (fun d=>d.Perm l/\Srt d):=by unfold aCT aAI;simp only[Tr.den,bQ];exact(Wl l ho hn).imp fun d hd=>aB.2 hd
abbrev Pl:=Int×List aF
def wt(p:Pl->Bool):List aC->Int
 | []=>0
 | x::l=>(if p (pl x)=true then x.N else 0)+wt p l
theorem gQ(p:Pl->Bool)(l r:List aC):wt p (l++r)=wt p l+wt p r:=by
 induction l with
 | nil=>simp[wt]
 | cons x l ih=>simp only[wR,wt,ih]; omega
theorem Rx(p:Pl->Bool)(h:l.Perm r):wt p l=wt p r:=by
 induction h with
 | nil=>rfl
 | cons x _ ih=>simp only[wt,ih]
 | swap x y l=>simp only[wt]; omega
 | trans _ _ h1 h2=>exact h1.trans h2
abbrev W (n:Int):Int:=IntKind.i64.wrap n
def jV(l r:List aC):Prop:=∀ p,W (wt p l)=W (wt p r)
theorem iH{a b c d:Int}(h:W a=W c)(h':W b=W d):W (a+b)=W (c+d):=by
 have e1:W (a+b)=W (W a+W b):=by show IntKind.i64.wrap _=IntKind.i64.wrap _; rw[xI,Fy]
 have e2:W (c+d)=W (W c+W d):=by show IntKind.i64.wrap _=IntKind.i64.wrap _; rw[xI,Fy]
 rw[e1,e2,h,h']
theorem jV.refl(l:List aC):jV l l:=fun _=>rfl
theorem jV.symm{l r:List aC}(h:jV l r):jV r l:=fun p=>(h p).symm
theorem jV.trans{l r s:List aC}(h:jV l r)(h':jV r s):jV l s:=fun p=>(h p).trans (h' p)
theorem jV.app{l' r':List aC}(h:jV l r)(h':jV l' r'):jV (l++l') (r++r'):=fun p=>by rw[gQ,gQ]; exact iH (h p) (h' p)
theorem jV.of_perm(h:l.Perm r):jV l r:=fun p=>by rw[Rx p h]
def qC(n:Int):Prop:=-9223372036854775808<=n/\n<=9223372036854775807
theorem aAL{n:Int}(h:qC n):W n=n:=bT h.1 h.2
theorem aDQ(n:Int):qC (W n):=Hb n
structure Can (l:List aC):Prop where
 lt:l.Pairwise (fun x y=>dD x y<0)
 nz:∀ x,x∈l->x.N≠0
 n64:∀ x,x∈l->qC x.N
theorem Can.nil:Can []:=⟨.nil,by simp,by simp⟩
theorem Can.tail(h:Can (x::l)):Can l:=⟨(nN.1 h.lt).2,fun y hy=>h.nz y (cI _ hy),fun y hy=>h.n64 y (cI _ hy)⟩
theorem Can.head(h:Can (x::l)):∀ y,y∈l->dD x y<0:=(nN.1 h.lt).1
theorem Re{p:Pl->Bool}(h:∀ y,y∈l->p (pl y)=false):wt p l=0:=by
 induction l with
 | nil=>rfl
 | cons x l ih=>simp only[wt,h x (cH),ih fun y hy=>h y (cI _ hy)]; rfl
theorem wJ(h:dD x y<0):pl x≠pl y:=by intro he;rw[sT,he,(TO.place.eq _ _).2 rfl]at h;omega
theorem iS:dD x y=0↔pl x=pl y:=TO.place.eq (pl x) (pl y)
theorem wH:0<dD x y↔dD y x<0:=(TO.place.sw (pl y) (pl x)).symm
def at1(q:Pl):Pl->Bool:=fun r=>Pf q r==0
theorem Tl{q r:Pl}:at1 q r=true↔q=r:=by unfold at1; rw[iU]; exact TO.place.eq _ _
theorem aCP(q:Pl):at1 q q=true:=Tl.2 rfl
theorem Np{q r:Pl}(h:q≠r):at1 q r=false:=by
 cases hc:at1 q r with
 | false=>rfl
 | true=>exact absurd (Tl.1 hc) h
theorem Can.wt_mem(h:Can l)(hx:x∈l):wt (at1 (pl x)) l=x.N:=by
 induction l with
 | nil=>simp at hx
 | cons y l ih=>
  simp only[wt];rcases aS.1 hx with rfl | hx'
  ·rw[aA (aCP _),Re fun z hz=>Np (wJ (h.head z hz))]; omega
  ·rw[ih h.tail hx',aE (by rw[Np (Ne.symm (wJ (h.head x hx')))]; simp)]; omega
theorem Can.wt_not{q:Pl}(hx:∀ y,y∈l->pl y≠q):wt (at1 q) l=0:=Re fun y hy=>Np (Ne.symm (hx y hy))
theorem aLY(h:pl x=pl y)(hn:x.N=y.N):x=y:=by cases x; cases y;simp only[pl,fX]at h hn;obtain⟨rfl,rfl⟩:=h;subst hn; rfl
theorem Can.ext:∀ {l r:List aC},Can l->Can r->jV l r->l=r:=by
 have key:∀ {x:aC} {l r:List aC},Can (x::l)->jV (x::l) r->(∀ y,y∈r->dD x y<0)->False:=by intro x l r hl hs hy;have h1:=hs (at1 (pl x));rw[hl.wt_mem cH,Can.wt_not (fun y h=>Ne.symm (wJ (hy y h)))]at h1;rw[aAL (hl.n64 x cH)]at h1;exact hl.nz x cH h1
 intro l
 induction l with
 | nil=>
  intro r _ hr hs;cases r with
  | nil=>rfl
  | cons y r=>exact(key hr hs.symm (by simp)).elim
 | cons x l ih=>
  intro r hl hr hs;cases r with
  | nil=>exact(key hl hs (by simp)).elim
  | cons y r=>
   by_cases h1:dD x y<0
   ·exact(key hl hs fun z hz=>by
     rcases aS.1 hz with rfl | hz
     ·exact h1
     ·exact vV h1 (hr.head z hz)).elim
   ·by_cases h2:dD y x<0
    ·exact(key hr hs.symm fun z hz=>by
      rcases aS.1 hz with rfl | hz
      ·exact h2
      ·exact vV h2 (hl.head z hz)).elim
    ·have h3:dD x y=0:=by have:=wH (x:=x) (y:=y);omega
     have hp:=iS.1 h3;have hn:x.N=y.N:=by have h4:=hs (at1 (pl x));rw[hl.wt_mem cH,hp,hr.wt_mem cH,aAL (hl.n64 x cH),aAL (hr.n64 y cH)]at h4;exact h4
     have hxy:=aLY hp hn;subst hxy;rw[ih hl.tail hr.tail fun p=>?_];have h5:=hs p;simp only[wt]at h5;have h6:=iH (a:=-(if p (pl x)=true then x.N else 0)) (c:=-(if p (pl x)=true then x.N else 0)) rfl h5
     rwa [Int.neg_add_cancel_left,Int.neg_add_cancel_left]at h6
def mJ(d:aC):List aC->List aC
 | []=>if d.N=0 then [] else [d]
 | x::l=>if dD d x<0 then (if d.N=0 then x::l else d::x::l) else if dD d x=0 then (if W (x.N+d.N)=0 then l else ⟨x.Time,x.Row,W (x.N+d.N)⟩::l) else x::mJ d l
def cons(l:List aC):List aC:=l.foldr mJ []
theorem Th(d:aC)(p:Pl->Bool):∀ l,W (wt p (mJ d l))=W (wt p (d::l))
 | []=>by
  simp only[mJ,wt];by_cases h:d.N=0
  ·rw[aA h,h]; simp[wt]
  ·rw[aE h]; rfl
 | x::l=>by
  simp only[mJ];by_cases h1:dD d x<0
  ·rw[aA h1];by_cases h:d.N=0
   ·rw[aA h]; simp only[wt,h]; congr 1; split <;> omega
   ·rw[aE h]
  ·rw[aE h1];by_cases h2:dD d x=0
   ·rw[aA h2];have hp:=iS.1 h2;have e:wt p (d::x::l)=(if p (pl x)=true then x.N+d.N else 0)+wt p l:=by simp only[wt,hp]; split <;> omega
    rw[e];by_cases h3:W (x.N+d.N)=0
    ·rw[aA h3];by_cases hpx:p (pl x)=true
     ·rw[aA hpx];have h0:W (x.N+d.N)=W 0:=by rw[h3]; rfl
      have:=iH h0 (rfl:W (wt p l)=W (wt p l));rw[this]; simp
     ·rw[aE hpx]; simp
    ·rw[aE h3];simp only[wt];rw[show pl (⟨x.Time,x.Row,W (x.N+d.N)⟩:aC)=pl x from rfl];by_cases hpx:p (pl x)=true
     ·rw[aA hpx,aA hpx]; exact xI _ _
     ·rw[aE hpx,aE hpx]
   ·rw[aE h2];have ih:=Th d p l;have:W (wt p (x::mJ d l))=W (wt p (x::d::l)):=by simp only[wt]at ih ⊢;exact iH rfl ih
    rw[this];simp only[wt]; congr 1; omega
theorem Bp{d:aC}:∀ {l:List aC} {y:aC},y∈mJ d l->pl y=pl d\/∃ z,z∈l/\pl y=pl z
 | [],y,h=>by
  simp only[mJ]at h;split at h
  ·simp at h
  ·simp at h; exact .inl (by rw[h])
 | x::l,y,h=>by
  simp only[mJ]at h;split at h
  ·split at h
   ·exact .inr ⟨y,h,rfl⟩
   ·rcases aS.1 h with rfl | h
    ·exact .inl rfl
    ·exact .inr ⟨y,h,rfl⟩
  ·split at h
   ·rename_i h2;split at h
    ·exact .inr ⟨y,cI _ h,rfl⟩
    ·rcases aS.1 h with rfl | h
     ·exact .inr ⟨x,cH,rfl⟩
     ·exact .inr ⟨y,cI _ h,rfl⟩
   ·rcases aS.1 h with rfl | h
    ·exact .inr ⟨y,cH,rfl⟩
    ·rcases Bp h with h | ⟨z,hz,he⟩
     ·exact .inl h
     ·exact .inr ⟨z,cI _ hz,he⟩
theorem lS{x' y':aC}(h:pl x=pl x')(h':pl y=pl y'):dD x y=dD x' y':=by rw[sT,sT,h,h']
theorem Lm{d:aC}(hd:qC d.N):∀ {l:List aC},Can l->Can (mJ d l)
 | [],_=>by
  simp only[mJ];split
  ·exact .nil
  ·rename_i h;exact⟨qZ _ _,fun x hx=>by rw[bW.1 hx]; exact h,fun x hx=>by rw[bW.1 hx]; exact hd⟩
 | x::l,h=>by
  simp only[mJ];split
  ·rename_i h1;split
   ·exact h
   ·rename_i h2;refine⟨nN.2 ⟨fun y hy=>?_,h.lt⟩,fun y hy=>?_,fun y hy=>?_⟩
    ·rcases aS.1 hy with rfl | hy
     ·exact h1
     ·exact vV h1 (h.head y hy)
    ·rcases aS.1 hy with rfl | hy
     ·exact h2
     ·exact h.nz y hy
    ·rcases aS.1 hy with rfl | hy
     ·exact hd
     ·exact h.n64 y hy
  ·rename_i h1;split
   ·split
    ·exact h.tail
    ·rename_i h3;refine⟨nN.2 ⟨fun y hy=>h.head y hy,h.tail.lt⟩,fun y hy=>?_,fun y hy=>?_⟩
     ·rcases aS.1 hy with rfl | hy
      ·exact h3
      ·exact h.tail.nz y hy
     ·rcases aS.1 hy with rfl | hy
      ·exact aDQ _
      ·exact h.tail.n64 y hy
   ·rename_i h2;have ih:=Lm hd h.tail;have hxd:dD x d<0:=by have:=wH (x:=d) (y:=x); omega
    refine⟨nN.2 ⟨fun y hy=>?_,ih.lt⟩,fun y hy=>?_,fun y hy=>?_⟩
    ·rcases Bp hy with he | ⟨z,hz,he⟩
     ·rw[lS rfl he]; exact hxd
     ·rw[lS rfl he]; exact h.head z hz
    ·rcases aS.1 hy with rfl | hy
     ·exact h.nz y cH
     ·exact ih.nz y hy
    ·rcases aS.1 hy with rfl | hy
     ·exact h.n64 y cH
     ·exact ih.n64 y hy
def okN(l:List aC):Prop:=∀ x,x∈l->qC x.N
theorem gJ(h:okN l):Can (cons l):=by
 induction l with
 | nil=>exact .nil
 | cons x l ih=>exact Lm (h x cH) (ih fun y hy=>h y (cI _ hy))
theorem eU(l:List aC):jV (cons l) l:=by
 induction l with
 | nil=>exact .refl _
 | cons x l ih=>intro p;rw[show cons (x::l)=mJ x (cons l) from rfl,Th];simp only[wt];exact iH rfl (ih p)
theorem Sc(h:Can r)(hl:okN l)(hs:jV r l):cons l=r:=(gJ hl).ext h ((eU l).trans hs.symm)
theorem Kx:∀ {y:aC},y∈cons l->∃ z,z∈l/\pl y=pl z:=by
 induction l with
 | nil=>intro y hy; simp[cons]at hy
 | cons x l ih=>
  intro y hy;rcases Bp (show y∈mJ x (cons l) from hy) with h | ⟨z,hz,h⟩
  ·exact⟨x,cH,h⟩
  ·obtain⟨u,hu,h'⟩:=ih hz;exact⟨u,cI _ hu,h.trans h'⟩
theorem Kd(d:aC):∀ l:List aC,(mJ d l).length<=l.length+1
 | []=>by simp only[mJ]; split <;> simp
 | x::l=>by
  have:=Kd d l;simp only[mJ];split
  ·split <;> simp
  ·split
   ·split
    ·simp; omega
    ·simp
   ·simp; omega
theorem kF(l:List aC):(cons l).length<=l.length:=by
 induction l with
 | nil=>simp[cons]
 | cons x l ih=>have:=Kd x (cons l);show (mJ x (cons l)).length<=_;simp only[dO];omega
theorem yH(p q:Pl->Bool)(l:List aC):wt p (l.filter fun d=>q (pl d))=wt (fun r=>p r&&q r) l:=by
 induction l with
 | nil=>rfl
 | cons x l ih=>
  simp only[uP,wt];by_cases hq:q (pl x)=true
  ·rw[aA hq]; simp only[wt,ih,hq,Bool.and_true]
  ·rw[aE hq];have hq':q (pl x)=false:=by simpa using hq
   simp[ih,hq']
theorem Ya(l:List aC)(h:l.length<=1000000000000):aBD l=some l:=by
 unfold aBD;refine Det.eq ?_;unfold Zv;simp only[Tr.wpT];refine⟨fun h0=>?_,?_⟩
 ·rw[aA trivial]; exact(rN h0).symm
 ·rw[aE (by simp)];refine⟨by simp only[eS]; omega,rfl⟩
theorem aCQ(l:List aF)(h:l.length<=1000000000000):Su l=some l:=by
 unfold Su;refine Det.eq ?_;unfold aAE;simp only[Tr.wpT];refine⟨fun h0=>?_,?_⟩
 ·rw[aA trivial]; exact(rN h0).symm
 ·rw[aE (by simp)];refine⟨by simp only[eS]; omega,rfl⟩
theorem Vs(h:ltD x y=false):¬ dD x y<0:=gP h
theorem Vt(n:Nat)(h:n<=1000000000000):On (n:Int)=some []:=by
 unfold On Nn;simp only[Tr.den];rw[aE (cD (by omega)),show IntKind.i64.wrap ((n:Int)-0)=(n:Int) by rw[bT] <;> omega];by_cases h0:(n:Int)>0
 ·rw[aA (bV h0),aA (by simp; omega),aA (by simp)];rfl
 ·rw[aE (cD h0)]; rfl
theorem Tz(n:Nat)(h:n<=1000000000000):Nz (n:Int)=some []:=by
 unfold Nz Oy;simp only[Tr.den];rw[aE (cD (by omega)),show IntKind.i64.wrap ((n:Int)-0)=(n:Int) by rw[bT] <;> omega];by_cases h0:(n:Int)>0
 ·rw[aA (bV h0),aA (by simp; omega),aA (by simp)];rfl
 ·rw[aE (cD h0)]; rfl
theorem iV{α:Type}[Inhabited α](ls:List (List α))(i:Nat)(hi:i<ls.length):(ls.take (i+1)).flatten=(ls.take i).flatten++ls.getD i default:=by rw[aO hi]; simp
theorem Ad{α:Type}[Inhabited α](ls:List (List α))(i:Nat):(ls.take i).flatten.length<=ls.flatten.length:=by
 have:ls.flatten=(ls.take i).flatten++(ls.drop i).flatten:=by rw[<-List.flatten_append,iI]
 rw[this,bU]; omega
theorem aME(ls:List (List aC))(h:ls.flatten.length<=1000000000000)(hl:ls.length<=1000000000000):G39 ls=some ls.flatten:=by
 unfold G39 T39;simp only[Tr.den];have h1:=bG (bd:=fun s=>(Gh ls s).den) (fun i=>(((ls.take i).flatten.length:Int),(i:Int))) ls.length (r:=.inl (ls.flatten.length:Int)) (fun i hi=>?_) ?_
 ·refine(congrArg (fun x=>Option.bind x _) h1).trans ?_;simp only[aK,sel];rw[Vt _ h];simp only[aK];have h2:=bG (bd:=fun s=>(Hr ls s).den) (fun i=>((ls.take i).flatten,(i:Int))) ls.length (r:=.inl ls.flatten) (fun i hi=>?_) ?_
  ·refine(congrArg (fun x=>Option.bind x _) h2).trans ?_;rfl
  ·unfold Hr;simp only[Tr.den,aX];have:=Ad ls (i+1);rw[iV ls i hi,bU]at this;rw[aA (bV (by omega)),aA (by omega),aA (by omega),aP (by omega),iV ls i hi]
  ·unfold Hr;simp only[Tr.den];rw[aE (cD (by omega)),dL]
 ·unfold Gh;simp only[Tr.den,aX];have:=Ad ls (i+1);rw[iV ls i hi,bU]at this;rw[aA (bV (by omega)),aA (by omega),aE (cD (by rw[dI (by omega)]; omega)),dI (by omega),aP (by omega),iV ls i hi,bU]
 ·unfold Gh;simp only[Tr.den];rw[aE (cD (by omega)),dL]
theorem aDW(ls:List (List aF))(h:ls.flatten.length<=1000000000000)(hl:ls.length<=1000000000000):aPL ls=some ls.flatten:=by
 unfold aPL aNB;simp only[Tr.den];have h1:=bG (bd:=fun s=>(Aj ls s).den) (fun i=>(((ls.take i).flatten.length:Int),(i:Int))) ls.length (r:=.inl (ls.flatten.length:Int)) (fun i hi=>?_) ?_
 ·refine(congrArg (fun x=>Option.bind x _) h1).trans ?_;simp only[aK,sel];rw[Tz _ h];simp only[aK];have h2:=bG (bd:=fun s=>(zY ls s).den) (fun i=>((ls.take i).flatten,(i:Int))) ls.length (r:=.inl ls.flatten) (fun i hi=>?_) ?_
  ·refine(congrArg (fun x=>Option.bind x _) h2).trans ?_;rfl
  ·unfold zY;simp only[Tr.den,aX];have:=Ad ls (i+1);rw[iV ls i hi,bU]at this;rw[aA (bV (by omega)),aA (by omega),aA (by omega),aP (by omega),iV ls i hi]
  ·unfold zY;simp only[Tr.den];rw[aE (cD (by omega)),dL]
 ·unfold Aj;simp only[Tr.den,aX];have:=Ad ls (i+1);rw[iV ls i hi,bU]at this;rw[aA (bV (by omega)),aA (by omega),aE (cD (by rw[dI (by omega)]; omega)),dI (by omega),aP (by omega),iV ls i hi,bU]
 ·unfold Aj;simp only[Tr.den];rw[aE (cD (by omega)),dL]
structure okD (l:List aC):Prop where
 r:iY l
 n:okN l
theorem okD.app(h:okD l)(h':okD r):okD (l++r):=
 ⟨fun x hx=>(dA.1 hx).elim (h.r x) (h'.r x),fun x hx=>(dA.1 hx).elim (h.n x) (h'.n x)⟩
theorem okD.nil:okD []:=⟨fun _ h=>by simp at h,fun _ h=>by simp at h⟩
theorem okD.sub(h:okD l)(hs:∀ x,x∈r->x∈l):okD r:=⟨fun x hx=>h.r x (hs x hx),fun x hx=>h.n x (hs x hx)⟩
theorem okD.cons{l:List aC}(h:okD l):okD (cons l):=⟨fun x hx=>by
 obtain⟨z,hz,he⟩:=Kx hx;have:=h.r z hz;unfold okR at this ⊢
 rwa [show x.Row=z.Row from congrArg (·.2) he],(gJ h.n).n64⟩
structure LO (K:Type)[MKey K]:Prop where
 irr:∀ a:K,MKey.lt a a=false
 tr:∀ a b c:K,MKey.lt a b=true->MKey.lt b c=true->MKey.lt a c=true
 tot:∀ a b:K,a≠b->MKey.lt a b=true\/MKey.lt b a=true
theorem kC:∀ (x y:List UInt8),Op.bytesLess x y=decide (Lib.compareBytes x y<0)
 | [],[]=>by simp[Op.bytesLess,Lib.compareBytes]
 | _::_,[]=>by simp[Op.bytesLess,Lib.compareBytes]
 | [],_::_=>by simp[Op.bytesLess,Lib.compareBytes]
 | a::x,b::y=>by
  rw[Op.bytesLess,kC x y,Lib.compareBytes];by_cases h1:a<b
  ·simp[h1]
  ·by_cases h2:b<a
   ·have h3:¬ a=b:=fun h=>by subst h; exact absurd h2 h1
    simp[h1,h2,h3]
   ·have h3:a=b:=UInt8.le_antisymm (UInt8.not_lt.1 h2) (UInt8.not_lt.1 h1);simp[h3]
theorem LO.bytes:LO ByteArray:=by
 have e:∀ a b:ByteArray,MKey.lt a b=decide (xO a b<0):=fun a b=>by show Op.bytesLess a.toList b.toList=_;rw[kC,Lib.toList_data,Lib.toList_data]; rfl
 constructor
 ·intro a;rw[e,(TO.str.eq a a).2 rfl]; rfl
 ·intro a b c h1 h2;rw[e]at h1 h2 ⊢;exact bV (TO.str.tr a b c (dW h1) (dW h2))
 ·intro a b h;rw[e,e];have h1:=TO.str.eq a b;have h2:=TO.str.sw b a;by_cases h3:xO a b<0
  ·exact .inl (bV h3)
  ·refine .inr (bV ?_);by_cases h4:xO a b=0
   ·exact absurd (h1.1 h4) h
   ·omega
section
variable {K V:Type} [MKey K]
def MC(v:List (K×V)):Prop:=v.Pairwise fun p q=>MKey.lt p.1 q.1=true
theorem Bf(v:List (K×V))(k k':K):bC (mdel v k) k'=if k=k' then none else bC v k':=by
 induction v with
 | nil=>simp[mdel,bC]
 | cons p v ih=>
  simp only[mdel,uP]at ih ⊢;by_cases hp:p.1=k
  ·rw[aE (by simpa using hp),ih];simp only[bC,hp];by_cases hk:k=k' <;> simp[hk]
  ·rw[aA (by simpa using hp)];simp only[bC,ih];by_cases hk:k=k'
   ·subst hk; simp[hp]
   ·simp[hk]
theorem Dp(k:K)(c:V)(k':K):∀ v:List (K×V),bC v k=none->bC (mins k c v) k'=if k=k' then some c else bC v k'
 | [],_=>by simp[mins,bC]
 | p::v,h=>by
  simp only[bC]at h;by_cases hp:p.1=k
  ·rw[aA hp]at h; cases h
  ·rw[aE hp]at h;simp only[mins];split
   ·simp only[bC]
   ·simp only[bC,Dp k c k' v h];by_cases hk:k=k'
    ·subst hk; simp[hp]
    ·simp[hk]
theorem pS(v:List (K×V))(k:K)(c:V)(k':K):bC (mput v k c) k'=if k=k' then some c else bC v k':=by unfold mput;rw[Dp k c k' _ (by rw[Bf]; simp),Bf];by_cases h:k=k' <;> simp[h]
theorem MC.mdel{v:List (K×V)}(h:MC v)(k:K):MC (mdel v k):=List.Pairwise.filter _ h
theorem Wu{k:K}{c:V}{q:K×V}:∀ {v:List (K×V)},q∈mins k c v->q=(k,c)\/q∈v
 | v,h=>by have:=(xS k c v).mem_iff.1 h;simpa using this
theorem MC.mins(hK:LO K){k:K}{c:V}:∀ {v:List (K×V)},MC v->k∉bF v->MC (mins k c v)
 | [],_,_=>qZ _ _
 | p::v,h,hk=>by
  have h1:=nN.1 h;simp only[PL.mins];split
  ·rename_i hlt;refine nN.2 ⟨fun q hq=>?_,h⟩;rcases aS.1 hq with rfl | hq
   ·exact hlt
   ·exact hK.tr _ _ _ hlt (h1.1 q hq)
  ·rename_i hlt;simp only[bF,gH,aS,not_or]at hk;refine nN.2 ⟨fun q hq=>?_,MC.mins hK h1.2 hk.2⟩;rcases Wu hq with rfl | hq
   ·rcases hK.tot k p.1 hk.1 with h2 | h2
    ·rw[h2]at hlt; cases hlt
    ·exact h2
   ·exact h1.1 q hq
theorem MC.mput(hK:LO K){v:List (K×V)}(h:MC v)(k:K)(c:V):MC (mput v k c):=(h.mdel k).mins hK (Yc v k)
theorem Zi:MC ([]:List (K×V)):=List.Pairwise.nil
theorem Ui{v:List (K×V)}{k:K}{c:V}(h:bC v k=some c):(k,c)∈v:=by
 induction v with
 | nil=>cases h
 | cons p v ih=>
  simp only[bC]at h;split at h
  ·rename_i hp;cases h;rw[<-hp]; exact cH
  ·exact cI _ (ih h)
theorem Bx{v:List (K×V)}{k:K}:k∈bF v↔∃ c,bC v k=some c:=by
 constructor
 ·intro h;cases hc:bC v k with
  | none=>exact absurd h (jW hc)
  | some c=>exact⟨c,rfl⟩
 ·rintro⟨c,hc⟩;exact dG.2 ⟨_,Ui hc,rfl⟩
theorem MC.nodup(hK:LO K){v:List (K×V)}(h:MC v):(bF v).Nodup:=by unfold bF List.Nodup;rw[uD];refine h.imp fun {p q} hpq he=>?_;rw[he,hK.irr]at hpq;cases hpq
end
set_option maxRecDepth 20000
theorem aNW{P:Program}{Y R:Type}{bps:List PV}{x:Option R}{ret:R->PV}{h:Con P k bps x ret}{B:R->Tr P Y}{r:R}(hx:x=some r):(Tr.ca n h B).den=(B r).den:=by subst hx; rfl
theorem Hh{P:Program}{Y:Type}{p:Prop}[Decidable p]{t:Tr P Y}(hp:p):(Tr.grd n p t).den=t.den:=aA hp
def yS(n:Int):ByteArray:=⟨(Lib.itoa n).toArray⟩
theorem pQ{n:Int}(h:qC n):(yS n).size<=21:=by have:=Lib.itoa_length_le n h.1 h.2;unfold yS;show (Lib.itoa n).toArray.size<=21;simpa using this
theorem Sx{n:Int}(h:qC n):Yp n=some (yS n):=by unfold Yp; rw[aA (show -9223372036854775808<=n/\n<=9223372036854775807 from h)]; rfl
theorem sz1(x:UInt8):(⟨#[x]⟩:ByteArray).size=1:=rfl
def Ej(n:Int):ByteArray:=yS n++⟨#[59]⟩
theorem No(n:Int):(Ej n).size=(yS n).size+1:=jG
theorem lE{n:Int}(h:qC n):(Ej n).size<=22:=by have h1:=pQ h;rw[No];exact Nat.succ_le_succ h1
theorem Oo{n:Int}(h:qC n):G51 n=some (Ej n):=by unfold G51 T51;have:=pQ h;simp -implicitDefEqProofs only[Tr.den,Sx h,aK];rw[aA (by rw[sz1]; omega)];rfl
theorem aJS(n:Nat)(h:n<=1000000000000):aNC (n:Int)=some (Ej (n:Int)):=by unfold aNC aMF;simp only[Tr.den];rw[aE (cD (by omega)),Oo (n:=(n:Int)) ⟨by omega,by omega⟩];rfl
def Yi(s:ByteArray):ByteArray:=((yS s.size++⟨#[58]⟩)++s)++⟨#[44]⟩
theorem Em{s:ByteArray}(h:s.size<=1073741824):(Yi s).size<=s.size+23:=by have:=pQ (n:=(s.size:Int)) ⟨by omega,by omega⟩;unfold Yi;rw[jG,jG,jG,sz1,sz1];omega
theorem aLN{s:ByteArray}(h:s.size<=1073741824):G52 s=some (Yi s):=by
 have h1:=pQ (n:=(s.size:Int)) ⟨by omega,by omega⟩;have h2:Yp (s.size:Int)=some (yS s.size):=Sx ⟨by omega,by omega⟩;generalize hi:yS (s.size:Int)=z at h1 h2;have e1:(z++(⟨#[58]⟩:ByteArray)).size=z.size+1:=jG;have e2:((z++(⟨#[58]⟩:ByteArray))++s).size=z.size+1+s.size:=by rw[jG,e1]
 unfold G52 T52;refine(aNW h2).trans ?_;refine(Hh ?_).trans ((Hh ?_).trans ((Hh ?_).trans ?_))
 ·rw[sz1]; omega
 ·rw[e1]; omega
 ·rw[e2,sz1]; omega
 ·unfold Yi;rw[hi];rfl
structure okV (v:aF):Prop where
 k:qC v.Kind
 n:qC v.N
 s:v.S.size<=1073741824
theorem aGQ:okV default:=⟨⟨by decide,by decide⟩,⟨by decide,by decide⟩,by decide⟩
def Mv(v:aF):ByteArray:=(Ej v.Kind++Ej v.N)++Yi v.S
theorem Ga{v:aF}(h:okV v):(Mv v).size<=1073742000:=by have h1:=lE h.k;have h2:=lE h.n;have h3:=Em h.s;have h4:=h.s;unfold Mv;rw[jG,jG];omega
theorem aFT{v:aF}(h:okV v):aLL v=some (Mv v):=by have h1:=lE h.k;have h2:=lE h.n;have h3:=Em h.s;have h4:=h.s;unfold aLL aPQ;simp only[Tr.den,Oo h.k,Oo h.n,aLN h.s,aK];rw[aA (by omega),jG,aA (by omega)];rfl
def Dm(r:List aF):Prop:=∀ v,v∈r->okV v
theorem Dm.get{r:List aF}(h:Dm r)(k:Nat):okV (r.getD k default):=by
 by_cases hk:k<r.length
 ·exact h _ (aT hk)
 ·rw[cF,tY (by omega)]; exact aGQ
def Vj(r:List aF):ByteArray:=r.foldl (fun b v=>b++Mv v) ((⟨#[]⟩:ByteArray)++Ej (r.length:Int))
theorem uG(b:ByteArray):∀ (r:List aF),Dm r->(r.foldl (fun b v=>b++Mv v) b).size<=b.size+r.length*1073742000
 | [],_=>by simp
 | v::r,h=>by have h1:=uG (b++Mv v) r fun x hx=>h x (cI _ hx);have h2:=Ga (h v cH);rw[jG]at h1;simp only[tS,dO];omega
theorem Px(r:List aF)(h:Dm r)(hn:r.length<=1000):aHO r=some (Vj r):=by
 have hs:=lE (n:=(r.length:Int)) ⟨by omega,by omega⟩;unfold aHO aQX;simp only[Tr.den];rw[aJS r.length (by omega)];simp only[aK];rw[aA (by show 0+_<=_; omega)];simp only[aK];have h1:=bG (bd:=fun s=>(Ao r s).den) (fun i=>((r.take i).foldl (fun b v=>b++Mv v) ((⟨#[]⟩:ByteArray)++Ej (r.length:Int)),(i:Int))) r.length (r:=.inl (Vj r)) (fun i hi=>?_) ?_
 ·refine(congrArg (fun x=>Option.bind x _) h1).trans ?_;rfl
 ·unfold Ao;simp only[Tr.den,aX];have h2:=uG ((⟨#[]⟩:ByteArray)++Ej (r.length:Int)) (r.take i) fun v hv=>h v (Hu hv);have h3:=Ga (h.get i);rw[jG,show (⟨#[]⟩:ByteArray).size=0 from rfl]at h2;simp only[cG]at h2;rw[aA (bV (by omega)),aA (by omega),aFT (h.get i)];simp only[aK];rw[aA (by have:min i r.length*1073742000<=1000*1073742000:=Nat.mul_le_mul (by omega) (eE _);omega)];simp only[aK];rw[aP (by omega),aO hi,List.foldl_append];rfl
 ·unfold Ao;simp only[Tr.den];rw[aE (cD (by omega)),dL];rfl
def iF(n:aI)(i:Int):List Int:=if i=0 then n.Key else n.Key2
def Lp(n:aI)(i:Int)(row:List aF):ByteArray:=Vj ((iF n i).map fun c=>row.getD c.toNat default)
def xY(cols:List Int)(row:List aF):Prop:=∀ c,c∈cols->0<=c/\c<row.length
structure okI (n:aI)(i:Int)(l:List aC):Prop where
 v:∀ d,d∈l->Dm d.Row
 c:∀ d,d∈l->xY (iF n i) d.Row
 r:∀ d,d∈l->d.Row.length<=1000
 t:∀ d,d∈l->0<=d.Time/\d.Time<=2199023255552
 n:okN l
abbrev kd (n:aI)(i:Int)(d:aC):ByteArray:=Lp n i d.Row
def cQ(n:aI)(i:Int)(l:List aC):List (ByteArray×List aC):=l.foldl (fun m d=>mput m (kd n i d) ((bC m (kd n i d)).getD []++[d])) []
theorem Wq(n:aI)(i:Int)(l:List aC):MC (cQ n i l):=by
 unfold cQ;have:∀ (l:List aC) (m:List (ByteArray×List aC)),MC m->MC (l.foldl (fun m d=>mput m (kd n i d) ((bC m (kd n i d)).getD []++[d])) m):=by
  intro l
  induction l with
  | nil=>exact fun m h=>h
  | cons d l ih=>exact fun m h=>ih _ (h.mput LO.bytes _ _)
 exact this l [] Zi
def ofK(n:aI)(i:Int)(k:ByteArray)(l:List aC):List aC:=l.filter fun d=>decide (kd n i d=k)
theorem rI(n:aI)(i:Int)(k:ByteArray)(l:List aC):bC (cQ n i l) k=if ofK n i k l=[] then none else some (ofK n i k l):=by
 have:∀ (l:List aC) (m:List (ByteArray×List aC)),bC (l.foldl (fun m d=>mput m (kd n i d) ((bC m (kd n i d)).getD []++[d])) m) k=if ofK n i k l=[] then bC m k else some ((bC m k).getD []++ofK n i k l):=by
  intro l
  induction l with
  | nil=>intro m; simp[ofK]
  | cons d l ih=>
   intro m;rw[tS,ih];unfold ofK;by_cases hk:kd n i d=k
   ·rw[Gj (p:=fun d=>decide (kd n i d=k)) (bV hk),pS,aA hk,hk];by_cases h:l.filter (fun d=>decide (kd n i d=k))=[]
    ·rw[aA h,aE (by simp),h]
    ·rw[aE h,aE (by simp)]; simp
   ·rw[Cg (p:=fun d=>decide (kd n i d=k)) (cD hk),pS,aE hk]
 have:=this l [];simpa[bC,cQ] using this
theorem kS(n:aI)(i:Int)(k:ByteArray)(l:List aC):(ofK n i k l).length<=l.length:=qR _ _
theorem uH(n:aI)(i:Int)(k:ByteArray)(l:List aC):(bC (cQ n i l) k).getD []=ofK n i k l:=by rw[rI]; split <;> simp_all
def kP(l:List aC):Prop:=∀ d,d∈l->0<=d.Time/\d.Time<=2199023255552
def fV(l:List aC)(a b:Int):List aC:=l.filter fun d=>decide (a<=d.Time)&&decide (d.Time<=b)
theorem Ez(l:List aC)(a b:Int):(fV l a b).length<=l.length:=qR _ _
theorem Fg{a b:Int}{d:aC}(h:d∈fV l a b):d∈l:=(jR.1 h).1
theorem kP.get(h:kP l)(k:Nat):0<=(l.getD k default).Time/\(l.getD k default).Time<=2199023255552:=by
 by_cases hk:k<l.length
 ·exact h _ (aT hk)
 ·rw[cF,tY (by omega)]; exact⟨by decide,by decide⟩
def mZ(a b:aC)(t n:Int):aC:=⟨t,a.Row++b.Row,n⟩
def okW(l:List aC):Prop:=∀ d,d∈l->d.Row.length<=1000
theorem okW.get(h:okW l)(k:Nat):(l.getD k default).Row.length<=1000:=by
 by_cases hk:k<l.length
 ·exact h _ (aT hk)
 ·rw[cF,tY (by omega)]; decide
def iK(i:Int)(a b:aC):aC:=if i=1 then mZ b a (if b.Time>a.Time then b.Time else a.Time) (W (a.N*b.N)) else mZ a b (if b.Time>a.Time then b.Time else a.Time) (W (a.N*b.N))
def qN(n:aI)(i:Int)(other:List aC)(a:aC):List aC:=
 (fV other (if i=1 then a.Time-n.After else a.Time-n.Before) (if i=1 then a.Time+n.Before else a.Time+n.After)).map (iK i a)
def aKX(n:aI)(i:Int)(l other:List aC):List aC:=l.flatMap (qN n i other)
theorem Tv(n:aI)(i:Int)(other:List aC)(a:aC):(qN n i other a).length<=other.length:=by unfold qN; rw[bY]; exact Ez _ _ _
theorem yN{f:aC->List aC}{c:Nat}(h:∀ a,(f a).length<=c)(l:List aC):(l.flatMap f).length<=l.length*c:=by
 induction l with
 | nil=>simp
 | cons a l ih=>rw[oR,bU,dO,fZ];have:=h a;omega
structure okB (n:aI):Prop where
 b:0<=n.Before/\n.Before<=10000
 a:0<=n.After/\n.After<=10000
def zI(n:aI)(right:List aC)(a:aC):List aC:=
 if fV right (a.Time-n.Keep+1) a.Time=[] then [] else [mZ a ((fV right (a.Time-n.Keep+1) a.Time).getD ((fV right (a.Time-n.Keep+1) a.Time).length-1) default) a.Time a.N]
def aKR(n:aI)(l right:List aC):List aC:=l.flatMap (zI n right)
theorem Vq(n:aI)(right:List aC)(a:aC):(zI n right a).length<=1:=by unfold zI; split <;> simp
structure Ph (n:aI):Prop where
 op:(n.Op=6/\okB n)\/(n.Op=7/\1<=n.Keep/\n.Keep<=10000)
 k1:n.Key.length<=1000
 k2:n.Key2.length<=1000
theorem Ph.cols{n:aI}(h:Ph n)(i:Int):(iF n i).length<=1000:=by
 by_cases hi:i=0
 ·unfold iF; rw[aA hi]; exact h.k1
 ·unfold iF; rw[aE hi]; exact h.k2
theorem okI.tm{n:aI}{i:Int}(h:okI n i l):kP l:=h.t
theorem okI.w{n:aI}{i:Int}(h:okI n i l):okW l:=h.r
theorem Cn{f:aC->List aC}(h:∀ a,a∈l->okD (f a)):okD (l.flatMap f):=by
 constructor
 ·intro x hx;obtain⟨a,ha,hx⟩:=uO.1 hx;exact(h a ha).r x hx
 ·intro x hx;obtain⟨a,ha,hx⟩:=uO.1 hx;exact(h a ha).n x hx
theorem aBO{n:aI}{i:Int}(h:okW l)(h':okW r):okD (aKX n i l r):=by
 refine Cn fun a ha=>?_;unfold qN;constructor
 ·intro x hx;obtain⟨b,hb,rfl⟩:=dG.1 hx;have:=h a ha;have:=h' b (Fg hb);unfold iK okR mZ; split <;> simp <;> omega
 ·intro x hx;obtain⟨b,hb,rfl⟩:=dG.1 hx;unfold iK mZ; split <;> exact aDQ _
theorem Yb{n:aI}(h:okW l)(h':okW r)(hn:okN l):okD (aKR n l r):=by
 refine Cn fun a ha=>?_;unfold zI;have hr:okW (fV r (a.Time-n.Keep+1) a.Time):=fun d hd=>h' d (Fg hd);split
 ·exact .nil
 ·constructor
  ·intro x hx;rw[bW.1 hx];have:=h a ha;have:=hr.get ((fV r (a.Time-n.Keep+1) a.Time).length-1);unfold okR mZ;simp only[bU]; omega
  ·intro x hx;rw[bW.1 hx];exact hn a ha
theorem lW(n:aI)(i:Int)(l:List aC):(cQ n i l).length<=l.length:=by
 have:∀ (l:List aC) (m:List (ByteArray×List aC)),(l.foldl (fun m d=>mput m (kd n i d) ((bC m (kd n i d)).getD []++[d])) m).length<=m.length+l.length:=by
  intro l
  induction l with
  | nil=>intro m; simp
  | cons d l ih=>intro m;rw[tS];refine iQ (ih _) ?_;have h1:=(xE m (kd n i d) ((bC m (kd n i d)).getD []++[d])).length_eq;have h2:(mdel m (kd n i d)).length<=m.length:=qR _ _;rw[h1]; simp only[dO]; omega
 have h2:=this l [];simp only[eS,eJ]at h2;exact h2
theorem aHT(a b:aF):aQH a b=some (kK a b):=by
 unfold aQH aOH kK fQ uJ;simp only[Tr.den,kN];have hs:=kC a.S.toList b.S.toList;have h2:=kC b.S.toList a.S.toList;rw[Lib.toList_data,Lib.toList_data]at hs h2;have e1:Op.bytesLess a.S.toList b.S.toList=decide (xO a.S b.S<0):=by rw[Lib.toList_data,Lib.toList_data]; exact hs
 have e2:(a.S.toList==b.S.toList)=decide (xO a.S b.S=0):=by
  rw[Bool.eq_iff_iff,iU,kN,TO.str.eq,Lib.toList_data,Lib.toList_data];constructor
  ·intro h;generalize a.S=x at h ⊢;generalize b.S=y at h ⊢;cases x; cases y; simp at h; simp[h]
  ·intro h; rw[h]
 have h3:xO a.S b.S = -1\/xO a.S b.S=0\/xO a.S b.S=1:=by
  unfold xO;generalize a.S.data.toList=x;generalize b.S.data.toList=y
  induction x generalizing y with
  | nil=>cases y <;> simp[Lib.compareBytes]
  | cons u x ih=>
   cases y with
   | nil=>simp[Lib.compareBytes]
   | cons v y=>
    rw[Lib.compareBytes];by_cases q1:u<v
    ·rw[aA q1]; exact .inl rfl
    ·rw[aE q1];by_cases q2:v<u
     ·rw[aA q2]; exact .inr (.inr rfl)
     ·rw[aE q2]; exact ih y
 rw[e1,e2];by_cases k1:a.Kind<b.Kind
 ·simp[k1]
 ·by_cases k2:b.Kind<a.Kind
  ·simp[k1,k2]
  ·by_cases n1:a.N<b.N
   ·simp[k1,k2,n1]
   ·by_cases n2:b.N<a.N
    ·simp[k1,k2,n1,n2]
    ·rcases h3 with h | h | h <;> simp[k1,k2,n1,n2,h]
theorem To(a b:List aF)(ha:a.length<=1073741824)(hb:b.length<=1073741824):aPH a b=some (zT a b):=by
 refine Sp.eq ?_;unfold aPH aQG;simp only[Tr.den,bQ];refine Sq.while (fun k:Int=>0<=k/\k<=a.length/\k<=b.length/\zT (a.drop k.toNat) (b.drop k.toNat)=zT a b) (fun k=>a.length-k.toNat) (fun k hk=>?_) ⟨by omega,by omega,by omega,by simp⟩;obtain⟨h0,h1,h2,h3⟩:=hk;unfold Tf;simp only[Tr.den,aHT,aK];have stop:(k=a.length\/k=b.length)->Sp (sel (fun _:Unit=>if decide ((a.length:Int)<(b.length:Int))=true then some (-1:Int) else if decide ((a.length:Int)>(b.length:Int))=true then some 1 else some 0) some (Sum.inl ())) (fun z=>z=zT a b):=by
  intro hk;simp only[sel];rcases hk with hk | hk
  ·rw[kL (show a.length<=k.toNat by omega)]at h3;by_cases hl:(a.length:Int)<b.length
   ·rw[aA (bV hl)];rw[cV (show k.toNat<b.length by omega)]at h3;exact aB.2 h3
   ·rw[aE (cD hl),aE (cD (by omega))];rw[kL (show b.length<=k.toNat by omega)]at h3;exact aB.2 h3
  ·rw[kL (show b.length<=k.toNat by omega)]at h3;rw[aE (cD (by omega))];by_cases hl:(a.length:Int)>b.length
   ·rw[aA (bV hl)];rw[cV (show k.toNat<a.length by omega)]at h3;exact aB.2 h3
   ·rw[aE (cD (by omega))];rw[kL (show a.length<=k.toNat by omega)]at h3;exact aB.2 h3
 by_cases hk:k<a.length
 ·rw[aA (bV hk)];simp only[aK];by_cases hk':k<b.length
  ·rw[aA (bV hk'),aA ⟨h0,hk⟩,aA ⟨h0,hk'⟩];rw[cV (show k.toNat<a.length by omega),cV (show k.toNat<b.length by omega)]at h3;simp only[pN]at h3;by_cases hz:kK (a.getD k.toNat default) (b.getD k.toNat default)=0
   ·rw[aE (Ml hz),bT (by omega) (by omega)];refine aB.2 ⟨⟨by omega,by omega,by omega,?_⟩,by omega⟩;rw[show (k+1).toNat=k.toNat+1 by omega]; refine Eq.trans ?_ h3; simp only[fQ,hz,gK]
   ·rw[aA (Jc hz)];refine aB.2 (aB.2 ?_);refine Eq.trans ?_ h3; simp only[fQ,aE hz]
  ·rw[aE (cD hk')];exact aB.2 (stop (.inr (by omega)))
 ·rw[aE (cD hk)];exact aB.2 (stop (.inl (by omega)))
section
variable {P:Program} {A R:Type}
theorem aAQ{C:A->Option R->Prop}(c0:∀ a,C a none)(B:{f:A->Option R // ∀ a,C a (f a)}->A->Tr P R)(ok:∀ f a,C a (B f a).den)(I:Nat->A->Prop)(Q:A->R->Prop)
  (h:∀ b f n a,I n a->(∀ m a',m<n->I m a'->Sq b (f.1 a') (Q a'))->Sq b (B f a).den (Q a)):∀ k n a,I n a->Sq (decide (n<k)) ((Un c0 B ok k).1 a) (Q a):=by
 intro k
 induction k with
 | zero=>intro n a ha; exact⟨fun y hy=>(by cases hy),fun hb=>by simp at hb⟩
 | succ k ih=>intro n a ha;refine h _ _ n a ha fun m a' hm ha'=>?_;have h1:=ih m a' ha';exact⟨h1.1,fun hb=>h1.2 (by simp at hb ⊢; omega)⟩
theorem Zp{C:A->Option R->Prop}(c0:∀ a,C a none)(B:{f:A->Option R // ∀ a,C a (f a)}->A->Tr P R)(ok:∀ f a,C a (B f a).den)(I:Nat->A->Prop)(Q:A->R->Prop)
  (h:∀ b f n a,I n a->(∀ m a',m<n->I m a'->Sq b (f.1 a') (Q a'))->Sq b (B f a).den (Q a))(b:Bool)(n:Nat)(a:A)(ha:I n a):Sq b (tM c0 B ok a) (Q a):=by
 have h1:=aAQ c0 B ok I Q h;unfold tM Lim;split
 ·rename_i hh;obtain⟨k,hk⟩:=hh.choose_spec;exact aB.2 ((h1 k n a ha).1 _ hk)
 ·rename_i hh;exfalso;have h2:=h1 (n+1) n a ha;obtain⟨y,hy⟩:=Ck.1 (h2.2 (by simp));exact hh ⟨y,_,hy⟩
end
theorem lR{S R:Type}{b:Bool}{bd:S->Option (S⊕R)}(idx:S->Int)(N:Nat)(hN:N<=1000000000000000)(I:S->Prop){Q:R->Prop}
  (h:∀ s (k:Nat),I s->idx s=k->k<=N->Sq b (bd s) (sel (fun s'=>idx s'=IntKind.i64.wrap ((k:Int)+1)/\k<N/\I s') Q)){s:S}(hs:I s)(h0:idx s=0):Sq b (cO bd s) Q:=by
 refine Sq.while (fun s=>I s/\∃ k:Nat,idx s=k/\k<=N) (fun s=>N-(idx s).toNat) (fun s hs=>?_) ⟨hs,0,h0,by omega⟩;obtain⟨hI,k,hk,hkN⟩:=hs;refine(h s k hI hk hkN).imp fun z hz=>?_;cases z with
 | inr r=>exact hz
 | inl s'=>obtain⟨q1,q2,q3⟩:=hz;rw[aP (by omega)]at q1;exact⟨⟨q3,k+1,q1,by omega⟩,by rw[q1,hk]; omega⟩
inductive OkE (fs:List bE):Nat->Nat->Nat->bL->Prop
 | mk {nc np h:Nat} {e:bL} (k:Nat) (hm:Nat->Nat) (hs:e.S.size<=1048576) (hl:e.Args.length<=1048576) (ho:0<=e.Op/\e.Op<=22)
   (hlt:∀ i,hm i<h) (hA:∀ i,i<e.Args.length->OkE fs nc np (hm i) (e.Args.getD i default))
   (c3:e.Op=3->0<=e.N/\e.N<nc) (c4:e.Op=4->0<=e.N/\e.N<np) (c1:e.Op=6\/e.Op=7\/e.Op=20->1<=e.Args.length) (c2:8<=e.Op/\e.Op<=19->2<=e.Args.length)
   (c21:e.Op=21->3<=e.Args.length) (c22:e.Op=22->0<=e.N/\e.N<fs.length/\k<h) (hb:e.Op=22->OkE fs 0 e.Args.length k (fs.getD e.N.toNat default).Body):OkE fs nc np h e
def Sm(v:aF):Prop:=v.S.size<=1073741824
structure OkF (fs:List bE)(nc np:Nat)(f:fP):Prop where
 fs:f.funcs_=fs
 nc:f.row_.length=nc
 np:f.params_.length=np
 row:∀ v,v∈f.row_->Sm v
 params:∀ v,v∈f.params_->Sm v
theorem qF(n:Int):Sm (vI n):=by show (0:Nat)<=_; omega
theorem zM(b:Bool):Sm (vB b):=by show (0:Nat)<=_; omega
theorem Ay{l:List aF}(h:∀ v,v∈l->Sm v)(hi:i<l.length):Sm (l.getD i default):=h _ (aT hi)
theorem jT{c:Prop}[Decidable c]{x y:aF}(hx:Sm x)(hy:Sm y):Sm (if c then x else y):=by split <;> assumption
theorem kJ(op:Int)(a b:aF):Sm (bop op a b):=by unfold bop;refine jT (qF _) (jT (qF _) (jT (qF _) (jT (jT (qF _) (qF _)) (jT (jT (qF _) (qF _)) (jT (zM _) (jT (zM _) (jT (zM _) (jT (zM _) (jT (zM _) (jT (zM _) ?_))))))))));show ((a.S++b.S).extract 0 (min 200 (a.S.size+b.S.size))).size<=1073741824;rw[ByteArray.size_extract]; omega
theorem aEG(fs:List bE)(nc np n:Nat)(f:fP)(e:bL)(hf:OkF fs nc np f)(he:OkE fs nc np n e):Sp (aOQ f e) Sm:=by
 refine Zp (C:=fun (a:fP×bL) (x:Option (aF))=>Con Proofs.Tryz.prog 171 [.t (iM a.1),.t (cZ a.2)] x (fun (y:aF)=>.t (cK y))) (fun a=>⟨bO Proofs.Tryz.func171 (by kernel_rfl),fun _ h=>nomatch h⟩) (fun rec a=>Pe rec a.1 a.2) (fun rec a=>Gx rec a.1 a.2)
  (fun n a=>∃ fs nc np,OkF fs nc np a.1/\OkE fs nc np n a.2) (fun _=>Sm) (fun b r n a ha hrec=>?_) true n (f,e) ⟨fs,nc,np,hf,he⟩
 clear hf he fs nc np f e;obtain⟨f,e⟩:=a;obtain⟨fs,nc,np,hf,he⟩:=ha;simp only at hf he ⊢;have hfun:=hf.fs;cases he with
 | mk k' hm hs hl ho hlt hA c3 c4 c1 c2 c21 c22 hb=>
 have hr:∀ i,i<e.Args.length->Sq b (r.1 (f,e.Args.getD i default)) Sm:=fun i hi=>hrec _ _ (hlt i) ⟨fs,nc,np,hf,hA i hi⟩;unfold Pe;by_cases h21:e.Op=21
 ·have hl3:=c21 h21;simp only[h21,Tr.den];rw[aA (by decide),aA (by omega)];refine Sq.bind _ (hr 0 (by omega)) fun v1 _=>?_;split
  ·rw[aA (by omega)];refine Sq.bind _ (hr 1 (by omega)) fun v2 h2=>aB.2 h2
  ·rw[aA (by omega)];refine Sq.bind _ (hr 2 (by omega)) fun v2 h2=>aB.2 h2
 ·simp only[Tr.den];rw[aE (by simpa using h21)];refine bQ.2 (lR (fun s:List aF×Int=>s.2) e.Args.length (by omega) (fun s=>(s.1.length:Int)=s.2/\∀ v,v∈s.1->Sm v) (fun s k hI hk hkN=>?_) ⟨rfl,fun v hv=>by cases hv⟩ rfl);obtain⟨b6,v5⟩:=s;obtain⟨hbl,hbs⟩:=hI;simp only at hk hbl hbs;subst hk;unfold Id;simp only[Tr.den,aX];by_cases hc:k<e.Args.length
  ·rw[aA (bV (by omega)),aA (by omega)];refine Sq.bind _ (hr k hc) fun v hv=>?_;rw[aA (by simp only[eI]; omega)];refine aB.2 ⟨rfl,hc,?_,fun u hu=>?_⟩
   ·simp only[bU,eI]; rw[aP (by omega)]; omega
   ·rcases dA.1 hu with h | h
    ·exact hbs u h
    ·cases bW.1 h; exact hv
  ·rw[aE (cD (by omega))];refine aB.2 ?_;have hbe:b6.length=e.Args.length:=by omega
   show Sq b _ Sm;simp only[sel];have z0:(0:Int).toNat=0:=rfl;have z1:(1:Int).toNat=1:=rfl;have hop:e.Op=0\/e.Op=1\/e.Op=2\/e.Op=3\/e.Op=4\/e.Op=5\/e.Op=6\/e.Op=7\/e.Op=20\/e.Op=22\/(8<=e.Op/\e.Op<=19):=by omega
   rcases hop with h | h | h | h | h | h | h | h | h | h | h
   ·rw[aA (by rw[h]; rfl),gF]; exact aB.2 (qF _)
   ·simp (decide:=true) only[h,↓reduceIte];exact aB.2 (by show e.S.size<=_; omega)
   ·simp (decide:=true) only[h,↓reduceIte,iL];exact aB.2 (zM _)
   ·have:=c3 h;have hn:=hf.nc;simp (decide:=true) only[h,↓reduceIte];rw[aA (by omega)];exact aB.2 (Ay hf.row (by omega))
   ·have:=c4 h;have hn:=hf.np;simp (decide:=true) only[h,↓reduceIte];rw[aA (by omega)];exact aB.2 (Ay hf.params (by omega))
   ·simp (decide:=true) only[h,↓reduceIte,gF];exact aB.2 (qF _)
   ·have:=c1 (by omega);simp (decide:=true) only[h,↓reduceIte,iL];rw[aA ⟨trivial,by omega⟩,aA (by show 0<b6.length; omega)];exact aB.2 (zM _)
   ·have:=c1 (by omega);simp (decide:=true) only[h,↓reduceIte,gF];rw[aA ⟨trivial,by omega⟩,aA (by show 0<b6.length; omega)];exact aB.2 (qF _)
   ·have:=c1 (by omega);simp (decide:=true) only[h,↓reduceIte,gF];rw[aA ⟨trivial,by omega⟩,aA (by show 0<b6.length; omega)];exact aB.2 (qF _)
   ·have hc2:=c22 h;simp (decide:=true) only[h,↓reduceIte];rw[aA (by rw[hfun]; omega)];rw[hfun];refine Sq.bind _ (hrec k' (_,_) hc2.2.2 ⟨fs,0,e.Args.length,⟨rfl,rfl,hbe,fun v hv=>(by cases hv),hbs⟩,hb h⟩) fun v hv=>aB.2 hv
   ·have h2:=c2 h;have p0:Sm (b6.getD 0 default):=Ay hbs (by omega);have p1:Sm (b6.getD 1 default):=Ay hbs (by omega);have d0:(0:Int)<=0/\(0:Int)<(b6.length:Int):=⟨by omega,by omega⟩;have d1:(0:Int)<=1/\(1:Int)<(b6.length:Int):=⟨by omega,by omega⟩;have d2:0<b6.length:=by omega
    have d3:1<b6.length:=by omega
    have hop:e.Op=8\/e.Op=9\/e.Op=10\/e.Op=11\/e.Op=12\/e.Op=13\/e.Op=14\/e.Op=15\/e.Op=16\/e.Op=17\/e.Op=18\/e.Op=19:=by omega
    rcases hop with h | h | h | h | h | h | h | h | h | h | h | h
    ·simp (decide:=true) only[h,↓reduceIte];change Sq b (((some 225:Option Nat).bind _).bind _) Sm;simp only[aK,Tr.den,z0,z1];rw[aA ⟨trivial,by omega⟩,aA d2,aA ⟨trivial,by omega⟩,aA d3,Td];exact aB.2 (kJ 8 (b6.getD 0 default) (b6.getD 1 default))
    ·simp (decide:=true) only[h,↓reduceIte];change Sq b (((some 226:Option Nat).bind _).bind _) Sm;simp only[aK,Tr.den,z0,z1];rw[aA ⟨trivial,by omega⟩,aA d2,aA ⟨trivial,by omega⟩,aA d3,Sd];exact aB.2 (kJ 9 (b6.getD 0 default) (b6.getD 1 default))
    ·simp (decide:=true) only[h,↓reduceIte];change Sq b (((some 227:Option Nat).bind _).bind _) Sm;simp only[aK,Tr.den,z0,z1];rw[aA ⟨trivial,by omega⟩,aA d2,aA ⟨trivial,by omega⟩,aA d3,Rw];exact aB.2 (kJ 10 (b6.getD 0 default) (b6.getD 1 default))
    ·simp (decide:=true) only[h,↓reduceIte];change Sq b (((some 228:Option Nat).bind _).bind _) Sm;simp only[aK,Tr.den,z0,z1];rw[aA ⟨trivial,by omega⟩,aA d2,aA ⟨trivial,by omega⟩,aA d3,Rf];exact aB.2 (kJ 11 (b6.getD 0 default) (b6.getD 1 default))
    ·simp (decide:=true) only[h,↓reduceIte];change Sq b (((some 229:Option Nat).bind _).bind _) Sm;simp only[aK,Tr.den,z0,z1];rw[aA ⟨trivial,by omega⟩,aA d2,aA ⟨trivial,by omega⟩,aA d3,Sw];exact aB.2 (kJ 12 (b6.getD 0 default) (b6.getD 1 default))
    ·simp (decide:=true) only[h,↓reduceIte];change Sq b (((some 230:Option Nat).bind _).bind _) Sm;simp only[aK,Tr.den,z0,z1];rw[aA ⟨trivial,by omega⟩,aA d2,aA ⟨trivial,by omega⟩,aA d3,Qo];exact aB.2 (kJ 13 (b6.getD 0 default) (b6.getD 1 default))
    ·simp (decide:=true) only[h,↓reduceIte];change Sq b (((some 231:Option Nat).bind _).bind _) Sm;simp only[aK,Tr.den,z0,z1];rw[aA ⟨trivial,by omega⟩,aA d2,aA ⟨trivial,by omega⟩,aA d3,Tg];exact aB.2 (kJ 14 (b6.getD 0 default) (b6.getD 1 default))
    ·simp (decide:=true) only[h,↓reduceIte];change Sq b (((some 232:Option Nat).bind _).bind _) Sm;simp only[aK,Tr.den,z0,z1];rw[aA ⟨trivial,by omega⟩,aA d2,aA ⟨trivial,by omega⟩,aA d3,Se];exact aB.2 (kJ 15 (b6.getD 0 default) (b6.getD 1 default))
    ·simp (decide:=true) only[h,↓reduceIte];change Sq b (((some 233:Option Nat).bind _).bind _) Sm;simp only[aK,Tr.den,z0,z1];rw[aA ⟨trivial,by omega⟩,aA d2,aA ⟨trivial,by omega⟩,aA d3,Ps];exact aB.2 (kJ 16 (b6.getD 0 default) (b6.getD 1 default))
    ·simp (decide:=true) only[h,↓reduceIte];change Sq b (((some 234:Option Nat).bind _).bind _) Sm;simp only[aK,Tr.den,z0,z1];rw[aA ⟨trivial,by omega⟩,aA d2,aA ⟨trivial,by omega⟩,aA d3,Ta];exact aB.2 (kJ 17 (b6.getD 0 default) (b6.getD 1 default))
    ·simp (decide:=true) only[h,↓reduceIte];change Sq b (((some 235:Option Nat).bind _).bind _) Sm;simp only[aK,Tr.den,z0,z1];rw[aA ⟨trivial,by omega⟩,aA d2,aA ⟨trivial,by omega⟩,aA d3,Rb];exact aB.2 (kJ 18 (b6.getD 0 default) (b6.getD 1 default))
    ·simp (decide:=true) only[h,↓reduceIte];change Sq b (((some 236:Option Nat).bind _).bind _) Sm;simp only[aK,Tr.den,z0,z1];rw[aA ⟨trivial,by omega⟩,aA d2,aA ⟨trivial,by omega⟩,aA d3,aFW _ (by have q0:=p0; have q1:=p1; unfold Sm at q0 q1; show (b6.getD 0 default).S.size+(b6.getD 1 default).S.size<=_; omega)];exact aB.2 (kJ 19 (b6.getD 0 default) (b6.getD 1 default))
inductive OkI (ar:Nat->Nat)(n:Nat):Nat->Nat->bL->Prop
 | mk {nc np:Nat} {e:bL} (hs:e.S.size<=1048576) (hl:e.Args.length<=1048576) (ho:0<=e.Op/\e.Op<=22)
   (hA:∀ i,i<e.Args.length->OkI ar n nc np (e.Args.getD i default))
   (c3:e.Op=3->0<=e.N/\e.N<nc) (c4:e.Op=4->0<=e.N/\e.N<np) (c1:e.Op=6\/e.Op=7\/e.Op=20->1<=e.Args.length) (c2:8<=e.Op/\e.Op<=19->2<=e.Args.length)
   (c21:e.Op=21->3<=e.Args.length) (c22:e.Op=22->0<=e.N/\e.N<n/\e.Args.length=ar e.N.toNat):OkI ar n nc np e
theorem Fa(f:Nat->Nat):∀ n,∃ H,∀ i,i<n->f i<H
 | 0=>⟨0,fun i hi=>absurd hi (Nat.not_lt_zero i)⟩
 | n+1=>by
  obtain⟨H,hH⟩:=Fa f n;refine⟨H+f n+1,fun i hi=>?_⟩;rcases mG i n with h | h
  ·have:=hH i h; omega
  ·have:i=n:=by omega
   subst this; omega
theorem aJX(hB:∀ i,i<fs.length->OkI (fun k=>(fs.getD k default).Params.length) i 0 (fs.getD i default).Params.length (fs.getD i default).Body):
  ∀ j,j<=fs.length->∀ nc np e,OkI (fun k=>(fs.getD k default).Params.length) j nc np e->∃ h,OkE fs nc np h e:=by
 intro j
 induction j using Nat.strongRecOn with
 | _ j ih=>
  intro hj nc np e he
  induction he with
  | @mk e hs hl ho hA c3 c4 c1 c2 c21 c22 ihA=>
   have hc:∀ i,∃ h,i<e.Args.length->OkE fs nc np h (e.Args.getD i default):=fun i=>by
    by_cases hi:i<e.Args.length
    ·obtain⟨h,hh⟩:=ihA i hi;exact⟨h,fun _=>hh⟩
    ·exact⟨0,fun h=>absurd h hi⟩
   let hm:Nat->Nat:=fun i=>if i<e.Args.length then (hc i).choose else 0
   have hmA:∀ i,i<e.Args.length->OkE fs nc np (hm i) (e.Args.getD i default):=fun i hi=>by show OkE fs nc np (if i<e.Args.length then (hc i).choose else 0) _;rw[aA hi];exact(hc i).choose_spec hi
   obtain⟨H,hH⟩:=Fa hm e.Args.length;obtain⟨k,hk⟩:∃ k,e.Op=22->OkE fs 0 e.Args.length k (fs.getD e.N.toNat default).Body:=by
    by_cases h22:e.Op=22
    ·obtain⟨g1,g2,g3⟩:=c22 h22;obtain⟨k,hk⟩:=ih e.N.toNat (by omega) (by omega) 0 _ _ (hB e.N.toNat (by omega));exact⟨k,fun _=>by rw[g3]; exact hk⟩
    ·exact⟨0,fun h=>absurd h h22⟩
   refine⟨H+k+1,.mk k hm hs hl ho (fun i=>?_) hmA c3 c4 c1 c2 c21 (fun h=>?_) hk⟩
   ·by_cases hi:i<e.Args.length
    ·have:=hH i hi; omega
    ·show (if i<e.Args.length then (hc i).choose else 0)<_;rw[aE hi]; omega
   ·obtain⟨g1,g2,g3⟩:=c22 h;exact⟨g1,by omega,by omega⟩
theorem Aa(n:Int):aEP n=some (decide (0<=n/\n<3)):=by
 by_cases h:0<=n
 ·simp[aEP,aGK,Tr.den,h]
 ·simp[aEP,aGK,Tr.den,h]
def Vf(op:Int):Int:=
 if 0<=op/\op<=5 then 0 else if op=6\/op=7\/op=20 then 1 else if op=21 then 3 else if op=22 then -1 else if 5<op/\op<21 then 2 else -1
theorem Rz(op:Int):aMA op=some (Vf op):=by
 have hs:op=0\/op=1\/op=2\/op=3\/op=4\/op=5\/op=6\/op=7\/op=20\/op=21\/op=22\/(op<0\/(8<=op/\op<=19)\/22<op):=by omega
 rcases hs with h | h | h | h | h | h | h | h | h | h | h | h
 iterate 11 (subst h; rfl)
 have n0:(op==0)=false:=by simp; omega
 have n1:(op==1)=false:=by simp; omega
 have n2:(op==2)=false:=by simp; omega
 have n3:(op==3)=false:=by simp; omega
 have n4:(op==4)=false:=by simp; omega
 have n5:(op==5)=false:=by simp; omega
 have n6:(op==6)=false:=by simp; omega
 have n7:(op==7)=false:=by simp; omega
 have n20:(op==20)=false:=by simp; omega
 have n21:(op==21)=false:=by simp; omega
 have n22:(op==22)=false:=by simp; omega
 have q1:¬ (0<=op/\op<=5):=by omega
 have q2:¬ (op=6\/op=7\/op=20):=by omega
 have q3:¬ op=21:=by omega
 have q4:¬ op=22:=by omega
 unfold aMA aMS Vf;rw[aE q1,aE q2,aE q3,aE q4];simp only[Tr.den,n0,n1,n2,n3,n4,n5,n6,n7,n20,n21,n22,aK,dS,dQ];by_cases h1:op>5
 ·have h1':5<op:=h1;by_cases h2:op<21
  ·rw[aA (bV h1),aA ⟨h1',h2⟩,uE h2]; rfl
  ·rw[aA (bV h1),aE (fun h=>h2 h.2),gN h2]; rfl
 ·have:¬ (5<op/\op<21):=by omega
  rw[aE (cD h1),aE this]; rfl
theorem Qe(l:List Int)(n:Int):Sp (Ys l n) (fun r=>r.2=true->0<=n/\n<l.length):=by
 unfold Ys aJT;simp only[Tr.den];by_cases h1:n<0
 ·rw[aA (bV h1)];exact aB.2 (fun h=>by cases h)
 ·rw[aE (cD h1)];by_cases h2:n>=(l.length:Int)
  ·simp only[aK,uE h2,gK];exact aB.2 (fun h=>by cases h)
  ·simp only[aK,gN h2,dS,dQ];rw[aA (by omega),aA (by omega),Aa];exact aB.2 (fun _=>by omega)
theorem aGB(fs:List bE)(n:Int)(l:List Int)(hl:l.length<=1048576):Sp (Wx fs n l) (fun r=>r.2=true->0<=n/\n<fs.length/\l.length=(fs.getD n.toNat default).Params.length):=by
 unfold Wx aGS;simp only[Tr.den];by_cases h1:n<0
 ·rw[aA (bV h1)];exact aB.2 (fun h=>by cases h)
 ·rw[aE (cD h1)];by_cases h2:n>=(fs.length:Int)
  ·simp only[aK,uE h2,gK];exact aB.2 (fun h=>by cases h)
  ·simp only[aK,gN h2,dS,dQ];rw[aA (by omega)];by_cases h3:((fs.getD n.toNat default).Params.length:Int)=(l.length:Int)
   ·rw[aE (by simpa using h3)];refine bQ.2 (lR (fun s:Int=>s) l.length (by omega) (fun _=>True) (fun s k _ hk hkN=>?_) trivial rfl);subst hk;unfold Ik;simp only[Tr.den,aX];by_cases hc:k<l.length
    ·rw[aA (bV (by omega)),aA (by omega),aA (by omega)];split
     ·exact aB.2 (aB.2 (fun h=>by cases h))
     ·exact aB.2 ⟨rfl,hc,trivial⟩
    ·rw[aE (cD (by omega))];exact aB.2 (aB.2 (fun _=>by omega))
   ·rw[aA (by simpa using h3)];exact aB.2 (fun h=>by cases h)
theorem Sq.of{α:Type}{b:Bool}{x:Option α}{Q:α->Prop}(h:Sp x Q):Sq b x Q:=⟨h.1,fun _=>h.2 rfl⟩
inductive tJ:bL->Prop
 | mk {e:bL} (hs:e.S.size<=1048576) (hl:e.Args.length<=1048576) (hA:∀ i,i<e.Args.length->tJ (e.Args.getD i default)):tJ e
theorem rF{x:bL}(h:x∈e.Args):SizeOf.sizeOf x<SizeOf.sizeOf e:=by
 cases e with
 | mk a b s l=>have:=List.sizeOf_lt_of_mem h;simp only[bL.Args]at this;simp only[bL.mk.sizeOf_spec];omega
abbrev arF (fs:List bE)(k:Nat):Nat:=(fs.getD k default).Params.length
theorem aGT(fs:List bE)(cs ps:List Int)(e:bL)(he:tJ e):Sp (aNQ fs cs ps e) (fun r=>r.2=true->OkI (arF fs) fs.length cs.length ps.length e):=by
 refine kV (C:=fun (a:(List bE)×(List Int)×(List Int)×bL) (x:Option (Int×Bool))=>Con Proofs.Tryz.prog 212 [.t (eL bJ (a.1)),.t (eL bM (a.2.1)),.t (eL bM (a.2.2.1)),.t (cZ a.2.2.2)] x (fun (y:Int×Bool)=>.tup [.t (.int .i64 (y.1)),.t (.bool (y.2))])) (fun a=>⟨bO Proofs.Tryz.func212 (by kernel_rfl),fun _ h=>nomatch h⟩) (fun rec a=>Od rec a.1 a.2.1 a.2.2.1 a.2.2.2) (fun rec a=>Hc rec a.1 a.2.1 a.2.2.1 a.2.2.2)
  (fun a=>tJ a.2.2.2) (fun a=>SizeOf.sizeOf a.2.2.2) (fun a r=>r.2=true->OkI (arF a.1) a.1.length a.2.1.length a.2.2.1.length a.2.2.2) (fun b r a ha hrec=>?_) true (fs,cs,ps,e) he
 clear he fs cs ps e;obtain⟨fs,cs,ps,e⟩:=a;simp only at ha hrec ⊢;cases ha with
 | mk hs hl hA=>
 have hr:∀ i,i<e.Args.length->Sq b (r.1 (fs,cs,ps,e.Args.getD i default)) (fun r=>r.2=true->OkI (arF fs) fs.length cs.length ps.length (e.Args.getD i default)):=fun i hi=>hrec _ (hA i hi) (rF (aT hi));unfold Od;simp only[Tr.den];refine bQ.2 (lR (fun s:List Int×Int=>s.2) e.Args.length (by omega) (fun s=>(s.1.length:Int)=s.2/\∀ i:Nat,(i:Int)<s.2->OkI (arF fs) fs.length cs.length ps.length (e.Args.getD i default)) (fun s k hI hk hkN=>?_) ⟨rfl,fun i hi=>absurd hi (by show ¬ ((i:Int)<0); omega)⟩ rfl);obtain⟨b3,v2⟩:=s;obtain⟨hbl,hbs⟩:=hI;simp only at hk hbl hbs;subst hk;unfold Gg;simp only[Tr.den,aX];by_cases hc:k<e.Args.length
 ·rw[aA (bV (by omega)),aA (by omega)];refine Sq.bind _ (hr k hc) fun v hv=>?_;by_cases hv2:v.2=true
  ·rw[aE (by rw[hv2]; decide),aA (by simp only[eI]; omega)];refine aB.2 ⟨rfl,hc,?_,fun i hi=>?_⟩
   ·simp only[bU,eI]; rw[aP (by omega)]; omega
   ·simp only at hi;rw[aP (by omega)]at hi;rcases mG i k with h | h
    ·exact hbs i (by omega)
    ·have:i=k:=by omega
     subst this; exact hv hv2
  ·rw[aA (by simp only[Bool.not_eq_true]at hv2; rw[hv2]; rfl)];exact aB.2 (aB.2 (fun h=>by cases h))
 ·rw[aE (cD (by omega))];refine aB.2 ?_;have hbe:b3.length=e.Args.length:=by omega
  have hA':∀ i,i<e.Args.length->OkI (arF fs) fs.length cs.length ps.length (e.Args.getD i default):=fun i hi=>hbs i (by omega);simp only[sel];refine Sq.bind (fun s:List Int×Bool=>s.1=b3) (by split <;> exact aB.2 rfl) (fun s hsb=>?_);obtain⟨j5,j6⟩:=s;simp only at hsb;subst hsb;cases j6 with
  | true=>exact aB.2 (fun h=>by cases h)
  | false=>
   simp only[dS,dQ];by_cases h22:e.Op=22
   ·rw[aA (by rw[h22]; rfl)];refine Sq.bind _ (Sq.of (aGB fs e.N j5 (by omega))) fun r hr=>aB.2 (fun h=>?_);have h3:=hr h;exact .mk hs hl (by omega) hA' (fun h=>by omega) (fun h=>by omega) (fun h=>by omega) (fun h=>by omega) (fun h=>by omega) (fun _=>⟨h3.1,h3.2.1,by rw[<-hbe]; exact h3.2.2⟩)
   ·rw[aE (by simpa using h22),Rz];simp only[aK];by_cases hN:Vf e.Op=(j5.length:Int)
    ·rw[aE (by simpa using hN)];have hh:(0<=e.Op/\e.Op<=21)/\(e.Op=6\/e.Op=7\/e.Op=20->1<=j5.length)/\(8<=e.Op/\e.Op<=19->2<=j5.length)/\(e.Op=21->3<=j5.length):=by
      unfold Vf at hN
      repeat' split at hN
      all_goals omega
     obtain⟨ho,c1,c2,c21⟩:=hh;have fin:(e.Op=3->0<=e.N/\e.N<cs.length)->(e.Op=4->0<=e.N/\e.N<ps.length)->OkI (arF fs) fs.length cs.length ps.length e:=fun c3 c4=>
      .mk hs hl (by omega) hA' c3 c4 (fun h=>by have:=c1 h; omega) (fun h=>by have:=c2 h; omega) (fun h=>by have:=c21 h; omega) (fun h=>absurd h h22)
     clear hN;by_cases h3:e.Op=3
     ·simp (decide:=true) only[h3,↓reduceIte];refine Sq.bind _ (Sq.of (Qe cs e.N)) fun r hr=>aB.2 (fun h=>fin (fun _=>hr h) (fun h=>by omega))
     by_cases h4:e.Op=4
     ·simp (decide:=true) only[h4,↓reduceIte];refine Sq.bind _ (Sq.of (Qe ps e.N)) fun r hr=>aB.2 (fun h=>fin (fun h=>by omega) (fun _=>hr h))
     have fin':=fin (fun h=>absurd h h3) (fun h=>absurd h h4);by_cases hu:e.Op=0\/e.Op=1\/e.Op=2\/e.Op=5
     ·rcases hu with h | h | h | h
      all_goals simp (decide:=true) only[h,↓reduceIte]
      all_goals repeat' (first | exact aB.2 (fun _=>fin') | split)
     by_cases hu1:e.Op=6\/e.Op=7\/e.Op=20
     ·have g0:(0:Int)<(j5.length:Int):=by have:=c1 hu1; omega
      have g0':Int.toNat 0<j5.length:=by show 0<j5.length; omega
      rcases hu1 with h | h | h
      all_goals simp (decide:=true) only[h,g0,g0',lU,↓reduceIte]
      all_goals repeat' (first | exact aB.2 (fun _=>fin') | split)
     have l2:2<=j5.length:=by
      by_cases h:e.Op=21
      ·have:=c21 h; omega
      ·exact c2 (by omega)
     have g0:(0:Int)<(j5.length:Int):=by omega
     have g0':Int.toNat 0<j5.length:=by show 0<j5.length; omega
     have g1:(1:Int)<(j5.length:Int):=by omega
     have g1':Int.toNat 1<j5.length:=by show 1<j5.length; omega
     have hop:e.Op=8\/e.Op=9\/e.Op=10\/e.Op=11\/e.Op=12\/e.Op=13\/e.Op=14\/e.Op=15\/e.Op=16\/e.Op=17\/e.Op=18\/e.Op=19\/e.Op=21:=by omega
     rcases hop with h | h | h | h | h | h | h | h | h | h | h | h | h
     iterate 12
      ·simp (decide:=true) only[h,g0,g0',g1,g1',lU,↓reduceIte,aK]
       repeat' (first | exact aB.2 (fun _=>fin') | split)
     have l3:=c21 h;have g2:(2:Int)<(j5.length:Int):=by omega
     have g2':Int.toNat 2<j5.length:=by show 2<j5.length; omega
     simp (decide:=true) only[h,g0,g0',g1,g1',g2,g2',lU,↓reduceIte,aK]
     repeat' (first | exact aB.2 (fun _=>fin') | split)
    ·rw[aA (by simpa using hN)];exact aB.2 (fun h=>by cases h)
theorem Rn(e:bL)(h:tJ e):Sp (G80 e) (fun _=>True):=by
 refine kV (C:=fun (a:bL) (x:Option (Int))=>Con Proofs.Tryz.prog 130 [.t (cZ a)] x (fun (y:Int)=>.t (.int .i64 (y)))) (fun a=>⟨bO Proofs.Tryz.func130 (by kernel_rfl),fun _ h=>nomatch h⟩) (fun rec a=>T80 rec a) (fun rec a=>Nc rec a)
  tJ (fun e=>SizeOf.sizeOf e) (fun _ _=>True) (fun b f e he hrec=>?_) true e h
 cases he with
 | mk hs hl hA=>
 unfold T80;simp only[Tr.den,bQ];refine lR (fun s:Int×Int=>s.2) e.Args.length (by omega) (fun _=>True) (fun s k _ hk hkN=>?_) trivial rfl;obtain⟨v1,v2⟩:=s;simp only at hk;subst hk;unfold Mq;simp only[Tr.den,aX];by_cases hc:k<e.Args.length
 ·rw[aA (bV (by omega)),aA (by omega)];refine Sq.bind _ (hrec _ (hA k hc) (rF (aT hc))) fun r _=>aB.2 ⟨rfl,hc,trivial⟩
 ·rw[aE (cD (by omega))];exact aB.2 (aB.2 trivial)
theorem Db(fs:List bE)(cs ps:List Int)(e:bL)(he:tJ e):Sp (pB fs cs ps e) (fun r=>r.2=true->OkI (arF fs) fs.length cs.length ps.length e):=by
 unfold pB aEY;simp only[Tr.den];refine Sq.bind _ (Rn e he) fun r _=>?_;split
 ·exact aB.2 (fun h=>by cases h)
 ·refine Sq.bind _ (aGT fs cs ps e he) fun r2 h2=>?_;split
  ·exact aB.2 (fun h=>by cases h)
  ·rename_i h3;exact aB.2 (fun _=>h2 (by simpa using h3))
theorem aAY(fs:List bE)(hl:fs.length<=1048576)(hb:∀ i,i<fs.length->tJ (fs.getD i default).Body/\(fs.getD i default).Params.length<=1048576):
  Sp (G82 fs) (fun ok=>ok=true->fs.length<=20/\∀ i,i<fs.length->OkI (arF (fs.take i)) (fs.take i).length 0 (fs.getD i default).Params.length (fs.getD i default).Body):=by
 unfold G82 T82;simp only[Tr.den];refine bQ.2 (lR (fun s:Int=>s) fs.length (by omega) (fun s=>∀ i:Nat,(i:Int)<s->OkI (arF (fs.take i)) (fs.take i).length 0 (fs.getD i default).Params.length (fs.getD i default).Body) (fun s k hI hk hkN=>?_) (fun i hi=>absurd hi (by show ¬ ((i:Int)<0); omega)) rfl);subst hk;unfold Ny;simp only[Tr.den,aX];by_cases hc:k<fs.length
 ·rw[aA (bV (by omega))];by_cases h20:(k:Int)<=20
  ·simp only[aK,uE h20,gK];rw[aA (by omega)];have hp:=(hb k hc).2;refine bQ.2 (lR (fun s:Int=>s) (fs.getD k default).Params.length (by omega) (fun _=>True) (fun s m _ hm hmN=>?_) trivial rfl);subst hm;unfold Nv;simp only[Tr.den,aX];by_cases hm:m<(fs.getD k default).Params.length
   ·rw[aA (bV (by omega)),aA (by omega),Aa];simp only[aK];split
    ·exact aB.2 (aB.2 (aB.2 (fun h=>by cases h)))
    ·exact aB.2 ⟨rfl,hm,trivial⟩
   ·rw[aE (cD (by omega))];refine aB.2 ?_;simp only[sel];rw[aA ⟨by omega,by omega,by omega⟩];have e1:(fs.drop (Int.toNat 0)).take ((k:Int)-0).toNat=fs.take k:=by rw[show ((k:Int)-0).toNat=k by omega]; rfl
    rw[e1,aA ⟨by omega,by omega,by omega⟩];refine Sq.bind _ (Sq.of (Db (fs.take k) [] (fs.getD k default).Params (fs.getD k default).Body (hb k hc).1)) fun r5 h5=>?_;by_cases ho:r5.2=true
    ·rw[aE (by rw[ho]; decide)];refine Sq.bind (fun _=>True) (by split <;> exact aB.2 trivial) fun j6 _=>?_;cases j6 with
     | true=>exact aB.2 (aB.2 (fun h=>by cases h))
     | false=>
      refine aB.2 ⟨rfl,hc,fun i hi=>?_⟩;rw[aP (by omega)]at hi;rcases mG i k with h | h
      ·exact hI i (by omega)
      ·have:i=k:=by omega
       subst this; exact h5 ho
    ·rw[aA (by simp only[Bool.not_eq_true]at ho; rw[ho]; rfl)];exact aB.2 (aB.2 (fun h=>by cases h))
  ·simp only[aK,gN h20,dS,dQ];refine aB.2 (aB.2 (fun h=>?_));have:=dW h;omega
 ·rw[aE (cD (by omega))];simp only[aK,dS,dQ];refine aB.2 (aB.2 (fun h=>⟨by have:=dW h; omega,fun i hi=>hI i (by omega)⟩))
theorem OkI.congr{ar ar':Nat->Nat}(h:∀ k,k<n->ar k=ar' k){nc np:Nat}(he:OkI ar n nc np e):OkI ar' n nc np e:=by
 induction he with
 | @mk e hs hl ho hA c3 c4 c1 c2 c21 c22 ih=>exact .mk hs hl ho ih c3 c4 c1 c2 c21 (fun h22=>by obtain⟨g1,g2,g3⟩:=c22 h22;exact⟨g1,g2,by rw[g3]; exact h _ (by omega)⟩)
theorem aAM(h:k<i):arF (fs.take i) k=arF fs k:=by unfold arF;rw[cF,cF,gC,aA h]
theorem Uz(hl:fs.length<=1048576)(hb:∀ i,i<fs.length->tJ (fs.getD i default).Body/\(fs.getD i default).Params.length<=1048576)(h:G82 fs=some true)
  {cs ps:List Int}(he:tJ e){t:Int}(ht:pB fs cs ps e=some (t,true)):∃ h,OkE fs cs.length ps.length h e:=by
 have h1:=(aAY fs hl hb).1 _ h rfl;refine aJX (fun i hi=>?_) fs.length (eE _) _ _ e ((Db fs cs ps e he).1 _ ht rfl);have h2:=h1.2 i hi;rw[cG,Nat.min_eq_left (by omega)]at h2;exact h2.congr (fun k hk=>aAM hk)
section
variable {α:Type} [Inhabited α] (tm:α->Int) (nx:Int->α->Int) (hit:Int->Bool) (sz bg:Int)
end
end Go.PL
