/-
  Parts: The kept part of a plain-law text (strip.py). Own work. The kept part of a plain-law text (strip.py). Own work. The kept part of a plain-law text (strip.py). Own work. The kept part of a plain-law text (strip.py). Own work. The kept part of a plain-law text (strip.py). Own work. Plain law of the meanings: windows of fixed length. Own work. Plain law of the meanings: the walk of windows of fixed length. Own work. Plain law of the meanings: the walk of sessions and aggregates. Own work. Plain law of the meanings: the walk of windows. Own work. Plain law of the meanings: weights of what windows yield. Own work. Plain law of the meanings: the walk of tops. Own work. Plain law of the meanings: the stable sort of the library with the order of tops: values descending, what came first ahead. Own work. The kept part of a plain-law text (strip.py). Own work. The kept part of a plain-law text (strip.py). Own work. The kept part of a plain-law text (strip.py). Own work. The kept part of a plain-law text (strip.py). Own work. Plain law of the meanings: what tops sort; the node's windows and tops; the examples hold. Own work. Plain law of the meanings: inputs; filters, maps, unions, joins. Own work. The kept part of a plain-law text (strip.py). Own work. Plain law of the meanings: asofs and matches; the own back; rows up to a time. Own work.
-/
import Derived.Test.YtjefblkdnolgaaaGreatDoorMh
set_option maxHeartbeats 4000000
namespace Go.PL
open Go
set_option linter.unusedVariables false
set_option maxRecDepth 20000
variable {b e t:Int} {c k:Nat} {fs:List aU} {l:List aC} {x:aC} {α:Type}
theorem bAA(n:aG)(a1:List aC)(a2:List (List Bool))(a3 v2 v3:Int)(hK:n.Seq.length<=8)(p:Nat)(hp:p<n.Seq.length)(now next:List Bool)(hl:now.length=n.Seq.length+1)(o0:Bool):
  Sp (cD (fun s=>(Lt n a1 a2 a3 v2 v3 (p:Int) s).den) (now,next,o0,IntKind.i64.wrap ((p:Int)+1)))
   (fun z=>∃ o,z = .inl (now,next,o)/\(o=true↔(o0=true\/∃ q,p+1<=q/\(∀ r,p+1<=r->r<=q->r<n.Seq.length/\gT n r=2)/\now.getD (q+1) default=true))):=by
 refine Sq.while (fun s:List Bool×List Bool×Bool×Int=>s.1=now/\s.2.1=next/\∃ q:Nat,s.2.2.2=(q:Int)/\p+1<=q/\q<=n.Seq.length/\(∀ r,p+1<=r->r<q->r<n.Seq.length/\gT n r=2) /\
   (s.2.2.1=true↔(o0=true\/∃ q',p+1<=q'/\q' < q/\now.getD (q'+1) default=true))) (fun s=>n.Seq.length+1-s.2.2.2.toNat) (fun s hI=>?_) ⟨rfl,rfl,p+1,aK (by omega),cS _,hp,fun r h1 h2=>by omega,⟨fun h=>.inl h,fun h=>h.elim id fun⟨q',h1,h2,_⟩=>by omega⟩⟩
 obtain⟨v14,v15,v16,v17⟩:=s;obtain⟨rfl,rfl,q,hq,hq1,hq2,hch,ho⟩:=hI;simp only at hq ho hl;subst hq;unfold Lt;simp only[Tr.den,aQ];have ex:(∀ q',q<=q'->¬ (q<n.Seq.length/\gT n q=2))->(v16=true↔(o0=true\/∃ q',p+1<=q'/\(∀ r,p+1<=r->r<=q'->r<n.Seq.length/\gT n r=2)/\v14.getD (q'+1) default=true)):=fun hno=>by rw[ho];refine or_congr Iff.rfl ⟨fun⟨q',h1,h2,h3⟩=>⟨q',h1,fun r h4 h5=>hch r h4 (by omega),h3⟩,fun⟨q',h1,h2,h3⟩=>⟨q',h1,?_,h3⟩⟩;exact oY fun hge=>hno q' (by omega) (h2 q (by omega) (by omega))
 cases v16 with
 | true=>
  simp only[yJ,dC,cT,aI];refine aB.2 ⟨true,rfl,⟨fun h=>?_,fun _=>rfl⟩⟩;rcases ho.1 rfl with h | ⟨q',h1,h2,h3⟩
  ·exact .inl h
  ·exact .inr ⟨q',h1,fun r h4 h5=>hch r h4 (by omega),h3⟩
 | false=>
  simp only[Bool.not_false,eJ];by_cases hc:q<n.Seq.length
  ·rw[aA (bO (by omega)),aA (by omega)];simp only[aI];by_cases hr:gT n q=2
   ·rw[aA (eE.2 hr),aK (by omega),aA (by omega),aQ,aA (by omega)];refine aB.2 ⟨⟨rfl,rfl,q+1,rfl,by omega,by omega,fun r h1 h2=>?_,?_⟩,by simp only[aQ]; omega⟩
    ·by_cases h:r=q
     ·rw[h]; exact⟨hc,hr⟩
     ·exact hch r h1 (by omega)
    ·simp only;constructor
     ·intro h; exact .inr ⟨q,hq1,by omega,h⟩
     ·rintro (h | ⟨q',h1,h2,h3⟩)
      ·exact absurd (ho.2 (.inl h)) (by decide)
      ·by_cases h:q'=q
       ·rw[<-h]; exact h3
       ·exact absurd (ho.2 (.inr ⟨q',h1,by omega,h3⟩)) (by decide)
   ·rw[aE (fun h=>hr (eE.1 h))];exact aB.2 ⟨false,rfl,ex fun q' _ h=>hr h.2⟩
  ·rw[aE (cB (by omega))];simp only[aI,dC,cT];exact aB.2 ⟨false,rfl,ex fun q' _ h=>hc h.1⟩
def opP(n:aG)(now:List Bool)(p:Nat):Prop:=(now.getD (p+1) default=true\/(gT n p=1/\now.getD p default=true))\/∃ q,p+1<=q/\(∀ r,p+1<=r->r<=q->r<n.Seq.length/\gT n r=2)/\now.getD (q+1) default=true
theorem aZX(n:aG)(a1:List aC)(a2:List (List Bool))(a3 v2:Int)(i:Nat)(hi:i<a2.length)(hK:n.Seq.length<=8)(now:List Bool)(hl:now.length=n.Seq.length+1)(hg:(a2.getD i default).length=n.Seq.length):
  Sp (cD (fun s=>(Nm n a1 a2 a3 v2 (i:Int) s).den) (now,List.replicate (n.Seq.length+1) (default:Bool),IntKind.i64.wrap ((n.Seq.length:Int)-1)))
   (fun z=>∃ nx:List Bool,z = .inl nx/\nx.length=n.Seq.length+1/\∀ p,p<=n.Seq.length->(nx.getD p default=true↔(p<n.Seq.length/\opP n now p/\(a2.getD i default).getD p default=true))):=by
 refine Sq.while (fun s:List Bool×List Bool×Int=>s.1=now/\∃ q:Nat,s.2.2=(q:Int)-1/\q<=n.Seq.length/\s.2.1.length=n.Seq.length+1/\∀ p,p<=n.Seq.length->(s.2.1.getD p default=true↔(q<=p/\p<n.Seq.length/\opP n now p/\(a2.getD i default).getD p default=true)))
  (fun s=>(s.2.2+1).toNat) (fun s hI=>?_) ⟨rfl,n.Seq.length,bF (by omega) (by omega),cS _,oX,fun p hp=>⟨fun h=>?_,fun h=>by omega⟩⟩
 ·obtain⟨v7,v8,v9⟩:=s;obtain⟨rfl,q,hq,hq1,hnl,hn⟩:=hI;simp only at hq hnl hn hl;subst hq;unfold Nm;simp only[Tr.den];cases q with
  | zero=>rw[aE (cB (by omega))];exact aB.2 ⟨v8,rfl,hnl,fun p hp=>(hn p hp).trans ⟨fun h=>h.2,fun h=>⟨vU _,h⟩⟩⟩
  | succ q=>
   have e1:((q+1:Nat):Int)-1=(q:Int):=by omega
   rw[e1,aA (bO (by omega)),aK (by omega)];simp only[aQ];rw[aA (by omega),aA (by omega)];refine Sq.bind (fun z:List Bool×List Bool×Bool=>z.1=v7/\z.2.1=v8/\(z.2.2=true↔(v7.getD (q+1) default=true\/(gT n q=1/\v7.getD q default=true)))) ?_ (fun z hz=>?_)
   ·refine bT (fun h=>aB.2 ⟨rfl,rfl,fun _=>.inl h,fun _=>rfl⟩) fun h=>?_;have hno:¬ v7.getD (q+1) default=true:=by rw[h]; decide
    rw[aA (by omega)];by_cases hr:gT n q=1
    ·rw[aA (eE.2 hr),aA (by omega),aA (by omega)];exact aB.2 ⟨rfl,rfl,fun h=>.inr ⟨hr,h⟩,fun h=>h.elim (fun h=>absurd h hno) fun h=>h.2⟩
    ·rw[aE (fun h=>hr (eE.1 h))];exact aB.2 ⟨rfl,rfl,fun h=>(by cases h),fun h=>h.elim (fun h=>absurd h hno) fun h=>absurd h.1 hr⟩
   ·obtain⟨j11,j12,j13⟩:=z;obtain⟨rfl,rfl,hj⟩:=hz;simp only at hj hl hn hnl;refine Sq.bind _ (Sq.of (aK (n:=q) (by omega)▸bAA n a1 a2 a3 v2 (i:Int) hK q (by omega) j11 j12 hl j13)) (fun z hz=>?_);obtain⟨o,rfl,ho⟩:=hz;simp only[sel];have ho':o=true↔opP n j11 q:=ho.trans (or_congr hj Iff.rfl);have step:∀ b:Bool,(b=true↔(opP n j11 q/\(a2.getD i default).getD q default=true)) ->
      (∀ p,p<=n.Seq.length->((j12.set q b).getD p default=true↔(q<=p/\p<n.Seq.length/\opP n j11 p/\(a2.getD i default).getD p default=true))):=fun b hb p hp=>by
     rw[jG];by_cases h:p=q
     ·rw[aA ⟨h,by omega⟩,h,hb];exact⟨fun h=>⟨cS _,by omega,h⟩,fun h=>h.2.2⟩
     ·rw[aE (fun h'=>h h'.1),hn p hp];exact⟨fun h=>⟨by omega,h.2⟩,fun h'=>⟨by omega,h'.2⟩⟩
    have fin:∀ b:Bool,(b=true↔(opP n j11 q/\(a2.getD i default).getD q default=true))->Sq true ((some (j11,j12.set q b):Option (List Bool×List Bool)).bind fun x=>some (Sum.inl (x.1,x.2,IntKind.i64.wrap ((q:Int)-1)):(List Bool×List Bool×Int)⊕(List Bool⊕(List Bool×Int×Int)⊕Int⊕Int)))
      (sel (fun s':List Bool×List Bool×Int=>(s'.1=j11/\∃ q:Nat,s'.2.2=(q:Int)-1/\q<=n.Seq.length/\s'.2.1.length=n.Seq.length+1/\∀ p,p<=n.Seq.length->(s'.2.1.getD p default=true↔(q<=p/\p<n.Seq.length/\opP n j11 p/\(a2.getD i default).getD p default=true)))/\(s'.2.2+1).toNat<((q:Int)+1).toNat) (fun z=>∃ nx:List Bool,z = .inl nx/\nx.length=n.Seq.length+1/\∀ p,p<=n.Seq.length->(nx.getD p default=true↔(p<n.Seq.length/\opP n j11 p/\(a2.getD i default).getD p default=true)))):=fun b hb=>by
     refine aB.2 ⟨⟨rfl,q,?_,by omega,by rw[Jn]; exact hnl,step b hb⟩,?_⟩
     ·simp only; rw[bF (by omega) (by omega)]
     ·simp only; rw[bF (by omega) (by omega)]; omega
    cases o with
    | true=>simp only[eJ];rw[aA (by omega),aA (by omega),aA (by omega),aA (by omega),aA (by simp; omega)];exact fin _ ⟨fun h=>⟨ho'.1 rfl,h⟩,fun h=>h.2⟩
    | false=>simp only[dC,cT];rw[aA (by omega),aA (by omega),aA (by simp; omega)];exact fin false ⟨fun h=>(by cases h),fun h=>absurd (ho'.2 h.1) (by decide)⟩
 ·rw[cG,lY]at h;split at h <;> cases h
theorem aSD(n:aG)(a1:List aC)(a2:List (List Bool))(a3 v3 b0:Int)(hK:n.Seq.length<=8)(now:List Bool)(hl:now.length=n.Seq.length+1):
  Sp (cD (fun s=>(Oj n a1 a2 a3 v3 s).den) (now,b0,0))
   (fun z=>∃ b,z = .inl (now,b)/\((∃ p,p<n.Seq.length/\(∀ r,r<p->gT n r=2)/\now.getD p default=true)->b=IntKind.i64.wrap (IntKind.i64.wrap (a3-v3)+1))/\((¬ ∃ p,p<n.Seq.length/\(∀ r,r<p->gT n r=2)/\now.getD p default=true)->b=b0)):=by
 refine Sq.while (fun s:List Bool×Int×Int=>s.1=now/\∃ q:Nat,s.2.2=(q:Int)/\q<=n.Seq.length/\(∀ r,r<q->gT n r=2)/\((∃ p,p<q/\now.getD p default=true)->s.2.1=IntKind.i64.wrap (IntKind.i64.wrap (a3-v3)+1))/\((¬ ∃ p,p<q/\now.getD p default=true)->s.2.1=b0))
  (fun s=>n.Seq.length+1-s.2.2.toNat) (fun s hI=>?_) ⟨rfl,0,rfl,vU _,fun r h=>by omega,fun⟨p,h,_⟩=>by omega,fun _=>rfl⟩
 obtain⟨v26,v27,v28⟩:=s;obtain⟨rfl,q,hq,hq1,hr,h1,h2⟩:=hI;simp only at hq hl h1 h2;subst hq;unfold Oj;simp only[Tr.den,aQ];by_cases hc:q<n.Seq.length
 ·rw[aA (bO (by omega)),aA (by omega),aA (by omega)];have key:∀ b,(b=if v26.getD q default=true then IntKind.i64.wrap (IntKind.i64.wrap (a3-v3)+1) else v27)->((∃ p,p<q+1/\v26.getD p default=true)->b=IntKind.i64.wrap (IntKind.i64.wrap (a3-v3)+1))/\((¬ ∃ p,p<q+1/\v26.getD p default=true)->b=b0):=fun b hb=>by
   by_cases hn:v26.getD q default=true
   ·rw[aA hn]at hb;exact⟨fun _=>hb,fun h=>absurd ⟨q,Nat.lt_succ_self q,hn⟩ h⟩
   ·rw[aE hn]at hb;refine⟨fun⟨p,h3,h4⟩=>hb.trans (h1 ⟨p,?_,h4⟩),fun h=>hb.trans (h2 fun⟨p,h3,h4⟩=>h ⟨p,by omega,h4⟩)⟩;have:p≠q:=fun e=>hn (by rw[<-e]; exact h4);omega
  have ej:(if v26.getD q default=true then some (v26,IntKind.i64.wrap (IntKind.i64.wrap (a3-v3)+1)) else some (v26,v27))=some (v26,if v26.getD q default=true then IntKind.i64.wrap (IntKind.i64.wrap (a3-v3)+1) else v27):=by split <;> rfl
  rw[ej];simp only[aI];obtain⟨k1,k2⟩:=key _ rfl;rw[aA (by omega)];by_cases hm:gT n q=2
  ·rw[aE (Ia hm)];refine aB.2 ⟨⟨rfl,q+1,aK (by omega),hc,fun r h=>?_,k1,k2⟩,by simp only; rw[aK (by omega)]; simp only[aQ]; omega⟩;by_cases e:r=q
   ·rw[e]; exact hm
   ·exact hr r (by omega)
  ·rw[aA (Oh hm)];refine aB.2 ⟨_,rfl,fun⟨p,h3,h4,h5⟩=>k1 ⟨p,?_,h5⟩,fun h=>k2 fun⟨p,h3,h4⟩=>h ⟨p,by omega,fun r h5=>hr r (by omega),h4⟩⟩;exact oY fun hge=>hm (h4 q (by omega))
 ·rw[aE (cB (by omega))];have:q=n.Seq.length:=by omega
  subst this;exact aB.2 ⟨v27,rfl,fun⟨p,h3,_,h5⟩=>h1 ⟨p,h3,h5⟩,fun h=>h2 fun⟨p,h3,h4⟩=>h ⟨p,h3,fun r h5=>hr r (by omega),h4⟩⟩
theorem aXQ{K:Nat}{rep:Nat->Int}{ok:α->Nat->Prop}{s:List α}{p:Nat}(h:Bwd K rep ok s p):p<=K:=by
 cases s with
 | nil=>exact Nat.le_of_eq h
 | cons x s=>exact Nat.le_of_lt h.1
theorem Xt{n:aG}{ok:α->Nat->Prop}{s:List α}{now:List Bool}(hB:∀ p,p<=n.Seq.length->(now.getD p default=true↔Bwd n.Seq.length (gT n) ok s p)){p:Nat}(hp:p<n.Seq.length):
  opP n now p↔(qX n.Seq.length (gT n) ok s (p+1)\/(gT n p=1/\qX n.Seq.length (gT n) ok s p)):=by
 constructor
 ·rintro ((h | ⟨h1,h⟩) | ⟨q,h1,h2,h3⟩)
  ·exact .inl ((uX _ _ _ s _).2 ⟨p+1,.refl _,(hB _ hp).1 h⟩)
  ·exact .inr ⟨h1,(uX _ _ _ s _).2 ⟨p,.refl _,(hB _ (by omega)).1 h⟩⟩
  ·have hq:=(h2 q h1 (cS q)).1;exact .inl ((uX _ _ _ s _).2 ⟨q+1,⟨by omega,fun r h4 h5=>h2 r h4 (by omega)⟩,(hB _ (by omega)).1 h3⟩)
 ·rintro (h | ⟨h1,h⟩)
  ·obtain⟨q,hs,hb⟩:=(uX _ _ _ s _).1 h;have hq:=aXQ hb;by_cases e:q=p+1
   ·subst e; exact .inl (.inl ((hB _ hq).2 hb))
   ·have:=hs.1;refine .inr ⟨q-1,by omega,fun r h4 h5=>hs.2 r h4 (by omega),?_⟩;rw[show q-1+1=q by omega]; exact(hB _ hq).2 hb
  ·obtain⟨q,hs,hb⟩:=(uX _ _ _ s _).1 h;by_cases e:q=p
   ·subst e; exact .inl (.inr ⟨h1,(hB _ (by omega)).2 hb⟩)
   ·have:=hs.1;have:=(hs.2 p (cS p) (by omega)).2;omega
theorem aAK{n:aG}{ok:α->Nat->Prop}{x:α}{s:List α}{now:List Bool}(hB:∀ p,p<=n.Seq.length->(now.getD p default=true↔Bwd n.Seq.length (gT n) ok (x::s) p)):
  (∃ p,p<n.Seq.length/\(∀ r,r<p->gT n r=2)/\now.getD p default=true)↔qX n.Seq.length (gT n) ok (x::s) 0:=by
 rw[uX];constructor
 ·rintro⟨p,h1,h2,h3⟩;exact⟨p,⟨vU p,fun r _ h=>⟨by omega,h2 r h⟩⟩,(hB p (by omega)).1 h3⟩
 ·rintro⟨p,h1,h2⟩;have h3:p<n.Seq.length:=h2.1;exact⟨p,h3,fun r h=>(h1.2 r (vU r) h).2,(hB p (by omega)).2 h2⟩
noncomputable def gpl (fs:List aU)(n:aG)(d:aC):dW:=⟨d.Time,Qr fs n d n.Seq.length⟩
def okG(fs:List aU)(n:aG)(d:aC)(p:Nat):Prop:=(evV fs (n.Seq.getD p default).Pred d).N=1
theorem aZU{n:aG}(hn:n.Seq.length<=8)(l:List aC)(t0:Int):
  (isM dW.time_ (nxF n) (Hy n) n.Size t0 (sZ n 1) (l.map (gpl fs n))=true)↔(((l.map (gpl fs n)).getLastD default).time_-t0<n.Size/\qX n.Seq.length (gT n) (okG fs n) l 0):=by
 rw[aLH hn (fun x q=>x.fits_.toNat.testBit q=true)]
 ·refine and_congr Iff.rfl (mX n.Seq.length (gT n) (fun (x:dW) q=>x.fits_.toNat.testBit q=true) (gpl fs n) (fun d q hq=>?_) l 0).symm;obtain⟨a,h1,h2,h3⟩:=Oi fs hn d n.Seq.length (cS _);show okG fs n d q↔(Qr fs n d n.Seq.length).toNat.testBit q=true;rw[h1,aQ,h3 q];exact⟨fun h=>⟨hq,h⟩,fun h=>h.2⟩
 ·intro x hx;obtain⟨d,_,rfl⟩:=cQ.1 hx;obtain⟨a,h1,h2,h3⟩:=Oi fs hn d n.Seq.length (cS _);refine⟨a,h1,h2,fun p=>?_⟩;show _↔(Qr fs n d n.Seq.length).toNat.testBit p=true;rw[h1,aQ]
noncomputable def Cm (fs:List aU)(n:aG)(l:List aC):Int:=match pF dW.time_ (nxF n) (Hy n) n.Size (sZ n 1) (l.map (gpl fs n)) with
 | some (_,m)=>m
 | none=>0
theorem aBL{n:aG}(x:aC)(l:List aC):Cm fs n (x::l)=if isM dW.time_ (nxF n) (Hy n) n.Size x.Time (sZ n 1) ((x::l).map (gpl fs n))=true then ((x::l).length:Int) else Cm fs n l:=by
 unfold Cm;rw[gJ,pF];rw[show (gpl fs n x).time_=x.Time from rfl];by_cases h:isM dW.time_ (nxF n) (Hy n) n.Size x.Time (sZ n 1) (gpl fs n x::l.map (gpl fs n))=true
 ·rw[aA h,aA h]; simp only[dA,bI]
 ·rw[aE h,aE h]
structure aYC (fs:List aU)(n:aG)(P:List aC)(g:List (List Bool)):Prop where
 len:g.length=P.length
 sz:∀ i,i<P.length->(g.getD i default).length=n.Seq.length
 ok:∀ i,i<P.length->∀ p,p<n.Seq.length->((g.getD i default).getD p default=true↔okG fs n (P.getD i default) p)
theorem aMQ{n:aG}{P:List aC}{g:List (List Bool)}(hn:n.Seq.length<=8)(hz:1<=n.Size/\n.Size<=10000)(hg:aYC fs n P g)(hs:TS P)(ht:jW P)(hP:P.length<=1000000000){j:Nat}(hj:j<P.length):
  aSM n P g (j:Int)=some (Cm fs n (P.take (j+1))):=by
 have hL:(P.take (j+1)).length=j+1:=by rw[cE]; omega
 have dk:∀ k,k<=j->(P.take (j+1)).drop k=P.getD k default::(P.take (j+1)).drop (k+1):=fun k hk=>by
  rw[cU (by omega)]
  congr 1
  rw[cG,cG,gM,aA (by omega)]
 have last:∀ k,k<=j->((((P.take (j+1)).drop k).map (gpl fs n)).getLastD default).time_=(P.getD j default).Time:=fun k hk=>by
  have e:(P.take (j+1)).drop k=(P.take j).drop k++[P.getD j default]:=by rw[aL hj,List.drop_append_of_le_length (by rw[cE]; omega)]
  rw[e,kJ,gJ,vY,Jq]; rfl
 refine Sp.eq ?_;unfold aSM aSB;simp only[Tr.den,aQ];have ew:IntKind.i64.wrap ((n.Seq.length:Int)+1)=((n.Seq.length+1:Nat):Int):=aK (by omega);rw[ew];simp only[aQ];rw[aA ⟨⟨by omega,by omega⟩,by omega⟩,aA (by simp; omega),aA (by simp),aA (by simp)];refine Sq.bind (fun z=>z = .inl (Cm fs n (P.take (j+1)))) (Sq.while (fun s:List Bool×Int×Int=>∃ k:Nat,s.2.2=(k:Int)-1/\k<=j+1/\s.1.length=n.Seq.length+1 /\
   (∀ p,p<=n.Seq.length->(s.1.getD p default=true↔Bwd n.Seq.length (gT n) (okG fs n) ((P.take (j+1)).drop k) p))/\s.2.1=Cm fs n ((P.take (j+1)).drop k)) (fun s=>(s.2.2+1).toNat) (fun s hI=>?_) ⟨j+1,by simp only; omega,cS _,by simp,fun p hp=>?_,?_⟩) (fun z hz=>by subst hz; exact aB.2 rfl)
 ·obtain⟨now,best,i⟩:=s;obtain⟨k,hk,hkj,hl,hB,hb⟩:=hI;simp only at hk hl hB hb;subst hk hb;unfold Zf;simp only[Tr.den];cases k with
  | zero=>rw[aE (cB (by omega))];simp only[aI,dC,cT];exact aB.2 rfl
  | succ k=>
   have e1:((k+1:Nat):Int)-1=(k:Int):=by omega
   rw[e1,aA (bO (by omega))];simp only[aQ];have t1:=ht _ (aR hj);have t2:=ht _ (aR (show k<P.length by omega));have ewr:IntKind.i64.wrap ((P.getD j default).Time-(P.getD k default).Time)=(P.getD j default).Time-(P.getD k default).Time:=bF (by omega) (by omega);rw[aA (by omega),aA (by omega)];simp only[aI];by_cases hc:IntKind.i64.wrap ((P.getD j default).Time-(P.getD k default).Time)<n.Size
   ·rw[aA (bO hc),ew];rw[ewr]at hc;simp only[aQ];rw[aA ⟨⟨by omega,by omega⟩,by omega⟩];refine Sq.bind _ (Sq.of (aZX n P g (j:Int) (Cm fs n ((P.take (j+1)).drop (k+1))) k (by rw[hg.len]; omega) hn now hl (hg.sz k (by omega)))) (fun z hz=>?_);obtain⟨nx,rfl,hnl,hnx⟩:=hz;simp only[sel];have hB':∀ p,p<=n.Seq.length->(nx.getD p default=true↔Bwd n.Seq.length (gT n) (okG fs n) ((P.take (j+1)).drop k) p):=fun p hp=>by
     rw[hnx p hp,dk k (by omega)];constructor
     ·rintro⟨h1,h2,h3⟩;exact⟨h1,(hg.ok k (by omega) p h1).1 h3,(Xt hB h1).1 h2⟩
     ·rintro⟨h1,h2,h3⟩;exact⟨h1,(Xt hB h1).2 h3,(hg.ok k (by omega) p h1).2 h2⟩
    refine Sq.bind _ (Sq.of (aSD n P g (j:Int) (k:Int) (Cm fs n ((P.take (j+1)).drop (k+1))) hn nx hnl)) (fun z hz=>?_);obtain⟨b,rfl,hb1,hb2⟩:=hz;simp only[sel];refine aB.2 ⟨⟨k,?_,by omega,hnl,hB',?_⟩,?_⟩
    ·simp only; rw[bF (by omega) (by omega)]
    ·simp only;have hA:=aAK (s:=(P.take (j+1)).drop (k+1)) (x:=P.getD k default) (ok:=okG fs n) (n:=n) (now:=nx) (by rw[<-dk k (by omega)]; exact hB');have hM:=aZU (fs:=fs) hn ((P.take (j+1)).drop k) (P.getD k default).Time;rw[last k (by omega)]at hM;rw[dk k (by omega)]at hM ⊢;rw[aBL];by_cases hp:∃ p,p<n.Seq.length/\(∀ r,r<p->gT n r=2)/\nx.getD p default=true
     ·rw[hb1 hp,aA (hM.2 ⟨hc,hA.1 hp⟩),bF (n:=(j:Int)-(k:Int)) (by omega) (by omega),bF (by omega) (by omega),dA,fC,hL];omega
     ·rw[hb2 hp,aE fun h=>hp (hA.2 (hM.1 h).2)]
    ·simp only; rw[bF (by omega) (by omega)]; omega
   ·rw[aE (cB hc)];rw[ewr]at hc;refine aB.2 ?_;show Sum.inl _=_
    congr 1
    have hkj':k<j:=by
     refine oY fun h=>hc ?_;have:k=j:=by omega
     rw[this]; omega
    unfold Cm;have e2:(P.take (j+1)).map (gpl fs n)=((P.take (j+1)).take (k+1)).map (gpl fs n)++((P.take (j+1)).drop (k+1)).map (gpl fs n):=by rw[<-kJ,iM]
    rw[e2,Kj]
    ·intro h;have h:=congrArg List.length h;rw[bI,fC,hL,fH]at h;omega
    ·intro x hx;obtain⟨d,hd,rfl⟩:=cQ.1 hx;rw[last (k+1) (by omega)];obtain⟨i,hi,rfl⟩:=List.getElem_of_mem hd;rw[cE,hL]at hi;have e3:((P.take (j+1)).take (k+1))[i]=P.getD i default:=by rw[List.getElem_take,List.getElem_take,bK]
     rw[e3];have h4:=hs.get (i:=i) (j:=k) (by omega) (by omega);show ¬ ((P.getD j default).Time-(P.getD i default).Time<n.Size);omega
 ·have e3:(P.take (j+1)).drop (j+1)=[]:=jN (by omega);rw[e3,jG];show _↔p=n.Seq.length;by_cases h:p=n.Seq.length
  ·rw[aA ⟨h,by simp⟩]; exact⟨fun _=>h,fun _=>rfl⟩
  ·rw[aE (fun h'=>h h'.1)];refine⟨fun h'=>?_,fun h'=>absurd h' h⟩;rw[cG,lY]at h';split at h' <;> cases h'
 ·have e3:(P.take (j+1)).drop (j+1)=[]:=jN (by omega);rw[e3]; rfl
noncomputable def aBI (fs:List aU)(n:aG)(l:List aC):List aC:=lF n (mI n (l.getD 0 default).Row) 0 [] (plA fs n l)
theorem aOI{n:aG}{k:ByteArray}{a b:List aC}(hx:x∈ofK n 0 k b):∀ d,d∈ofK n 0 k a->mI n d.Row=mI n x.Row:=fun d hd=>aDA ((eH.1 hd).2.trans (eH.1 hx).2.symm)
theorem aMR(row:List aF)(n:aG)(hc:Aw n.Key row)(hl:n.Key.length<=1000):aBC row n.Key=some (mI n row):=by
 unfold aBC aLA;simp only[Tr.den];rw[aA ⟨⟨by omega,by rw[bF (by omega) (by omega)]; omega⟩,by rw[bF (by omega) (by omega)]; omega⟩];have h1:=aW (bd:=fun s=>(qY row n.Key s).den) (fun k=>((n.Key.take k).map fun c=>row.getD c.toNat default,(k:Int))) n.Key.length (r:=.inl (mI n row)) (fun k hk=>?_) ?_
 ·exact(congrArg (fun x=>Option.bind x _) h1).trans rfl
 ·unfold qY;simp only[Tr.den,aQ];have hm:=hc _ (aR hk);rw[aA (bO (by omega)),aA (by omega),aA (by omega),aA (by simp only[bI,cE,dN]; omega),aK (by omega),aL hk,kJ];rfl
 ·unfold qY;simp only[Tr.den];rw[aE (cB (by omega)),cV]; rfl
theorem Jc(row:List aF)(n:aG)(hc:Aw n.Key row)(hl:n.Key.length<=1000):Sj row n.Key=some (mI n row):=by
 unfold Sj Ru;simp only[Tr.den];rw[aA ⟨⟨by omega,by rw[bF (by omega) (by omega)]; omega⟩,by rw[bF (by omega) (by omega)]; omega⟩];have h1:=aW (bd:=fun s=>(uH row n.Key s).den) (fun k=>((n.Key.take k).map fun c=>row.getD c.toNat default,(k:Int))) n.Key.length (r:=.inl (mI n row)) (fun k hk=>?_) ?_
 ·exact(congrArg (fun x=>Option.bind x _) h1).trans rfl
 ·unfold uH;simp only[Tr.den,aQ];have hm:=hc _ (aR hk);rw[aA (bO (by omega)),aA (by omega),aA (by omega),aA (by simp only[bI,cE,dN]; omega),aK (by omega),aL hk,kJ];rfl
 ·unfold uH;simp only[Tr.den];rw[aE (cB (by omega)),cV]; rfl
theorem Wn(b:Bool):aSU b=some (vB b):=by cases b <;> simp[aSU,aTZ,Tr.den,vB]
def plG(l:List aC):List aC:=l.flatMap fun d=>List.replicate d.N.toNat d
theorem Xq(fs:List aU)(n:aG)(l:List aC):(plG l).map (gpl fs n)=plA fs n l:=by
 unfold plG plA plD;rw[List.map_flatMap]
 congr 1
 funext d;rw[List.map_replicate]; rfl
theorem Ns{d:aC}(h:d∈plG l):d∈l:=by obtain⟨x,hx,h⟩:=gI.1 h;rw[(List.mem_replicate.1 h).2]; exact hx
theorem Li(h:∀ d,d∈l->d.N<=1000):(plG l).length<=l.length*1000:=by
 induction l with
 | nil=>simp[plG]
 | cons d l ih=>have h1:=h d bW;have h2:=ih fun x hx=>h x (cC _ hx);unfold plG at h2 ⊢;rw[fT,bQ,oX,dA]; omega
theorem aSY(h:TS l):TS (plG l):=by
 induction l with
 | nil=>exact List.Pairwise.nil
 | cons d l ih=>
  have h':=lZ.1 h;unfold plG;rw[fT];refine lM.2 ⟨?_,ih h'.2,fun x hx y hy=>?_⟩
  ·refine List.pairwise_replicate.2 (.inr (iQ _))
  ·rw[(List.mem_replicate.1 hx).2]; exact h'.1 y (Ns hy)
structure Zp (fs:List aU)(n:aG)(l:List aC):Prop where
 i:okI n 0 l
 ev:aCQ fs n l
 ty:∀ d,d∈l->∀ p,p<n.Seq.length->TyV 2 (evV fs (n.Seq.getD p default).Pred d)
 nn:∀ d,d∈l->d.N<=1000
 len:l.length<=1000000
theorem bAJ{n:aG}(h:Zp fs n l)(hK:n.Seq.length<=8)(v1:List aC)(v2:List (List Bool))(hk:k<l.length):
  Sp (cD (fun s=>(Mr fs n l (k:Int) s).den) (v1,v2,List.replicate n.Seq.length (default:Bool),0))
   (fun z=>∃ g:List Bool,z = .inl (v1,v2,g)/\g.length=n.Seq.length/\∀ p,p<n.Seq.length->(g.getD p default=true↔okG fs n (l.getD k default) p)):=by
 refine dU (fun s:List aC×List (List Bool)×List Bool×Int=>s.2.2.2) n.Seq.length (by omega) (fun s=>s.1=v1/\s.2.1=v2/\s.2.2.1.length=n.Seq.length/\∀ p:Nat,(p:Int)<s.2.2.2->(s.2.2.1.getD p default=true↔okG fs n (l.getD k default) p)) (fun s q hI hq hqN=>?_)
  ⟨rfl,rfl,oX,fun p hp=>absurd hp (by show ¬ ((p:Int)<0); omega)⟩ rfl
 obtain⟨v6,v7,v8,v9⟩:=s;obtain⟨rfl,rfl,hl,hg⟩:=hI;simp only at hq hl hg;subst hq;unfold Mr;simp only[Tr.den,aQ];by_cases hc:q<n.Seq.length
 ·have hm:=aR hk;have ht:=h.ty _ hm q hc;rw[aA (bO (by omega)),aA (by omega),h.ev.get hm hc,Wn];simp only[aI];rw[aA (by omega),aA (by omega),aA (by simp; omega)];refine aB.2 ⟨rfl,hc,rfl,rfl,by simp only; rw[Jn]; exact hl,fun p hp=>?_⟩;rw[aK (by omega)]at hp;simp only at hp ⊢;rw[jG];by_cases e:p=q
  ·subst e;rw[aA ⟨rfl,by omega⟩];have h1:((evV fs (n.Seq.getD p default).Pred (l.getD k default)).Kind==(vB true).Kind)=true:=eE.2 ht.1;have h2:((evV fs (n.Seq.getD p default).Pred (l.getD k default)).S.toList==(vB true).S.toList)=true:=eE.2 (ht.2.1 (by decide));rw[h1,h2,Bool.true_and,Bool.and_true,Bool.and_true,eE];exact Iff.rfl
  ·rw[aE (fun h'=>e h'.1)];exact hg p (by omega)
 ·rw[aE (cB (by omega))];exact aB.2 ⟨v8,rfl,hl,fun p hp=>hg p (by omega)⟩
theorem bAL(l:List aC)(hk:k<l.length)(hN:(l.getD k default).N<=1000)(v1:List aC)(v2:List (List Bool))(g:List Bool)(h1:v1.length<=1000000000)(h2:v2.length<=1000000000):
  cD (fun s=>(xE l (k:Int) s).den) (v1,v2,g,0)=some (.inl (v1++List.replicate (l.getD k default).N.toNat (l.getD k default),v2++List.replicate (l.getD k default).N.toNat g)):=by
 have h3:=aW (bd:=fun s=>(xE l (k:Int) s).den) (fun i=>(v1++List.replicate i (l.getD k default),v2++List.replicate i g,g,(i:Int))) (l.getD k default).N.toNat (r:=.inl (v1++List.replicate (l.getD k default).N.toNat (l.getD k default),v2++List.replicate (l.getD k default).N.toNat g)) (fun i hi=>?_) ?_
 ·simpa using h3
 ·unfold xE;simp only[Tr.den,aQ];rw[aA (bO (by omega)),aA (by simp only[bQ,oX,dN]; omega),aA (by simp only[bQ,oX,dN]; omega),aK (by omega)];rw[cJ,cJ,<-List.replicate_succ',<-List.replicate_succ']
 ·unfold xE;simp only[Tr.den,aQ];rw[aE (cB (by omega))]
theorem aPB{n:aG}(h:Zp fs n l)(hK:n.Seq.length<=8):
  Sp (cD (fun s=>(Od fs n l s).den) (([]:List aC),([]:List (List Bool)),0)) (fun z=>∃ g,z = .inl (plG l,g)/\aYC fs n (plG l) g):=by
 refine dU (fun s:List aC×List (List Bool)×Int=>s.2.2) l.length (by have:=h.len; omega) (fun s=>s.1=plG (l.take s.2.2.toNat)/\aYC fs n s.1 s.2.1) (fun s k hI hk hkN=>?_)
  ⟨by simp[plG],rfl,fun i hi=>absurd hi (Ba i),fun i hi=>absurd hi (Ba i)⟩ rfl
 obtain⟨v1,v2,v3⟩:=s;obtain⟨e1,hg⟩:=hI;simp only at hk e1 hg;subst hk;rw[aQ]at e1;subst e1;have hlen:=h.len;have hpl:=Li (l:=l.take k) fun d hd=>h.nn d (Hq hd);rw[cE]at hpl;unfold Od;simp only[Tr.den,aQ];by_cases hc:k<l.length
 ·have hN:=h.nn _ (aR hc);rw[aA (bO (by omega)),aA (by omega),aA ⟨⟨by omega,by omega⟩,by omega⟩];refine Sq.bind _ (Sq.of (bAJ h hK (plG (l.take k)) v2 hc)) fun z hz=>?_;obtain⟨g,rfl,hgl,hgo⟩:=hz;simp only[sel];have hvl:=hg.len;rw[bAL l hc hN _ _ g (by omega) (by omega)];simp only[aI,sel];have eP:plG (l.take (k+1))=plG (l.take k)++List.replicate (l.getD k default).N.toNat (l.getD k default):=by unfold plG;rw[aL hc,sP,fT,List.flatMap_nil,fN]
  refine aB.2 ⟨rfl,hc,?_,?_,?_,?_⟩
  ·simp only; rw[aK (by omega),aQ,eP]
  ·simp only[bQ,oX]; omega
  ·intro i hi;simp only at hi ⊢;rw[bQ,oX]at hi;rw[bE];by_cases hik:i<v2.length
   ·rw[aA hik]; exact hg.sz i (by omega)
   ·rw[aE hik,cG,lY,aA (by omega)]; exact hgl
  ·intro i hi;simp only at hi ⊢;rw[bQ,oX]at hi;rw[bE,bE];by_cases hik:i<v2.length
   ·rw[aA hik,aA (by omega)]; exact hg.ok i (by omega)
   ·rw[aE hik,aE (by omega),cG,lY,aA (by omega),cG,lY,aA (by omega)]; exact hgo
 ·rw[aE (cB (by omega))];rw[kV (by omega)]at hg ⊢;exact aB.2 ⟨v2,rfl,hg⟩
theorem aEP{n:aG}{P:List aC}{j:Nat}(hj:j<P.length):
  (Cm fs n (P.take (j+1))=0/\pF dW.time_ (nxF n) (Hy n) n.Size (sZ n 1) ((P.take (j+1)).map (gpl fs n))=none) \/
  (∃ i:Nat,i<=j/\Cm fs n (P.take (j+1))=(j:Int)-i+1/\pF dW.time_ (nxF n) (Hy n) n.Size (sZ n 1) ((P.take (j+1)).map (gpl fs n))=some ((P.getD i default).Time,(j:Int)-i+1)):=by
 have h:=Ex dW.time_ (nxF n) (Hy n) n.Size (sZ n 1) 0 (P.map (gpl fs n)) j (by rw[bI]; exact hj);rw[<-List.map_take]at h;unfold Cm;rcases h with⟨h,_⟩ | ⟨i,hi,_,h⟩
 ·rw[h]; exact .inl ⟨rfl,rfl⟩
 ·have e:((P.map (gpl fs n)).getD i default).time_=(P.getD i default).Time:=by rw[bK (by rw[bI]; omega),wQ,<-bK (show i<P.length by omega)]; rfl
  rw[e]at h;rw[h]; exact .inr ⟨i,hi,rfl,rfl⟩
theorem aOH{n:aG}{key:List aF}(h:Zp fs n l)(hn:aEZ n)(hs:TS l)(hk:∀ d,d∈l->mI n d.Row=key):aXT fs n l=some (lF n key 0 [] (plA fs n l)):=by
 have hK:=hn.seq.2;have hkl:=hn.key;refine Sp.eq ?_;unfold aXT aSQ;simp only[Tr.den];refine Sq.bind _ (Sq.of (aPB h hK)) fun z hz=>?_;obtain⟨g,rfl,hg⟩:=hz;simp only[sel];have hlen:=h.len;have hpl:=Li h.nn;have hts:=aSY hs;have htm:jW (plG l):=fun d hd=>h.i.t d (Ns hd);have out_len:∀ k,(lF n key 0 [] (((plG l).take k).map (gpl fs n))).length<=k:=fun k=>by
  have:∀ (a u:List dW),(lF n key 0 u a).length<=a.length:=fun a=>by
   induction a with
   | nil=>intro u; exact cS _
   | cons q a ih=>
    intro u;rw[lF,bQ,dA];have h1:=ih (u++[q]);have h2:(if (0:Int)<=q.time_ then Ie n key (u++[q]) else []).length<=1:=by
     split
     ·unfold Ie; split <;> simp
     ·simp
    omega
  refine gZ (this _ _) ?_;rw[bI,cE]; omega
 have h1:=aW (bd:=fun s=>(Du n (plG l) g s).den) (fun k=>(lF n key 0 [] (((plG l).take k).map (gpl fs n)),(k:Int))) (plG l).length (r:=.inl (lF n key 0 [] (plA fs n l))) (fun k hk'=>?_) ?_
 ·rw[show (([]:List aC),(0:Int))=(fun k:Nat=>(lF n key 0 [] (((plG l).take k).map (gpl fs n)),(k:Int))) 0 from rfl,h1];exact aB.2 rfl
 ·unfold Du;simp only[Tr.den,aQ];have hd:=Ns (aR hk');have hkey:=hk _ hd;have hol:=out_len k;have ht0:=(h.i.t _ hd).1;rw[aA (bO (by omega)),aA (by omega),aMQ hK hn.size hg hts htm (by omega) hk',aK (by omega)];simp only[aI];have eL:((plG l).take k).map (gpl fs n)++[gpl fs n ((plG l).getD k default)]=((plG l).take (k+1)).map (gpl fs n):=by rw[aL hk',kJ]; rfl
  have eS:lF n key 0 [] (((plG l).take (k+1)).map (gpl fs n))=lF n key 0 [] (((plG l).take k).map (gpl fs n))++Ie n key (((plG l).take (k+1)).map (gpl fs n)):=by rw[<-eL,Pe,sN,lF,lF,fN,aA (show (0:Int)<=(gpl fs n ((plG l).getD k default)).time_ from ht0)]
  rw[eS];unfold Ie;have elast:((((plG l).take (k+1)).map (gpl fs n)).getLastD default).time_=((plG l).getD k default).Time:=by rw[<-eL,Jq]; rfl
  rw[elast];rcases aEP (fs:=fs) (n:=n) hk' with⟨b1,b2⟩ | ⟨i,hi,b1,b2⟩
  ·rw[b2,b1,aE (cB (by omega))];simp only[aI,fN]
  ·rw[b2,b1,aA (bO (by omega)),Jc _ n (h.i.c _ hd) (by omega)];simp only[aI];have ew:IntKind.i64.wrap (IntKind.i64.wrap ((k:Int)-((k:Int)-i+1))+1)=(i:Int):=by rw[bF (n:=(k:Int)-((k:Int)-i+1)) (by omega) (by omega),bF (by omega) (by omega)]; omega
   rw[ew];simp only[aQ];rw[aA (by omega),yY,yY];simp only[aI];rw[hkey,aA (by rw[<-hkey]; unfold mI; rw[bI]; omega),aA (by simp only[dN]; omega)];rfl
 ·unfold Du;simp only[Tr.den];rw[aE (cB (by omega)),cV,Xq]
theorem aBD{r:List aF}(h:Hh r)(hl:r.length<=1000):(Cf r).size<=1000+r.length*1073742000:=by have h1:=wT ((⟨#[]⟩:ByteArray)++wD (r.length:Int)) r h;have h2:=mQ (n:=(r.length:Int)) ⟨by omega,by omega⟩;rw[kB,show (⟨#[]⟩:ByteArray).size=0 from rfl]at h1;unfold Cf;omega
theorem Pa{n:aG}(h:okI n 0 l)(hk:n.Key.length<=20)(hl:l.length<=1000000):aFJ (aT (bP n 0 l))=true:=by
 unfold aFJ;have h1:=jM n 0 l;rw[cO,gY,fM];refine⟨by unfold aT; rw[bI]; omega,fun k hk'=>bO ?_⟩;have hne:=iR.1 hk';obtain⟨hd,e⟩:=eH.1 (aR (fL.2 hne));rw[<-e];refine gZ (aBD (r:=mI n _) (fun v hv=>?_) (by unfold mI; rw[bI]; omega)) ?_
 ·obtain⟨c,_,rfl⟩:=cQ.1 hv;exact Hh.get (h.v _ hd) _
 ·unfold mI; rw[bI]; omega
theorem Nx{n:aG}(h:okI n 0 l)(hk:n.Key.length<=20)(hl:l.length<=1000000):aQF l n.Key=some ((cM (aT (bP n 0 l))).map fun k=>ofK n 0 k l):=by
 unfold aQF aWY;simp only[Tr.den];have h1:=aW (bd:=fun s=>(Dc l n.Key s).den) (fun k=>(bP n 0 (l.take k),(k:Int))) l.length (r:=.inl (bP n 0 l)) (fun k hk'=>?_) ?_
 ·refine(congrArg (fun x=>Option.bind x _) h1).trans ?_;simp only[aI,sel];rw[aA (Pa h hk hl)];simp only[aI];have hml:=jM n 0 l;have hsl:=iX (aT (bP n 0 l));have hml':(aT (bP n 0 l)).length=(bP n 0 l).length:=bI _;generalize hks:cM (aT (bP n 0 l))=ks at hsl ⊢;have h2:=aW (bd:=fun s=>(Dd (bP n 0 l) ks s).den) (fun k=>((ks.take k).map fun k=>ofK n 0 k l,ks,(k:Int))) ks.length (r:=.inl (ks.map fun k=>ofK n 0 k l)) (fun k hk'=>?_) ?_
  ·exact(congrArg (fun x=>Option.bind x _) h2).trans rfl
  ·unfold Dd;simp only[Tr.den,aQ];have e:∀ c,ofK n 0 (ks.getD k default) l=c->(ks.take (k+1)).map (fun k=>ofK n 0 k l)=(ks.take k).map (fun k=>ofK n 0 k l)++[c]:=fun c hc=>by rw[aL hk',kJ,<-hc]; rfl
   rw[aA (bO (by omega)),aA (by omega),aA (by omega),aK (by omega)];have hL:=tC n 0 (ks.getD k default) l;cases hc:bG (bP n 0 l) (ks.getD k default) with
   | none=>
    rw[hc]at hL;have h0:ofK n 0 (ks.getD k default) l=[]:=oY fun h0=>by rw[aE h0]at hL; cases hL
    simp only;rw[aA (by simp only[bI,cE,dN]; omega),e _ h0];rfl
   | some c=>
    rw[hc]at hL;have h0:ofK n 0 (ks.getD k default) l=c:=by
     by_cases h0:ofK n 0 (ks.getD k default) l=[]
     ·rw[aA h0]at hL; cases hL
     ·rw[aE h0]at hL; injection hL with hL; exact hL.symm
    simp only;rw[aA (by simp only[bI,cE,dN]; omega),e _ h0];rfl
  ·unfold Dd;simp only[Tr.den];rw[aE (cB (by omega)),cV]
 ·unfold Dc;simp only[Tr.den,aQ];have hm:=aR hk';have hcl:Aw n.Key (l.getD k default).Row:=h.c _ hm;rw[aA (bO (by omega)),aA (by omega),aMR _ n hcl (by omega)];simp only[aI];rw[Zi _ (fun v hv=>by obtain⟨c,hcm,rfl⟩:=cQ.1 hv;exact Hh.get (h.v _ hm) _) (by unfold mI; rw[bI]; omega)];simp only[aI];have h2:=iW n 0 (Ny n 0 (l.getD k default).Row) (l.take k);simp only[cE]at h2;have hkey:Cf (mI n (l.getD k default).Row)=Ny n 0 (l.getD k default).Row:=rfl;rw[hkey,aA (by rw[rF]; simp only[dA,fH]; omega),aK (by omega)]
  congr 3
  unfold bP;rw[aL hk',zH];rfl
 ·unfold Dc;simp only[Tr.den];rw[aE (cB (by omega)),cV]
theorem gH(ks:List ByteArray):(cM ks).Perm ks:=by
 unfold cM;have h:=(List.mergeSort_perm (ks.map fun k=>k.data.toList) (fun x y=>decide (x<=y))).map fun l:List UInt8=>(⟨l.toArray⟩:ByteArray);refine h.trans ?_;rw[tJ];have e:((fun l:List UInt8=>(⟨l.toArray⟩:ByteArray)) ∘ fun k:ByteArray=>k.data.toList)=id:=by funext k; rfl
 rw[e,List.map_id]
theorem LO.int:LO Int:=by
 have e:∀ a b:Int,MKey.lt a b=decide (a<b):=fun a b=>rfl;refine⟨fun a=>by rw[e]; simp,fun a b c h1 h2=>?_,fun a b h=>?_⟩
 ·rw[e]at h1 h2 ⊢;have h1:=dX h1;have h2:=dX h2;exact bO (by omega)
 ·rw[e,e];rcases Int.lt_or_gt_of_ne h with h | h
  ·exact .inl (bO h)
  ·exact .inr (bO h)
def Cg(len step t:Int):Nat:=((t / step*step+len-t+step-1) / step).toNat
def lU(len step t:Int):List Int:=(List.range (Cg len step t)).map fun i:Nat=>t / step*step-(i:Int)*step
theorem pZ{len step:Int}(hs:0<step)(i:Nat):i<Cg len step t↔t<t / step*step-(i:Int)*step+len:=by
 unfold Cg;have h1:i<((t / step*step+len-t+step-1) / step).toNat↔(i:Int)+1<=(t / step*step+len-t+step-1) / step:=by omega
 rw[h1,Int.le_ediv_iff_mul_le hs,sJ];generalize (i:Int)*step=z;generalize t / step*step=y;omega
theorem sX{len step:Int}(hs:0<step):b∈lU len step t↔step∣b/\b<=t/\t<b+len:=by
 unfold lU;rw[cQ];have h0:t / step*step<=t:=zI t (by omega);constructor
 ·rintro⟨i,hi,rfl⟩;have h1:=(pZ hs i).1 (Bn.1 hi);refine⟨⟨t / step-i,by rw[qR step,Int.sub_mul]⟩,?_,h1⟩;have:0<=(i:Int)*step:=tM (by omega) (by omega);omega
 ·rintro⟨⟨k,rfl⟩,h1,h2⟩;have h3:k<=t / step:=(Int.le_ediv_iff_mul_le hs).2 (by rw[qR]; exact h1);have e:t / step*step-((t / step-k).toNat:Int)*step=step*k:=by rw[show ((t / step-k).toNat:Int)=t / step-k by omega,Int.sub_mul,qR step]; omega
  refine⟨(t / step-k).toNat,Bn.2 ((pZ hs _).2 ?_),e⟩;rw[e]; exact h2
theorem Gb{len step:Int}(hs:0<step):(lU len step t).Nodup:=by
 unfold lU;unfold List.Nodup;rw[qL];refine List.nodup_range.imp fun {i j} hij h=>hij ?_;have h1:(i:Int)*step=(j:Int)*step:=by omega
 have:=Int.eq_of_mul_eq_mul_right (by omega) h1;omega
theorem Vn{len step:Int}(hs:0<step)(h:len<=step*c)(ht:0<=t):Cg len step t<=c:=by
 rcases mG c (Cg len step t) with h1 | h1
 ·exfalso;have h2:=(pZ hs c).1 h1;have h0:t / step*step<=t:=zI t (by omega);rw[qR]at h;omega
 ·exact h1
theorem Pt{len:Int}(hs:0<len):Cg len len t=1:=by
 have h1:=(pZ (len:=len) (step:=len) (t:=t) hs 0);have h2:=(pZ (len:=len) (step:=len) (t:=t) hs 1);have h0:t / len*len<=t:=zI t (by omega);have h3:t<t / len*len+len:=by have:=Int.lt_ediv_add_one_mul_self t hs;rw[sJ]at this; omega
 have h4:0<Cg len len t:=h1.2 (by simpa using h3);have h5:¬ 1<Cg len len t:=fun h=>by have:=h2.1 h;simp at this; omega
 omega
abbrev ZP:=List (Int×List aC)
def qQ(d:aC)(bs:List Int)(m:ZP):ZP:=bs.foldl (fun m b=>mput m b ((bG m b).getD []++[d])) m
def sE(len step:Int)(l:List aC):ZP:=l.foldl (fun m d=>qQ d (lU len step d.Time) m) []
def inB(len step b:Int)(l:List aC):List aC:=l.filter fun d=>decide (b∈lU len step d.Time)
def aZL(len b:Int)(l:List aC):List aC:=l.filter fun d=>decide (b<=d.Time)&&decide (d.Time<b+len)
theorem aRZ{len step:Int}(hs:0<step)(l:List aC):inB len step b l=if step∣b then aZL len b l else []:=by
 unfold inB aZL;by_cases h:step∣b
 ·rw[aA h];refine List.filter_congr fun d _=>?_;rw[Bool.eq_iff_iff];simp only[gY,cO,sX hs];exact⟨fun h=>h.2,fun h'=>⟨h,h'⟩⟩
 ·rw[aE h];refine List.filter_eq_nil_iff.2 fun d _=>?_;simp only[gY,sX hs];exact fun h'=>h h'.1
theorem Xm(d:aC):∀ (bs:List Int) {m:ZP},MC m->MC (qQ d bs m)
 | [],_,h=>h
 | b::bs,_,h=>Xm d bs (h.mput LO.int _ _)
theorem Ap(d:aC)(b:Int):∀ (bs:List Int) (m:ZP),bs.Nodup->bG (qQ d bs m) b=if b∈bs then some ((bG m b).getD []++[d]) else bG m b
 | [],m,_=>by simp[qQ]
 | c::bs,m,h=>by
  have h1:=lG.1 h;have e:qQ d (c::bs) m=qQ d bs (mput m c ((bG m c).getD []++[d])):=rfl;rw[e,Ap d b bs _ h1.2,qU];by_cases hc:c=b
  ·subst hc;rw[aE h1.1,aA rfl,aA bW]
  ·rw[aE hc];have:(b∈c::bs)↔b∈bs:=by rw[aX];exact⟨fun h=>h.elim (fun h=>absurd h.symm hc) id,.inr⟩
   by_cases hb:b∈bs
   ·rw[aA hb,aA (this.2 hb)]
   ·rw[aE hb,aE (fun h=>hb (this.1 h))]
theorem aMS(len step:Int)(l:List aC):MC (sE len step l):=by
 unfold sE;have:∀ (l:List aC) (m:ZP),MC m->MC (l.foldl (fun m d=>qQ d (lU len step d.Time) m) m):=by
  intro l
  induction l with
  | nil=>exact fun m h=>h
  | cons d l ih=>exact fun m h=>ih _ (Xm d _ h)
 exact this l [] aKA
theorem Aa{len step:Int}(hs:0<step)(b:Int)(l:List aC):bG (sE len step l) b=if inB len step b l=[] then none else some (inB len step b l):=by
 have:∀ (l:List aC) (m:ZP),bG (l.foldl (fun m d=>qQ d (lU len step d.Time) m) m) b=if inB len step b l=[] then bG m b else some ((bG m b).getD []++inB len step b l):=by
  intro l
  induction l with
  | nil=>intro m; simp[inB]
  | cons d l ih=>
   intro m;rw[oB,ih,Ap _ _ _ _ (Gb hs)];unfold inB;by_cases hk:b∈lU len step d.Time
   ·rw[wL,aA (bO hk),aA hk];by_cases h:l.filter (fun d=>decide (b∈lU len step d.Time))=[]
    ·rw[aA h,aE (by simp),h]
    ·rw[aE h,aE (by simp)]; simp
   ·rw[wL,aE (cB hk),aE hk]
 have:=this l [];simpa[bG,sE] using this
theorem aIM{len step:Int}(hs:0<step)(b:Int)(l:List aC):(bG (sE len step l) b).getD []=inB len step b l:=by rw[Aa hs]; split <;> simp_all
theorem Qe{len step:Int}(hs:0<step):b∈aT (sE len step l)↔inB len step b l≠[]:=by
 rw[Hi,Aa hs];constructor
 ·rintro⟨c,hc⟩ h;rw[aA h]at hc; cases hc
 ·intro h;exact⟨_,aE h⟩
theorem aGE{V:Type}(m:List (Int×V))(k:Int)(c:V):(mput m k c).length<=m.length+1:=by have h:=(zV m k c).length_eq;have h2:(mdel m k).length<=m.length:=rS _ _;rw[dA]at h;omega
theorem Qa(d:aC):∀ (bs:List Int) (m:ZP),(qQ d bs m).length<=m.length+bs.length
 | [],m=>cS _
 | b::bs,m=>by have h:=Qa d bs (mput m b ((bG m b).getD []++[d]));have h2:=aGE m b ((bG m b).getD []++[d]);have e:qQ d (b::bs) m=qQ d bs (mput m b ((bG m b).getD []++[d])):=rfl;rw[e,dA]; omega
theorem Qz(len step t:Int):(lU len step t).length=Cg len step t:=by unfold lU; rw[bI,List.length_range]
theorem Rh{len step:Int}(hs:0<step)(hc:len<=step*c)(ht:jW l):(sE len step l).length<=l.length*c:=by
 unfold sE;have:∀ (l:List aC) (m:ZP),jW l->(l.foldl (fun m d=>qQ d (lU len step d.Time) m) m).length<=m.length+l.length*c:=by
  intro l
  induction l with
  | nil=>intro m _; simp
  | cons d l ih=>intro m h;rw[oB];have h1:=ih (qQ d (lU len step d.Time) m) fun x hx=>h x (cC _ hx);have h2:=Qa d (lU len step d.Time) m;rw[Qz]at h2;have h3:=Vn (t:=d.Time) hs hc (h d bW).1;rw[dA,gN];omega
 have:=this l [] ht;simpa using this
theorem qI(ks:List Int):(kN ks).Perm ks:=List.mergeSort_perm _ _
def jV(len step:Int)(l:List aC):List Int:=kN (aT (sE len step l))
theorem jF{len step:Int}(hs:0<step):b∈jV len step l↔inB len step b l≠[]:=by unfold jV; rw[(qI _).mem_iff,Qe hs]
theorem qZ(len step:Int)(l:List aC):(jV len step l).Nodup:=(qI _).nodup_iff.2 ((aMS len step l).nodup LO.int)
theorem pP{len step:Int}(hs:0<step)(hc:len<=step*c)(ht:jW l):(jV len step l).length<=l.length*c:=by unfold jV;rw[(qI _).length_eq];unfold aT;rw[bI];exact Rh hs hc ht
theorem aQD{a:Int}(ha:0<=a)(hb:0<b)(h:a<=9223372036854775807):aSG a b=some (a / b):=by unfold aSG aXI;simp only[Tr.den];have h1:0<=a / b:=Int.ediv_nonneg ha (by omega);have h2:a / b<=a:=Int.ediv_le_self b ha;rw[aE (cB (by omega)),aA (by omega),Int.tdiv_eq_ediv_of_nonneg ha,bF (by omega) (by omega)]
theorem qB{β:Type}[Inhabited α](f:β->α->β)(b:β)(l:List α)(hk:k<l.length):(l.take (k+1)).foldl f b=f ((l.take k).foldl f b) (l.getD k default):=by rw[aL hk,zH]; rfl
def aOF(ks:List Int)(m:ZP):List (Int×Option (List aC)):=ks.foldl (fun m b=>mput m b none) (m.map fun p=>(p.1,some p.2))
theorem aAD(m:ZP)(b:Int):bG (m.map fun p=>(p.1,some p.2)) b=(bG m b).map some:=by
 induction m with
 | nil=>rfl
 | cons p m ih=>simp only[gJ,bG,ih];split <;> rfl
theorem Jr(m:ZP):aT (m.map fun p=>(p.1,some p.2))=aT m:=by unfold aT;rw[tJ]; rfl
theorem aBQ(b:Int):∀ (ks:List Int) (m:ZP),bG (aOF ks m) b=if b∈ks then some none else (bG m b).map some:=by
 have:∀ (ks:List Int) (m:List (Int×Option (List aC))),bG (ks.foldl (fun m b=>mput m b none) m) b=if b∈ks then some none else bG m b:=by
  intro ks
  induction ks with
  | nil=>intro m; simp
  | cons c ks ih=>
   intro m;rw[oB,ih,qU];by_cases h:b∈ks
   ·rw[aA h,aA (cC _ h)]
   ·rw[aE h];by_cases hc:c=b
    ·subst hc; rw[aA rfl,aA bW]
    ·rw[aE hc,aE (fun h'=>(aX.1 h').elim (fun e=>hc e.symm) h)]
 intro ks m;unfold aOF;rw[this,aAD]
def Ck(len step:Int)(l:List aC):List aN:=(jV len step l).map fun b=>⟨b,b+len,inB len step b l⟩
theorem qW(len step b:Int)(l:List aC):(inB len step b l).length<=l.length:=rS _ _
theorem Rv{len step:Int}(hl:1<=len/\len<=10000)(hs:1<=step/\step<=10000)(ht:0<=t):Cg len step t<=10000:=by refine Vn (by omega) ?_ ht;have:1*10000<=step*10000:=Tq hs.1 (by omega);omega
theorem aLI(l:List aC)(len step:Int)(k:Nat)(hk:k<l.length)(m:ZP)(hl:1<=len/\len<=10000)(hs:1<=step/\step<=10000)(ht:0<=(l.getD k default).Time/\(l.getD k default).Time<=2199023255552)(hm:∀ b,((bG m b).getD []).length<=1000000):
  cD (fun s=>(yZ l len step (k:Int) s).den) (m,(l.getD k default).Time / step*step)=some (.inl (qQ (l.getD k default) (lU len step (l.getD k default).Time) m)):=by
 have hn:=Qz len step (l.getD k default).Time;have hb:=Gb (len:=len) (t:=(l.getD k default).Time) (show 0<step by omega);have h10:=Rv hl hs ht.1;have hc:=fun i=>pZ (len:=len) (t:=(l.getD k default).Time) (show 0<step by omega) i;have h0:(l.getD k default).Time / step*step<=(l.getD k default).Time:=zI _ (by omega);have h00:0<=(l.getD k default).Time / step*step:=tM (Int.ediv_nonneg ht.1 (by omega)) (by omega);have ei:∀ i,i<(lU len step (l.getD k default).Time).length->(lU len step (l.getD k default).Time).getD i default=(l.getD k default).Time / step*step-(i:Int)*step:=fun i hi=>by rw[bK hi]; simp[lU]
 have hmul:∀ i:Nat,i<=10000->0<=(i:Int)*step/\(i:Int)*step<=10000*10000:=fun i hi=>
  ⟨tM (by omega) (by omega),Int.mul_le_mul (by omega) hs.2 (by omega) (by omega)⟩
 have h1:=aW (bd:=fun s=>(yZ l len step (k:Int) s).den) (fun i=>(qQ (l.getD k default) ((lU len step (l.getD k default).Time).take i) m,(l.getD k default).Time / step*step-(i:Int)*step)) (Cg len step (l.getD k default).Time) (r:=.inl (qQ (l.getD k default) (lU len step (l.getD k default).Time) m)) (fun i hi=>?_) ?_
 ·rw[<-h1];simp[qQ]
 ·have g1:=hmul i (by omega);unfold yZ;simp only[Tr.den,aQ];rw[bF (by omega) (by omega),aA (bO ((hc i).1 hi))];have hlk:((bG (qQ (l.getD k default) ((lU len step (l.getD k default).Time).take i) m) ((l.getD k default).Time / step*step-(i:Int)*step)).getD []).length<=1000001:=by
   rw[Ap _ _ _ _ (hb.sublist (List.take_sublist _ _))];have:=hm ((l.getD k default).Time / step*step-(i:Int)*step);split
   ·simp only[rU,bQ,dN]; omega
   ·omega
  rw[aA (by simp only[dN]; omega),bF (by omega) (by omega)]
  congr 3
  ·unfold qQ;rw[qB _ _ _ (by omega),ei i (by omega)]
  ·rw[show ((i+1:Nat):Int)*step=(i:Int)*step+step by rw[Int.natCast_add,sJ]; omega]; omega
 ·have g1:=hmul (Cg len step (l.getD k default).Time) h10;unfold yZ;simp only[Tr.den,aQ];rw[bF (by omega) (by omega),aE (cB (show ¬ (_>_) from fun h=>absurd ((hc _).2 h) (Nat.lt_irrefl _))),<-hn,cV]
theorem kU{len step:Int}(hs:0<step)(ht:jW l)(hb:inB len step b l≠[]):-len<b/\b<=2199023255552:=by obtain⟨d,hd⟩:=Nb _ hb;obtain⟨h1,h2⟩:=iD.1 hd;obtain⟨h3,h4,h5⟩:=(sX hs).1 (dX h2);have:=ht d h1;omega
theorem Ec{len step:Int}(hl:1<=len/\len<=10000)(hs:1<=step/\step<=10000)(ht:jW l)(hn:l.length<=1000):aCI l len step=some (Ck len step l):=by
 have hs0:0<step:=by omega
 have hln:len<=step*(10000:Nat):=by have:1*10000<=step*10000:=Tq hs.1 (by omega);omega
 have hML:=Rh hs0 hln ht;have hWL:=pP hs0 hln ht;unfold aCI aWG;simp only[Tr.den];have h1:=aW (bd:=fun s=>(Dp l len step s).den) (fun k=>(sE len step (l.take k),(k:Int))) l.length (r:=.inl (sE len step l)) (fun k hk'=>?_) ?_
 ·refine(congrArg (fun x=>Option.bind x _) h1).trans ?_;simp only[aI,sel];have hz:aDR (aT ((sE len step l).map fun p=>(p.1,some p.2)))=true:=by rw[Jr];unfold aDR;rw[cO,gY,fM];refine⟨by unfold aT; rw[bI]; omega,fun k hk=>bO ?_⟩;have:=kU hs0 ht ((Qe hs0).1 hk);omega
  rw[aA hz];simp only[aI];rw[Jr];have hnd:=qZ len step l;have hwm:∀ b,b∈jV len step l->bG (sE len step l) b=some (inB len step b l) /\ -len<b/\b<=2199023255552:=fun b hb=>by have h0:=(jF hs0).1 hb;exact⟨by rw[Aa hs0,aE h0],kU hs0 ht h0⟩
  unfold Ck;change (cD (fun s=>(xC len (jV len step l) s).den) ((sE len step l).map fun p=>(p.1,some p.2),[],jV len step l,0)).bind _=_;generalize jV len step l=ks at hnd hwm hWL ⊢;have h2:=aW (bd:=fun s=>(xC len ks s).den) (fun k=>(aOF (ks.take k) (sE len step l),(ks.take k).map fun b=>(⟨b,b+len,inB len step b l⟩:aN),ks,(k:Int))) ks.length (r:=.inl (ks.map fun b=>(⟨b,b+len,inB len step b l⟩:aN))) (fun k hk'=>?_) ?_
  ·exact(congrArg (fun x=>Option.bind x _) h2).trans rfl
  ·have hm:=hwm _ (aR hk');have hni:ks.getD k default∉ks.take k:=fun h=>by have h3:=hnd;rw[<-iM k ks,cU hk',xK]at h3;exact h3.2.2 _ h _ bW rfl
   unfold xC;simp only[Tr.den,aQ];rw[aA (bO (by omega)),aA (by omega),aA hk',aBQ,aE hni,hm.1];simp only[pS];rw[aA (by simp only[bI,cE,dN]; omega),aK (by omega),bF (by omega) (by omega)]
   congr 3
   ·unfold aOF;rw[qB _ _ _ hk']
   ·rw[aL hk',kJ]; rfl
  ·unfold xC;simp only[Tr.den];rw[aE (cB (by omega)),cV]
 ·have hm:=aR hk';have htd:=ht _ hm;unfold Dp;simp only[Tr.den,aQ];rw[aA (bO (by omega)),aA (by omega),aQD htd.1 hs0 (by omega)];simp only[aI];have hw:IntKind.i64.wrap ((l.getD k default).Time / step*step)=(l.getD k default).Time / step*step:=by have h0:(l.getD k default).Time / step*step<=(l.getD k default).Time:=zI _ (by omega);have h00:0<=(l.getD k default).Time / step*step:=tM (Int.ediv_nonneg htd.1 (by omega)) (by omega);exact bF (by omega) (by omega)
  rw[hw,aLI l len step k hk' _ hl hs htd fun b=>by rw[aIM hs0]; have:=qW len step b (l.take k); rw[cE]at this; omega];simp only[aI,sel];rw[aK (by omega)]
  congr 3
  unfold sE;rw[qB _ _ _ hk']
 ·unfold Dp;simp only[Tr.den];rw[aE (cB (by omega)),cV]
theorem Uc:aGQ=aCI:=rfl
def jX(a b:Int):Int:=if b<a then b else a
def wH(step e:Int)(s:List aN)(last:Int)(x:aC):List aN:=
 if s=[]\/x.Time-last>=step then s++[⟨x.Time,jX (x.Time+step) e,[x]⟩]
 else s.set (s.length-1) ⟨(s.getD (s.length-1) default).begin_,jX (x.Time+step) e,(s.getD (s.length-1) default).rows_++[x]⟩
def eV(step e:Int)(l:List aC):List aN×Int:=l.foldl (fun p x=>(wH step e p.1 p.2 x,x.Time)) ([],-step)
def ses(step e:Int)(l:List aC):List aN:=(eV step e l).1
theorem aQV{step:Int}{s:List aN}{last:Int}:wH step e s last x≠[]:=by
 unfold wH;split
 ·simp
 ·rename_i h;intro h0;have:=congrArg List.length h0;simp only[Jn,fH]at this;exact h (.inl (rK this))
theorem mK{step:Int}(hk:k<l.length):eV step e (l.take (k+1))=(wH step e (eV step e (l.take k)).1 (eV step e (l.take k)).2 (l.getD k default),(l.getD k default).Time):=by unfold eV; rw[qB _ _ _ hk]
theorem Xc{step:Int}(hk:k<l.length):(eV step e (l.take (k+1))).1≠[]:=by rw[mK hk]; exact aQV
theorem aJK{step:Int}{s:List aN}{last:Int}:(wH step e s last x).length<=s.length+1:=by
 unfold wH;split
 ·rw[bQ]; exact cS _
 ·rw[Jn]; omega
theorem Mc(step e:Int)(l:List aC):(ses step e l).length<=l.length:=by
 have:∀ k,k<=l.length->(ses step e (l.take k)).length<=k:=by
  intro k
  induction k with
  | zero=>intro _; simp[ses,eV]
  | succ k ih=>intro hk;have h1:=ih (by omega);unfold ses at h1 ⊢;rw[mK (by omega)];have:=aJK (step:=step) (e:=e) (s:=(eV step e (l.take k)).1) (last:=(eV step e (l.take k)).2) (x:=l.getD k default);simp only; omega
 have h:=this l.length (cS _)
 rwa [cV]at h
theorem Pf(step e:Int)(l:List aC):∀ k,k<=l.length->∀ w,w∈ses step e (l.take k)->w.rows_.length<=k:=by
 intro k
 induction k with
 | zero=>intro _ w hw; simp[ses,eV]at hw
 | succ k ih=>
  intro hk w hw;have h1:=ih (by omega);unfold ses at h1 hw;rw[mK (by omega)]at hw;simp only at hw;unfold wH at hw;split at hw
  ·rcases dE.1 hw with hw | hw
   ·have:=h1 w hw; omega
   ·rw[bZ.1 hw]; simp
  ·rename_i hne;rcases Vp hw with hw | hw
   ·have:=h1 w hw; omega
   ·subst hw;have h0:0<(eV step e (l.take k)).1.length:=fL.2 fun h=>hne (.inl h);have:=h1 _ (aR (show (eV step e (l.take k)).1.length-1<(eV step e (l.take k)).1.length by omega));simp only[bQ,dN]; omega
theorem Gf(O s:List α)(w:α)(h:s≠[]):(O++s).set ((O++s).length-1) w=O++s.set (s.length-1) w:=by
 have h0:0<s.length:=fL.2 h;rw[List.set_append,aE (by rw[bQ]; omega)]
 congr 2
 rw[bQ]; omega
theorem nC[Inhabited α](O s:List α)(h:s≠[]):(O++s).getD ((O++s).length-1) default=s.getD (s.length-1) default:=by
 have h0:0<s.length:=fL.2 h;rw[bE,aE (by rw[bQ]; omega)]
 congr 1
 rw[bQ]; omega
theorem aPM(n:aG)(r1:List aN)(k:Nat)(O:List aN)(hs:1<=n.Step/\n.Step<=10000)(ht:jW (r1.getD k default).rows_)(hl:(r1.getD k default).rows_.length<=1000)(hO:O.length<=1000000000)(he:-10000<=(r1.getD k default).end_/\(r1.getD k default).end_<=4398046511104):
  cD (fun s=>(yN n r1 (k:Int) s).den) (O,-n.Step,0)=some (.inl (O++ses n.Step (r1.getD k default).end_ (r1.getD k default).rows_)):=by
 generalize hR:(r1.getD k default).rows_=R at ht hl;generalize hE:(r1.getD k default).end_=E at he;have h1:=aW (bd:=fun s=>(yN n r1 (k:Int) s).den) (fun i=>(O++(eV n.Step E (R.take i)).1,(eV n.Step E (R.take i)).2,(i:Int))) R.length (r:=.inl (O++ses n.Step E R)) (fun i hi=>?_) ?_
 ·rw[<-h1];simp[eV]
 ·have hm:=ht _ (aR hi);have hr:=Pf n.Step E R i (by omega);have hsl:=Mc n.Step E (R.take i);rw[cE]at hsl;have hlast:-10000<=(eV n.Step E (R.take i)).2/\(eV n.Step E (R.take i)).2<=2199023255552:=by
   cases i with
   | zero=>simp only[List.take_zero,eV,List.foldl_nil]; omega
   | succ i=>rw[mK (by omega)]; have:=ht _ (aR (show i<R.length by omega)); simp only; omega
  have hne:i=0\/(eV n.Step E (R.take i)).1≠[]:=by
   cases i with
   | zero=>exact .inl rfl
   | succ i=>exact .inr (Xc (by omega))
  have he0:i=0->(eV n.Step E (R.take i)).1=[]:=by rintro rfl; rfl
  unfold ses at hr hsl;rw[mK hi];generalize hF:eV n.Step E (R.take i)=F at hr hsl hlast hne he0 ⊢;obtain⟨s,last⟩:=F;simp only at hr hsl hlast hne he0 ⊢;unfold yN;simp only[Tr.den,aQ,hR,hE];rw[aA (bO (by omega)),aA (by omega)];rw[bF (n:=(R.getD i default).Time-last) (by omega) (by omega),bF (n:=(R.getD i default).Time+n.Step) (by omega) (by omega),aK (by omega)];generalize R.getD i default=x at hm ⊢;have hmin:(if E<x.Time+n.Step then E else x.Time+n.Step)=jX (x.Time+n.Step) E:=rfl;have fin:∀ j:List aN,j≠[]->j.length<=1000001000->(j.getD (j.length-1) default).rows_.length<=1000 ->
    (if 0<=IntKind.i64.wrap ((j.length:Int)-1)/\IntKind.i64.wrap ((j.length:Int)-1)<(j.length:Int) then if (IntKind.i64.wrap ((j.length:Int)-1)).toNat<j.length then if (IntKind.i64.wrap ((j.length:Int)-1)).toNat<j.length/\True/\True then
     if ((j.getD (IntKind.i64.wrap ((j.length:Int)-1)).toNat default).rows_.length+1)*40<=140737488355328 then if (IntKind.i64.wrap ((j.length:Int)-1)).toNat<j.length then if (IntKind.i64.wrap ((j.length:Int)-1)).toNat<j.length then
      some (Sum.inl (α:=List aN×Int×Int) (β:=List aN⊕((List aN×Int)⊕(List aN⊕List aN))) (j.set (IntKind.i64.wrap ((j.length:Int)-1)).toNat ⟨(j.getD (IntKind.i64.wrap ((j.length:Int)-1)).toNat default).begin_,if E<x.Time+n.Step then E else x.Time+n.Step,(j.getD (IntKind.i64.wrap ((j.length:Int)-1)).toNat default).rows_++[x]⟩,x.Time,((i+1:Nat):Int))) else none else none else none else none else none else none) =
    some (.inl (j.set (j.length-1) ⟨(j.getD (j.length-1) default).begin_,jX (x.Time+n.Step) E,(j.getD (j.length-1) default).rows_++[x]⟩,x.Time,((i+1:Nat):Int))):=fun j hj hj1 hj2=>by
   have h0:0<j.length:=fL.2 hj;have w:IntKind.i64.wrap ((j.length:Int)-1)=((j.length-1:Nat):Int):=by rw[bF (by omega) (by omega)]; omega
   rw[w,aQ,aA (by omega),aA (by omega),aA ⟨by omega,trivial,trivial⟩,aA (by omega),aA (by omega),aA (by omega)];rfl
  have hcond:((if ((i:Int)==0)=true then some (O++s,true) else some (O++s,decide (x.Time-last>=n.Step))):Option (List aN×Bool))=some (O++s,decide (s=[]\/x.Time-last>=n.Step)):=by
   by_cases h:i=0
   ·rw[aA (dI (by omega))]
    congr 2
    exact(bO (.inl (he0 h))).symm
   ·rw[aE (cZ (by omega))]
    congr 2
    have h2:=hne.resolve_left h;by_cases h3:x.Time-last>=n.Step
    ·rw[bO h3,bO (.inr h3)]
    ·rw[fI h3,fI (fun h'=>h'.elim h2 h3)]
  rw[hcond];simp only[aI];by_cases hc:s=[]\/x.Time-last>=n.Step
  ·rw[bO hc];simp only[eJ];rw[aA (by simp only[bQ,dN]; omega)];simp only[aI];have hj:O++s++[(⟨x.Time,0,[]⟩:aN)]≠[]:=by simp
   rw[fin _ hj (by simp only[bQ,dN]; omega) (by rw[nC _ _ (by simp)]; simp)];rw[Gf _ _ _ (by simp),nC _ _ (by simp)];unfold wH;rw[aA hc,cJ];rfl
  ·rw[fI hc];simp only[dC,cT,aI];have hs0:s≠[]:=fun h=>hc (.inl h);have h0:0<s.length:=fL.2 hs0;have hrr:=hr _ (aR (show s.length-1<s.length by omega));rw[fin _ (by simp[hs0]) (by simp only[bQ]; omega) (by rw[nC _ _ hs0]; omega)];rw[Gf _ _ _ hs0,nC _ _ hs0];unfold wH;rw[aE hc]
 ·unfold yN;simp only[Tr.den,aQ,hR];rw[aE (cB (by omega)),cV];rfl
def Ic(n:aG)(l:List aC):List aN:=(jV n.Size n.Size l).flatMap fun b=>ses n.Step (b+n.Size) (inB n.Size n.Size b l)
theorem aLW{n:aG}(hz:1<=n.Size/\n.Size<=10000)(hs:1<=n.Step/\n.Step<=10000)(ht:jW l)(hn:l.length<=1000):aKU n l=some (Ic n l):=by
 unfold aKU aWL;simp only[Tr.den];rw[Ec hz hz ht hn];simp only[aI];have hz0:0<n.Size:=by omega
 have hWL:=pP (len:=n.Size) (step:=n.Size) (c:=1) hz0 (by omega) ht;have hwm:∀ b,b∈jV n.Size n.Size l -> -n.Size<b/\b<=2199023255552:=fun b hb=>kU hz0 ht ((jF hz0).1 hb);unfold Ck Ic;generalize jV n.Size n.Size l=ks at hWL hwm ⊢;have hFl:∀ r:List Int,(r.flatMap fun b=>ses n.Step (b+n.Size) (inB n.Size n.Size b l)).length<=r.length*1000:=fun r=>by
  induction r with
  | nil=>simp
  | cons b r ih=>have h1:=Mc n.Step (b+n.Size) (inB n.Size n.Size b l);have h2:=qW n.Size n.Size b l;rw[fT,bQ,dA]; omega
 have h1:=aW (bd:=fun s=>(Dm n (ks.map fun b=>(⟨b,b+n.Size,inB n.Size n.Size b l⟩:aN)) s).den) (fun k=>((ks.take k).flatMap fun b=>ses n.Step (b+n.Size) (inB n.Size n.Size b l),(k:Int))) ks.length (r:=.inl (ks.flatMap fun b=>ses n.Step (b+n.Size) (inB n.Size n.Size b l))) (fun k hk=>?_) ?_
 ·exact(congrArg (fun x=>Option.bind x _) h1).trans rfl
 ·unfold Dm;simp only[Tr.den,bI];have e0:(ks.map fun b=>(⟨b,b+n.Size,inB n.Size n.Size b l⟩:aN)).getD k default=⟨ks.getD k default,ks.getD k default+n.Size,inB n.Size n.Size (ks.getD k default) l⟩:=by rw[bK (by rw[bI]; exact hk),wQ,<-bK hk]
  have hb:=hwm _ (aR hk);have h2:=qW n.Size n.Size (ks.getD k default) l;have h3:=hFl (ks.take k);rw[cE]at h3;rw[aA (bO (by omega)),aA (by omega),show IntKind.i64.wrap (0-n.Step) = -n.Step by rw[bF] <;> omega];rw[aPM n _ k _ hs (by rw[e0]; exact fun d hd=>ht d (iD.1 hd).1) (by rw[e0]; simp only; omega) (by omega) (by rw[e0]; simp only; omega),e0];simp only[aI,sel];rw[aK (by omega),aL hk,sP,nJ]
 ·unfold Dm;simp only[Tr.den,bI];rw[aE (cB (by omega)),cV]
def lW(g:jD)(l:List aC):Nat->aF×Int
 | 0=>(⟨0,0,⟨#[]⟩⟩,0)
 | k+1=>
  if g.Kind=0 then ((lW g l k).1,W ((lW g l k).2+(l.getD k default).N))
  else (if k=0\/(g.Kind=2/\mA ((l.getD k default).Row.getD g.Col.toNat default) (lW g l k).1<0)\/(g.Kind=3/\mA ((l.getD k default).Row.getD g.Col.toNat default) (lW g l k).1>0) then (l.getD k default).Row.getD g.Col.toNat default else (lW g l k).1,
   W ((lW g l k).2+W ((l.getD k default).N*((l.getD k default).Row.getD g.Col.toNat default).N)))
def Qx(g:jD)(l:List aC):aF:=if g.Kind=0\/g.Kind=1 then vI (lW g l l.length).2 else (lW g l l.length).1
theorem aKH{g:jD}(hc:g.Kind=0\/∀ d,d∈l->0<=g.Col/\g.Col<d.Row.length)(hn:l.length<=1000000):aUG g l=some (Qx g l):=by
 unfold aUG aUO;simp only[Tr.den];have h1:=aW (bd:=fun s=>(Dx g l s).den) (fun k=>((lW g l k).1.Kind,(lW g l k).1.N,(lW g l k).1.S,(lW g l k).2,(k:Int))) l.length (r:=.inl ((lW g l l.length).1.Kind,(lW g l l.length).1.N,(lW g l l.length).1.S,(lW g l l.length).2)) (fun k hk=>?_) ?_
 ·refine(congrArg (fun x=>Option.bind x _) h1).trans ?_;simp only[aI,sel];unfold Qx;by_cases h0:g.Kind=0
  ·rw[aA (dI h0),aA (.inl h0)];simp only[aI,eJ,yY]
  ·rw[aE (cZ h0)];simp only[aI];by_cases h2:g.Kind=1
   ·rw[aA (dI h2),aA (.inr h2)];simp only[yY,aI]
   ·rw[aE (cZ h2),aE (fun h=>h.elim h0 h2)]
 ·unfold Dx;simp only[Tr.den,aQ];rw[aA (bO (by omega)),aA (by omega),aK (by omega)];by_cases h0:g.Kind=0
  ·rw[aA (dI h0)];simp only[aI];rw[show lW g l (k+1)=((lW g l k).1,W ((lW g l k).2+(l.getD k default).N)) by rw[lW,aA h0]]
  ·rw[aE (cZ h0),aA ((hc.resolve_left h0) _ (aR hk)),xN];simp only[aI];have eP:=show lW g l (k+1)=_ by rw[lW,aE h0]
   rw[eP];generalize lW g l k=p at *
   generalize (l.getD k default).Row.getD g.Col.toNat default=v at *
   obtain⟨⟨b1,b2,b3⟩,nn⟩:=p;simp only;have hcond:((if ((k:Int)==0)=true then some true else if (g.Kind==2)=true then if decide (mA v ⟨b1,b2,b3⟩<0)=true then some true else if (g.Kind==3)=true then some (decide (mA v ⟨b1,b2,b3⟩>0)) else some false else if (g.Kind==3)=true then some (decide (mA v ⟨b1,b2,b3⟩>0)) else some false):Option Bool) =
     some (decide (k=0\/(g.Kind=2/\mA v ⟨b1,b2,b3⟩<0)\/(g.Kind=3/\mA v ⟨b1,b2,b3⟩>0))):=by
    by_cases q0:k=0
    ·rw[aA (dI (by omega)),bO (.inl q0)]
    ·rw[aE (cZ (by omega))];by_cases q2:g.Kind=2
     ·rw[aA (dI q2),aE (cZ (show g.Kind≠3 by omega))];by_cases q3:mA v ⟨b1,b2,b3⟩<0
      ·rw[aA (bO q3),bO (.inr (.inl ⟨q2,q3⟩))]
      ·rw[aE (cB q3),fI (fun h=>by omega)]
     ·rw[aE (cZ q2)];by_cases q3:g.Kind=3
      ·rw[aA (dI q3)];by_cases q4:mA v ⟨b1,b2,b3⟩>0
       ·rw[bO q4,bO (.inr (.inr ⟨q3,q4⟩))]
       ·rw[fI q4,fI (fun h=>by omega)]
      ·rw[aE (cZ q3),fI (fun h=>by omega)]
   rw[hcond];simp only[aI];by_cases q:k=0\/(g.Kind=2/\mA v ⟨b1,b2,b3⟩<0)\/(g.Kind=3/\mA v ⟨b1,b2,b3⟩>0)
   ·rw[bO q,aA q];simp only[eJ,aI]
   ·rw[fI q,aE q];simp only[dC,cT,aI]
 ·unfold Dx;simp only[Tr.den];rw[aE (cB (by omega))]
structure Bc (n:aG):Prop where
 size:1<=n.Size/\n.Size<=10000
 kind:n.Kind=0\/(n.Kind=1/\1<=n.Step/\n.Step<=10000)\/(n.Kind=2/\1<=n.Step/\n.Step<=10000)
 key:n.Key.length<=20
 aggs:n.Aggs.length<=20
def Me(n:aG)(l:List aC):Prop:=∀ g,g∈n.Aggs->g.Kind=0\/∀ d,d∈l->0<=g.Col/\g.Col<d.Row.length
theorem Me.sub{n:aG}{r:List aC}(h:Me n l)(hs:∀ x,x∈r->x∈l):Me n r:=fun g hg=>(h g hg).imp id fun h d hd=>h d (hs d hd)
def jP(n:aG)(l:List aC):List aN:=if n.Kind=0 then Ck n.Size n.Size l else if n.Kind=1 then Ck n.Size n.Step l else Ic n l
def Cu(n:aG)(l:List aC)(w:aN):aC:=⟨w.end_-1,(mI n (l.getD 0 default).Row++[vI w.begin_])++n.Aggs.map fun g=>Qx g w.rows_,1⟩
def iH(n:aG)(ks:List ByteArray)(l:List aC):List aC:=ks.flatMap fun k=>(jP n (ofK n 0 k l)).map (Cu n (ofK n 0 k l))
structure aTD (l:List aC)(w:aN):Prop where
 sub:∀ d,d∈w.rows_->d∈l
 len:w.rows_.length<=l.length
 e:-10000<=w.end_/\w.end_<=4398046511104
theorem Vt{len step:Int}(hl:1<=len/\len<=10000)(hs:0<step)(ht:jW l):∀ w,w∈Ck len step l->aTD l w:=fun w hw=>by obtain⟨b,hb,rfl⟩:=cQ.1 hw;have:=kU hs ht ((jF hs).1 hb);exact⟨fun d hd=>(iD.1 hd).1,qW _ _ _ _,by simp only; omega,by simp only; omega⟩
theorem aXA{step:Int}(hs:1<=step/\step<=10000)(ht:jW l)(he:-10000<=e/\e<=4398046511104):∀ k,k<=l.length->∀ w,w∈ses step e (l.take k)->(∀ d,d∈w.rows_->d∈l) /\ -10000<=w.end_/\w.end_<=4398046511104:=by
 intro k
 induction k with
 | zero=>intro _ w hw; simp[ses,eV]at hw
 | succ k ih=>
  intro hk w hw;have h1:=ih (by omega);have hm:=aR (show k<l.length by omega);have htm:=ht _ hm;have hmin:-10000<=jX ((l.getD k default).Time+step) e/\jX ((l.getD k default).Time+step) e<=4398046511104:=by unfold jX; split <;> omega
  unfold ses at h1 hw;rw[mK (by omega)]at hw;simp only at hw;unfold wH at hw;split at hw
  ·rcases dE.1 hw with hw | hw
   ·exact h1 w hw
   ·rw[bZ.1 hw];exact⟨fun d hd=>by rw[bZ.1 hd]; exact hm,hmin⟩
  ·rename_i hne;rcases Vp hw with hw | hw
   ·exact h1 w hw
   ·subst hw;have h0:0<(eV step e (l.take k)).1.length:=fL.2 fun h=>hne (.inl h);have:=h1 _ (aR (show (eV step e (l.take k)).1.length-1<(eV step e (l.take k)).1.length by omega));exact⟨fun d hd=>(dE.1 hd).elim (this.1 d) fun h=>by rw[bZ.1 h]; exact hm,hmin⟩
theorem aOD{n:aG}(hz:1<=n.Size/\n.Size<=10000)(hs:1<=n.Step/\n.Step<=10000)(ht:jW l):∀ w,w∈Ic n l->aTD l w:=fun w hw=>by obtain⟨b,hb,hw⟩:=gI.1 hw;have hr:=kU (show 0<n.Size by omega) ht ((jF (show 0<n.Size by omega)).1 hb);have hsub:∀ d,d∈inB n.Size n.Size b l->d∈l:=fun d hd=>(iD.1 hd).1;have h1:=aXA (l:=inB n.Size n.Size b l) (e:=b+n.Size) hs (fun d hd=>ht d (hsub d hd)) (by omega) _ (cS _) w (by rw[cV]; exact hw);have h2:=Pf n.Step (b+n.Size) (inB n.Size n.Size b l) _ (cS _) w (by rw[cV]; exact hw);have h3:=qW n.Size n.Size b l;exact⟨fun d hd=>hsub d (h1.1 d hd),by omega,h1.2⟩
theorem Pp{len step:Int}(hl:1<=len/\len<=10000)(hs:1<=step/\step<=10000)(ht:jW l):(Ck len step l).length<=l.length*10000:=by unfold Ck;rw[bI];refine pP (by omega) ?_ ht;have:1*10000<=step*10000:=Tq hs.1 (by omega);omega
theorem aHA{n:aG}(hz:1<=n.Size/\n.Size<=10000)(ht:jW l)(hn:l.length<=1000):(Ic n l).length<=l.length*1000:=by
 have hWL:=pP (len:=n.Size) (step:=n.Size) (c:=1) (show 0<n.Size by omega) (by omega) ht;unfold Ic;generalize jV n.Size n.Size l=ks at hWL;have:∀ r:List Int,(r.flatMap fun b=>ses n.Step (b+n.Size) (inB n.Size n.Size b l)).length<=r.length*1000:=fun r=>by
  induction r with
  | nil=>simp
  | cons b r ih=>have h1:=Mc n.Step (b+n.Size) (inB n.Size n.Size b l);have h2:=qW n.Size n.Size b l;rw[fT,bQ,dA]; omega
 have h:=this ks;omega
theorem Ja{n:aG}(hn:Bc n)(ht:jW l):∀ w,w∈jP n l->aTD l w:=by
 have hz:=hn.size;unfold jP;rcases hn.kind with h | ⟨h,hs⟩ | ⟨h,hs⟩
 ·rw[aA h]; exact Vt hz (by omega) ht
 ·rw[aE (by omega),aA h]; exact Vt hz (by omega) ht
 ·rw[aE (by omega),aE (by omega)]; exact aOD hz hs ht
theorem wC{n:aG}(hn:Bc n)(ht:jW l)(hl:l.length<=1000):(jP n l).length<=10000000:=by
 have hz:=hn.size;unfold jP;rcases hn.kind with h | ⟨h,hs⟩ | ⟨h,hs⟩
 ·rw[aA h]; have:=Pp hz hz ht; omega
 ·rw[aE (by omega),aA h]; have:=Pp hz hs ht; omega
 ·rw[aE (by omega),aE (by omega)]; have:=aHA hz ht hl; omega
theorem aLT(n:aG)(j6:List aN)(k:Nat)(v:List aC)(row:List aF)(ha:n.Aggs.length<=20)(hr:row.length<=1000)(hw:(j6.getD k default).rows_.length<=1000000)(hc:Me n (j6.getD k default).rows_):
  cD (fun s=>(yS n j6 (k:Int) s).den) (v,row,0)=some (.inl (v,row++n.Aggs.map fun g=>Qx g (j6.getD k default).rows_)):=by
 have h1:=aW (bd:=fun s=>(yS n j6 (k:Int) s).den) (fun i=>(v,row++(n.Aggs.take i).map fun g=>Qx g (j6.getD k default).rows_,(i:Int))) n.Aggs.length (r:=.inl (v,row++n.Aggs.map fun g=>Qx g (j6.getD k default).rows_)) (fun i hi=>?_) ?_
 ·rw[<-h1]; simp
 ·unfold yS;simp only[Tr.den,aQ];rw[aA (bO (by omega)),aA (by omega),aKH (hc _ (aR hi)) hw];simp only[aI];rw[aA (by simp only[bQ,bI,cE,dN]; omega),aK (by omega),aL hi,kJ,<-cJ];rfl
 ·unfold yS;simp only[Tr.den];rw[aE (cB (by omega)),cV]
theorem aOV{n:aG}(hn:Bc n)(h:okI n 0 l)(ha:Me n l)(hl:l.length<=1000):aWA n l=some (iH n (cM (aT (bP n 0 l))) l):=by
 have hz:=hn.size;have hkl:=hn.key;have hml:=jM n 0 l;have hks:(cM (aT (bP n 0 l))).length<=1000:=by rw[iX]; unfold aT; rw[bI]; omega
 have hne:∀ k,k∈cM (aT (bP n 0 l))->ofK n 0 k l≠[]:=fun k hk=>iR.1 ((gH _).mem_iff.1 hk);have hsub:∀ k,∀ x,x∈ofK n 0 k l->x∈l:=fun k x hx=>(eH.1 hx).1;have hkt:∀ k,jW (ofK n 0 k l):=fun k d hd=>h.t d (hsub k d hd);have hkn:∀ k,(ofK n 0 k l).length<=1000:=fun k=>by have:=iW n 0 k l; omega
 unfold aWA aYJ;simp only[Tr.den];rw[Nx h hkl (by omega)];simp only[aI];generalize hKS:cM (aT (bP n 0 l))=ks at hks hne ⊢;have hFl:∀ r:List ByteArray,(iH n r l).length<=r.length*10000000:=fun r=>by
  induction r with
  | nil=>simp[iH]
  | cons k r ih=>have h1:=wC hn (hkt k) (hkn k);unfold iH at ih ⊢;rw[fT,bQ,bI,dA]; omega
 have h1:=aW (bd:=fun s=>(Dl n (ks.map fun k=>ofK n 0 k l) s).den) (fun k=>(iH n (ks.take k) l,(k:Int))) ks.length (r:=.inl (iH n ks l)) (fun k hk=>?_) ?_
 ·exact(congrArg (fun x=>Option.bind x _) h1).trans rfl
 ·unfold Dl;simp only[Tr.den,aQ,bI];have e0:(ks.map fun k=>ofK n 0 k l).getD k default=ofK n 0 (ks.getD k default) l:=by rw[bK (by rw[bI]; exact hk),wQ,<-bK hk]
  have h3:=hFl (ks.take k);rw[cE]at h3;have hR:=hne _ (aR hk);rw[aA (bO (by omega)),aA (by omega)];have hW:((if (n.Kind==0)=true then (aCI ((ks.map fun k=>ofK n 0 k l).getD k default) n.Size n.Size).bind fun r=>some (iH n (ks.take k) l,r) else
    (if (n.Kind==1)=true then (aCI ((ks.map fun k=>ofK n 0 k l).getD k default) n.Size n.Step).bind fun r=>some (iH n (ks.take k) l,r) else
     (if (n.Kind==2)=true then (aKU n ((ks.map fun k=>ofK n 0 k l).getD k default)).bind fun r=>some (iH n (ks.take k) l,r) else some (iH n (ks.take k) l,[])).bind fun v=>some (v.1,v.2)).bind fun v=>some (v.1,v.2)):Option (List aC×List aN))=some (iH n (ks.take k) l,jP n (ofK n 0 (ks.getD k default) l)):=by
   rw[e0];unfold jP;rcases hn.kind with h | ⟨h,hs⟩ | ⟨h,hs⟩
   ·rw[aA (dI h),aA h,Ec hz hz (hkt _) (hkn _)]; rfl
   ·rw[aE (cZ (by omega)),aA (dI h),aE (by omega),aA h,Ec hz hs (hkt _) (hkn _)]; rfl
   ·rw[aE (cZ (by omega)),aE (cZ (by omega)),aA (dI h),aE (by omega),aE (by omega),aLW hz hs (hkt _) (hkn _)]; rfl
  refine(congrArg (fun x=>Option.bind x _) hW).trans ?_;simp only[aI];have hok:=Ja hn (hkt (ks.getD k default));have hwl:=wC hn (hkt (ks.getD k default)) (hkn _);have e1:iH n (ks.take (k+1)) l=iH n (ks.take k) l++(jP n (ofK n 0 (ks.getD k default) l)).map (Cu n (ofK n 0 (ks.getD k default) l)):=by unfold iH;rw[aL hk,sP,nJ]
  rw[e1];generalize iH n (ks.take k) l=out at h3 ⊢;generalize hw:jP n (ofK n 0 (ks.getD k default) l)=ws at hok hwl ⊢;have h2:=aW (bd:=fun s=>(Dq n (ks.map fun k=>ofK n 0 k l) (k:Int) ws s).den) (fun i=>(out++(ws.take i).map (Cu n (ofK n 0 (ks.getD k default) l)),(i:Int))) ws.length (r:=.inl (out++ws.map (Cu n (ofK n 0 (ks.getD k default) l)))) (fun i hi=>?_) ?_
  ·rw[show (out,(0:Int))=(out++(ws.take 0).map (Cu n (ofK n 0 (ks.getD k default) l)),((0:Nat):Int)) by simp,h2];simp only[aI,sel];rw[aK (by omega)]
  ·unfold Dq;simp only[Tr.den,aQ];have hm:=aR hi;have h0:0<(ofK n 0 (ks.getD k default) l).length:=fL.2 hR;have hr0:=aR h0;have hol:=hok _ hm;have holl:=hol.len;have hkk:=hkn (ks.getD k default);rw[aA (bO (by omega)),aA (by omega),aA (by rw[e0]; omega),e0];rw[show (0:Int).toNat=0 from rfl,Jc _ n (h.c _ (hsub _ _ hr0)) (by omega)];simp only[aI,yY];have hkp:=pL n ((ofK n 0 (ks.getD k default) l).getD 0 default).Row;rw[aA (by omega)];rw[aLT n ws i _ _ hn.aggs (by simp only[bQ,dN]; omega) (by omega) (ha.sub fun d hd=>hsub _ d (hol.sub d hd))];simp only[aI,sel];have hoe:=hol.e;rw[aA (by simp only[bQ,bI,cE,dN]; omega),aK (by omega),bF (by omega) (by omega),aL hi,kJ,<-cJ];rfl
  ·unfold Dq;simp only[Tr.den];rw[aE (cB (by omega)),cV]
 ·unfold Dl;simp only[Tr.den,bI];rw[aE (cB (by omega)),cV]
theorem wK{K:Type}{f:K->Int}:∀ {ks:List K},(∀ k,k∈ks->f k=0)->kK f ks=0
 | [],_=>rfl
 | k::ks,h=>by simp only[kK];rw[h k bW,wK fun k hk=>h k (cC _ hk)]; rfl
theorem Bo{K:Type}{f g:K->Int}:∀ {ks:List K},(∀ k,k∈ks->f k=g k)->kK f ks=kK g ks
 | [],_=>rfl
 | k::ks,h=>by simp only[kK];rw[h k bW,Bo fun k hk=>h k (cC _ hk)]
theorem Kd{K:Type}{f:K->Int}{k:K}:∀ {ks:List K},ks.Nodup->(∀ x,x∈ks->x≠k->f x=0)->(k∉ks->f k=0)->kK f ks=f k
 | [],_,_,h=>(h (by simp)).symm
 | x::ks,hn,h0,h1=>by
  have hn:=lG.1 hn;simp only[kK];by_cases hx:x=k
  ·subst hx;rw[wK fun y hy=>h0 y (cC _ hy) fun e=>hn.1 (e▸hy)]; omega
  ·rw[h0 x bW hx,Kd hn.2 (fun y hy=>h0 y (cC _ hy)) fun hk=>h1 fun h=>(aX.1 h).elim (fun e=>hx e.symm) hk]; omega
section
variable (n:aG) (len step:Int) (g:Int->List aC->List aC)
def Rz(ks:List ByteArray)(l:List aC):List aC:=ks.flatMap fun k=>(jV len step (ofK n 0 k l)).flatMap fun b=>g b (inB len step b (ofK n 0 k l))
variable {n len step g}
end
theorem Tk:aHZ=aQF:=rfl
def rP(tm:Int):Int->List aC->List aC
 | _,[]=>[]
 | left,x::l=>⟨tm,x.Row,jX left x.N⟩::rP tm (left-jX left x.N) l
def rX:Int->List aC->Int
 | left,[]=>left
 | left,x::l=>rX (left-jX left x.N) l
theorem Pq(tm:Int):∀ (l r:List aC) (left:Int),rP tm left (l++r)=rP tm left l++rP tm (rX left l) r
 | [],_,_=>rfl
 | x::l,r,left=>by rw[vV,rP,rP,Pq tm l r]; rfl
theorem Rm:∀ (l r:List aC) (left:Int),rX left (l++r)=rX (rX left l) r
 | [],_,_=>rfl
 | x::l,r,left=>by rw[vV,rX,rX,Rm l r]
theorem xX(tm:Int):∀ (l:List aC) (left:Int),(rP tm left l).length=l.length
 | [],_=>rfl
 | x::l,left=>by rw[rP,dA,xX tm l,dA]
theorem Yl:∀ (l:List aC) (left:Int),(∀ d,d∈l->0<=d.N)->0<=left->0<=rX left l/\rX left l<=left
 | [],left,_,h=>⟨h,iQ _⟩
 | x::l,left,h,h0=>by
  have hx:=h x bW;have hm:0<=jX left x.N/\jX left x.N<=left:=by unfold jX; split <;> omega
  have:=Yl l (left-jX left x.N) (fun d hd=>h d (cC _ hd)) (by omega);rw[rX]; omega
structure aIS (n:aG):Prop where
 size:1<=n.Size/\n.Size<=10000
 keep:1<=n.Keep/\n.Keep<=100
 key:n.Key.length<=20
def Hv(n:aG)(S:List aC->List aC)(b:Int)(l:List aC):List aC:=rP (b+n.Size-1) n.Keep (S l)
def qS(n:aG)(S:List aC->List aC)(ks:List ByteArray)(l:List aC):List aC:=Rz n n.Size n.Size (Hv n S) ks l
theorem aNX(v9:List aN)(i:Nat)(hi:i<v9.length)(r out:List aC)(v8:List (List aC))(keep:Int)(hk:1<=keep/\keep<=100)(hN:∀ d,d∈r->0<=d.N/\d.N<=1000)(hr:r.length<=1000)(ho:out.length<=10000000000)(he:-10000<=(v9.getD i default).end_/\(v9.getD i default).end_<=4398046511104):
  cD (fun s=>(yD v9 (i:Int) r s).den) (out,keep,v8,0)=some (.inl (out++rP ((v9.getD i default).end_-1) keep r,v8,v9.set i ⟨(v9.getD i default).begin_,(v9.getD i default).end_,r⟩)):=by
 have h1:=aW (bd:=fun s=>(yD v9 (i:Int) r s).den) (fun k=>(out++rP ((v9.getD i default).end_-1) keep (r.take k),rX keep (r.take k),v8,(k:Int))) r.length (r:=.inl (out++rP ((v9.getD i default).end_-1) keep r,v8,v9.set i ⟨(v9.getD i default).begin_,(v9.getD i default).end_,r⟩)) (fun k hk'=>?_) ?_
 ·rw[<-h1]; simp[rP,rX]
 ·have hs:=Yl (r.take k) keep (fun d hd=>(hN d (Hq hd)).1) (by omega);have hx:=hN _ (aR hk');have hm:0<=jX (rX keep (r.take k)) (r.getD k default).N/\jX (rX keep (r.take k)) (r.getD k default).N<=rX keep (r.take k):=by unfold jX; split <;> omega
  unfold yD;simp only[Tr.den,aQ];rw[aA (bO (by omega)),aA (by omega),aA hk',bF (n:=(v9.getD i default).end_-1) (by omega) (by omega)];rw[aA (by simp only[bQ,xX,cE,dN]; omega),aK (by omega)];change some (Sum.inl (_,IntKind.i64.wrap (rX keep (r.take k)-jX (rX keep (r.take k)) (r.getD k default).N),_,_))=_;rw[bF (by omega) (by omega),aL hk',Pq,Rm,<-cJ];rfl
 ·unfold yD;simp only[Tr.den,aQ];rw[aE (cB (by omega)),cV]
theorem aRF{n:aG}(hn:aIS n)(h:okI n 0 l)(hN:∀ d,d∈l->0<=d.N/\d.N<=1000)(hl:l.length<=1000){S:List aC->List aC}(hS:∀ r,r.Sublist l->Fd r n=some (S r)/\(S r).Perm r):
  aWV n l=some (qS n S (cM (aT (bP n 0 l))) l):=by
 have hz:=hn.size;have hz0:0<n.Size:=by omega
 have hkp:=hn.keep;have hkl:=hn.key;have hml:=jM n 0 l;have hks:(cM (aT (bP n 0 l))).length<=1000:=by rw[iX]; unfold aT; rw[bI]; omega
 have hsl:∀ k,(ofK n 0 k l).Sublist l:=fun k=>jC;have hsub:∀ k,∀ x,x∈ofK n 0 k l->x∈l:=fun k x hx=>(hsl k).subset hx;have hkt:∀ k,jW (ofK n 0 k l):=fun k d hd=>h.t d (hsub k d hd);have hkn:∀ k,(ofK n 0 k l).length<=1000:=fun k=>by have:=iW n 0 k l; omega
 have hSl:∀ r,r.Sublist l->(S r).length<=1000:=fun r hr=>by rw[(hS r hr).2.length_eq]; have:=hr.length_le; omega
 have hwb:∀ k,(jV n.Size n.Size (ofK n 0 k l)).length<=1000:=fun k=>by have:=pP (len:=n.Size) (step:=n.Size) (c:=1) hz0 (by omega) (hkt k);have:=hkn k;omega
 unfold aWV aWS;simp only[Tr.den];rw[Tk,Nx h hkl (by omega)];simp only[aI];generalize hKS:cM (aT (bP n 0 l))=ks at hks ⊢;have hil:∀ k b,(inB n.Size n.Size b (ofK n 0 k l)).Sublist l:=fun k b=>List.Sublist.trans jC (hsl k);have hFk:∀ k (r:List Int),(r.flatMap fun b=>Hv n S b (inB n.Size n.Size b (ofK n 0 k l))).length<=r.length*1000:=fun k r=>by
  induction r with
  | nil=>simp
  | cons b r ih=>have:=hSl _ (hil k b);unfold Hv at ih ⊢;rw[fT,bQ,xX,dA]; omega
 have hFl:∀ r:List ByteArray,(qS n S r l).length<=r.length*1000000:=fun r=>by
  induction r with
  | nil=>simp[qS,Rz]
  | cons k r ih=>have h1:=hFk k (jV n.Size n.Size (ofK n 0 k l));have h2:=hwb k;unfold qS Rz at ih ⊢;rw[fT,bQ,dA]; omega
 have h1:=aW (bd:=fun s=>(Dv n (ks.map fun k=>ofK n 0 k l) s).den) (fun k=>(qS n S (ks.take k) l,ks.map fun k=>ofK n 0 k l,(k:Int))) ks.length (r:=.inl (qS n S ks l)) (fun k hk=>?_) ?_
 ·exact(congrArg (fun x=>Option.bind x _) h1).trans rfl
 ·unfold Dv;simp only[Tr.den,aQ,bI];have e0:(ks.map fun k=>ofK n 0 k l).getD k default=ofK n 0 (ks.getD k default) l:=by rw[bK (by rw[bI]; exact hk),wQ,<-bK hk]
  have h3:=hFl (ks.take k);rw[cE]at h3;rw[aA (bO (by omega)),aA (by omega),aA hk,e0,Uc,Ec hz hz (hkt _) (hkn _)];simp only[aI];have e1:qS n S (ks.take (k+1)) l=qS n S (ks.take k) l++(jV n.Size n.Size (ofK n 0 (ks.getD k default) l)).flatMap fun b=>Hv n S b (inB n.Size n.Size b (ofK n 0 (ks.getD k default) l)):=by unfold qS Rz;rw[aL hk,sP,nJ]
  have hF2:=hFk (ks.getD k default);have hil2:=hil (ks.getD k default);have hwm:∀ b,b∈jV n.Size n.Size (ofK n 0 (ks.getD k default) l) -> -n.Size<b/\b<=2199023255552:=fun b hb=>kU hz0 (hkt _) ((jF hz0).1 hb);have hb2:=hwb (ks.getD k default);rw[e1];unfold Ck;generalize qS n S (ks.take k) l=out at h3 ⊢;generalize jV n.Size n.Size (ofK n 0 (ks.getD k default) l)=bs at hwm hb2 ⊢;generalize ofK n 0 (ks.getD k default) l=L at hF2 hil2 ⊢;have h2:=aW (bd:=fun s=>(Ds n (ks.map fun k=>ofK n 0 k l) (k:Int) (bs.map fun b=>(⟨b,b+n.Size,inB n.Size n.Size b L⟩:aN)) s).den)
   (fun i=>(out++(bs.take i).flatMap (fun b=>Hv n S b (inB n.Size n.Size b L)),ks.map fun k=>ofK n 0 k l,(bs.take i).map (fun b=>(⟨b,b+n.Size,S (inB n.Size n.Size b L)⟩:aN))++(bs.drop i).map (fun b=>(⟨b,b+n.Size,inB n.Size n.Size b L⟩:aN)),(i:Int))) bs.length
   (r:=.inl (out++bs.flatMap (fun b=>Hv n S b (inB n.Size n.Size b L)),ks.map fun k=>ofK n 0 k l)) (fun i hi=>?_) ?_
  ·simp only[List.take_zero,List.flatMap_nil,fN,vY,sN,List.drop_zero]at h2;refine(congrArg (fun x=>Option.bind x _) h2).trans ?_;simp only[aI,sel];rw[aK (by omega)]
  ·have hm:=hwm _ (aR hi);have hSi:=hS _ (hil2 (bs.getD i default));have hSl2:=hSl _ (hil2 (bs.getD i default));have hFi:=hF2 (bs.take i);rw[cE]at hFi;have hla:((bs.take i).map (fun b=>(⟨b,b+n.Size,S (inB n.Size n.Size b L)⟩:aN))).length=i:=by rw[bI,cE]; omega
   have hlb:((bs.take i).map (fun b=>(⟨b,b+n.Size,S (inB n.Size n.Size b L)⟩:aN))++(bs.drop i).map (fun b=>(⟨b,b+n.Size,inB n.Size n.Size b L⟩:aN))).length=bs.length:=by rw[bQ,hla,bI,fC]; omega
   have hg:((bs.take i).map (fun b=>(⟨b,b+n.Size,S (inB n.Size n.Size b L)⟩:aN))++(bs.drop i).map (fun b=>(⟨b,b+n.Size,inB n.Size n.Size b L⟩:aN))).getD i default=⟨bs.getD i default,bs.getD i default+n.Size,inB n.Size n.Size (bs.getD i default) L⟩:=by rw[bE,aE (by omega),hla,qM,cU hi]; rfl
   unfold Ds;simp only[Tr.den,aQ,bI];rw[aA (bO (by omega)),aA (by omega),aA (by omega),aA ⟨by omega,by simp⟩,hg,hSi.1];simp only[aI];rw[aNX _ i (by omega) _ _ _ _ hkp (fun d hd=>hN d ((hil2 _).subset (hSi.2.mem_iff.1 hd))) hSl2 (by rw[bQ]; omega) (by rw[hg]; simp only; omega)];simp only[aI,sel];rw[aK (by omega),hg]
   congr 3
   ·rw[aL hi,sP,nJ,<-cJ]; rfl
   ·congr 2
    rw[List.set_append,aE (by omega),hla,qM,cU hi,gJ,List.set_cons_zero,aL hi,kJ,cJ];rfl
  ·unfold Ds;simp only[Tr.den,bI];rw[aE (cB (by omega)),cV]
 ·unfold Dv;simp only[Tr.den,bI];rw[aE (cB (by omega)),cV]
end Go.PL
namespace Go.PL.St
open Go Go.PL
set_option linter.unusedVariables false
set_option maxRecDepth 20000
variable {a i j k w:Nat} {l:List aC}
def vT(nd:aG)(d:aC):aF:=d.Row.getD nd.Step.toNat default
abbrev kT (nd:aG)(d:aC):aF×Pl:=(vT nd d,pl d)
def aFQ(a b:aF×Pl):Int:=fX (mA b.1 a.1) (Us a.2 b.2)
theorem TO.flip{α:Type}{c:α->α->Int}(h:TO c):TO (fun x y=>c y x):=⟨fun a b=>by rw[h.eq]; exact eq_comm,fun a b=>h.sw b a,fun a b d h1 h2=>h.tr d b a h2 h1⟩
theorem TO.key:TO aFQ:=TO.lex (f:=fun x:aF×Pl=>x.1) (g:=fun x=>x.2) (TO.flip TO.val) TO.place (fun _ _ h1 h2=>Prod.ext h1 h2)
def ltL(nd:aG)(a b:aC):Bool:=decide (aFQ (kT nd a) (kT nd b)<0)
theorem iY(nd:aG):Sort.SWO (ltL nd):=by
 constructor
 ·intro x; simp[ltL,(TO.key.eq (kT nd x) (kT nd x)).2 rfl]
 ·intro x y z h1 h2;simp only[ltL,decide_eq_true_eq]at *
  exact TO.key.tr _ _ _ h1 h2
 ·intro x y z h1 h2;simp only[ltL]at h1 h2 ⊢;have h1:=of_decide_eq_false h1;have h2:=of_decide_eq_false h2;refine decide_eq_false fun h3=>?_;have s1:=TO.key.sw (kT nd x) (kT nd y);have s2:=TO.key.sw (kT nd y) (kT nd z);have s3:=TO.key.sw (kT nd y) (kT nd x);have s4:=TO.key.sw (kT nd z) (kT nd y);have s5:=TO.key.sw (kT nd x) (kT nd z);have s6:=TO.key.sw (kT nd z) (kT nd x);by_cases h4:aFQ (kT nd x) (kT nd y)=0
  ·rw[(TO.key.eq _ _).1 h4]at h3; exact h2 h3
  ·by_cases h5:aFQ (kT nd y) (kT nd z)=0
   ·rw[<-(TO.key.eq _ _).1 h5]at h3; exact h1 h3
   ·have:=TO.key.tr (kT nd z) (kT nd y) (kT nd x) (by omega) (by omega);omega
theorem zL{nd:aG}{x y:aC}(h:ltL nd x y=true):ltL nd y x=false:=by
 cases hh:ltL nd y x with
 | false=>rfl
 | true=>have:=(iY nd).trans _ _ _ h hh;rw[(iY nd).irrefl]at this; cases this
theorem Re{nd:aG}{a b:aC}(h:dJ b a<0):decide (mA (vT nd b) (vT nd a)<0)=ltL nd a b:=by
 unfold ltL aFQ fX;by_cases h0:mA (vT nd b) (vT nd a)=0
 ·rw[if_pos h0,h0];have h1:0<Us (kT nd a).2 (kT nd b).2:=by
   have:=xB.2 h
   rwa [uL]at this
  rw[decide_eq_false (by omega),decide_eq_false (by omega)]
 ·rw[if_neg h0]
abbrev okT (nd:aG)(d:aC):Prop:=0<=nd.Step/\nd.Step<d.Row.length
def okTs(nd:aG)(l:List aC):Prop:=∀ x,x∈l->okT nd x
theorem okTs.get{nd:aG}(h:okTs nd l)(hk:k<l.length):okT nd (l.getD k default):=h _ (aR hk)
theorem okTs.perm{nd:aG}{r:List aC}(h:okTs nd l)(hp:l.Perm r):okTs nd r:=fun x hx=>h x (hp.mem_iff.2 hx)
theorem pJ{a b:aC}{nd:aG}(ha:okT nd a)(hb:okT nd b):Td a b nd=some (mA (vT nd b) (vT nd a)):=by unfold Td Tf;simp only[Tr.den];rw[if_pos hb,if_pos ha,xN]; rfl
def Bef(A B:List aC):Prop:=∀ x,x∈A->∀ y,y∈B->dJ x y<0
section
variable {nd:aG}
theorem aGV(nd:aG)(a a2 v2:Int)(an:Nat)(ha:a=an):∀ (j:Nat) (l:List aC),okTs nd l->(∀ k,an<=k->k<j->dJ (l.getD k default) (l.getD j default)<0)->j<l.length->l.length<=1000000000000000 ->
  cD (fun s=>(mN a a2 nd v2 s).den) (l,(j:Int))=some (.inl (Sort.insInner (ltL nd) an j l.toArray).toList):=by
 intro j
 induction j with
 | zero=>intro l hl hD hj hn;refine gE ?_;unfold mN;simp only[Tr.den];rw[if_neg (by simp; omega)];simp[Sort.insInner]
 | succ j ih=>
  intro l hl hD hj hn;have e1:IntKind.i64.wrap (((j+1:Nat):Int)-1)=(j:Int):=rV (by omega);by_cases hc:an<j+1
  ·have hDj:=hD j (by omega) (by omega);cases hd:(ltL nd) (l.getD (j+1) default) (l.getD j default) with
   | false=>refine gE ?_;unfold mN;simp only[Tr.den];rw[e1];rw[if_pos (by simp; omega),if_pos (by omega),if_pos (by simpa using hj),if_pos (by omega),if_pos (by simp; omega)];simp only[Int.toNat_natCast];rw[pJ (hl.get (k:=j+1) hj) (hl.get (k:=j) (by omega))];simp only[Option.bind_some];rw[Re hDj,hd];simp only[Bool.false_eq_true,if_false];unfold Sort.insInner;rw[fZ,fZ,hd];simp
   | true=>
    rw[lS (s':=(pX l (j+1) j,(j:Int)))]
    ·have h2:=ih (pX l (j+1) j) (hl.perm (uR l hj (by omega)).symm) (fun k k1 k2=>by have h4:=hD k k1 (by omega);unfold pX;rw[jG,if_neg (by omega),jG,if_neg (by omega),jG,if_pos ⟨rfl,by simp; omega⟩];exact h4) (by rw[sO]; omega) (by rw[sO]; exact hn);rw[h2,sV]
     conv=>rhs; unfold Sort.insInner
     rw[fZ,fZ,hd];simp[hc]
    ·unfold mN;simp only[Tr.den];rw[e1];rw[if_pos (by simp; omega),if_pos (by omega),if_pos (by simpa using hj),if_pos (by omega),if_pos (by simp; omega)];simp only[Int.toNat_natCast];rw[pJ (hl.get (k:=j+1) hj) (hl.get (k:=j) (by omega))];simp only[Option.bind_some];rw[Re hDj,hd];simp only[if_true];rw[if_pos (by omega),if_pos (by omega),if_pos (by omega),if_pos (by omega),if_pos (by omega),if_pos (by omega),if_pos (by omega),if_pos (by omega),if_pos (by simp; omega)];rfl
  ·refine gE ?_;unfold mN;simp only[Tr.den];rw[if_neg (by simp; omega)];simp only[Option.bind_some,Bool.false_eq_true,if_false];unfold Sort.insInner;simp[hc]
theorem aWR(nd:aG)(a:Nat):∀ (j:Nat) (l:List aC),j<l.length->∀ k,(j<k\/k<a->(Sort.insInner (ltL nd) a j l.toArray).toList.getD k default=l.getD k default) /\
  (a<=k->k<=j->∃ k',a<=k'/\k'<=j/\(Sort.insInner (ltL nd) a j l.toArray).toList.getD k default=l.getD k' default):=by
 intro j
 induction j with
 | zero=>intro l _ k; exact⟨fun _=>rfl,fun h1 h2=>⟨k,h1,h2,rfl⟩⟩
 | succ j ih=>
  intro l hj k;unfold Sort.insInner;split
  ·rename_i hc;simp only[Bool.and_eq_true,decide_eq_true_eq]at hc;rw[<-sV];obtain⟨h1,h2⟩:=ih (pX l (j+1) j) (by rw[sO]; omega) k;have g:∀ q,(pX l (j+1) j).getD q default=if q=j then l.getD (j+1) default else if q=j+1 then l.getD j default else l.getD q default:=fun q=>by
    unfold pX;rw[jG];by_cases q1:q=j
    ·subst q1; rw[if_pos ⟨rfl,by simp; omega⟩,if_pos rfl]
    ·rw[if_neg (by omega),if_neg q1,jG];by_cases q2:q=j+1
     ·subst q2; rw[if_pos ⟨rfl,by omega⟩,if_pos rfl]
     ·rw[if_neg (by omega),if_neg q2]
   refine⟨fun h=>?_,fun q1 q2=>?_⟩
   ·rw[h1 (by omega),g,if_neg (by omega),if_neg (by omega)]
   ·by_cases q3:k=j+1
    ·subst q3;exact⟨j,by omega,by omega,by rw[h1 (by omega),g,if_neg (by omega),if_pos rfl]⟩
    ·obtain⟨k',r1,r2,r3⟩:=h2 q1 (by omega);rw[g]at r3;by_cases q4:k'=j
     ·rw[if_pos q4]at r3; exact⟨j+1,by omega,by omega,r3⟩
     ·rw[if_neg q4,if_neg (by omega)]at r3; exact⟨k',r1,by omega,r3⟩
  ·exact⟨fun _=>rfl,fun h1 h2=>⟨k,h1,h2,rfl⟩⟩
theorem Tg(nd:aG)(a b:Nat)(n:Nat):∀ (i:Nat) (l:List aC),b-i=n->a<i->b<=l.length->l.length<=1000000000000000->okTs nd l->(∀ k m,a<=k->k<m->i<=m->m<b->dJ (l.getD k default) (l.getD m default)<0) ->
  cD (fun s=>(tX (a:Int) (b:Int) nd s).den) (l,(i:Int))=some (.inl (Sort.insOuter (ltL nd) a b i l.toArray).toList):=by
 induction n with
 | zero=>intro i l hi ha hb hn hl hD;refine gE ?_;unfold tX;simp only[Tr.den];rw[if_neg (by simp; omega),Sort.insOuter,if_neg (by omega)]
 | succ n ih=>
  intro i l hi ha hb hn hl hD;have h1:=aGV nd (a:Int) (b:Int) (i:Int) a rfl i l hl (fun k k1 k2=>hD k i k1 k2 (Nat.le_refl _) (by omega)) (by omega) hn;have hp:=(Sort.insInner_spec (iY nd) Sort.swp_permIn Sort.permIn_refl Sort.permIn_trans 0 b i (by omega));have hlen:(Sort.insInner (ltL nd) a i l.toArray).size=l.length:=by
   have:∀ (j:Nat) (d:Array aC),(Sort.insInner (ltL nd) a j d).size=d.size:=by
    intro j
    induction j with
    | zero=>intro d; rfl
    | succ j ih=>intro d; unfold Sort.insInner; split <;> simp[ih,Sort.swp_size]
   rw[this]; simp
  have hperm:(Sort.insInner (ltL nd) a i l.toArray).toList.Perm l:=by
   have:∀ (j:Nat) (d:Array aC),j<d.size->(Sort.insInner (ltL nd) a j d).toList.Perm d.toList:=by
    intro j
    induction j with
    | zero=>intro d _; exact .refl _
    | succ j ih=>
     intro d hd;unfold Sort.insInner;split
     ·refine(ih _ (by rw[Sort.swp_size]; omega)).trans ?_;have e:=sV d.toList (j+1) j;rw[Array.toArray_toList]at e;rw[<-e];exact uR d.toList (i:=j+1) (j:=j) (by simpa using hd) (by simp; omega)
     ·exact .refl _
   simpa using this i l.toArray (by simp; omega)
  rw[lS (s':=((Sort.insInner (ltL nd) a i l.toArray).toList,((i+1:Nat):Int)))]
  ·rw[ih (i+1) _ (by omega) (by omega) (by simp[hlen]; omega) (by simp[hlen]; omega) (hl.perm hperm.symm) (fun k m m1 m2 m3 m4=>by
    have hm:=fun q=>aWR nd a i l (by omega) q;rw[(hm m).1 (.inl (by omega))];by_cases q1:k<=i
    ·obtain⟨k',r1,r2,r3⟩:=(hm k).2 m1 q1;rw[r3]; exact hD k' m r1 (by omega) (by omega) m4
    ·rw[(hm k).1 (.inl (by omega))]; exact hD k m m1 m2 (by omega) m4)]
   conv=>rhs; rw[Sort.insOuter,if_pos (by omega)]
  ·unfold tX;simp only[Tr.den];rw[if_pos (by simp; omega),h1];simp only[Option.bind_some,sel];rw[aK (by omega)]
theorem Zr(nd:aG)(a b:Nat)(l:List aC)(hb:b<=l.length)(hab:a<=b)(hn:l.length<=1000000000000000)(hl:okTs nd l)(hD:∀ k m,a<=k->k<m->m<b->dJ (l.getD k default) (l.getD m default)<0):Lg (a:Int) (b:Int) l nd=some (Sort.insertionSort (ltL nd) l.toArray a b).toList:=by unfold Lg Sd;simp only[Tr.den];rw[aK (by omega),Tg nd a b _ (a+1) l rfl (by omega) hb hn hl (fun k m k1 k2 _ k4=>hD k m k1 k2 k4)];rfl
theorem aTW(a1 a2 a3:Int)(s:List aC×Int):(Bb a1 a2 a3 s).den=(mO a1 a2 a3 s).den:=by obtain⟨x,y⟩:=s;unfold mO Bb;simp only[Tr.den]
theorem Wi(nd:aG)(a1 a2 a3:Int)(l:List aC):Sn a1 a2 a3 l nd=Fe a1 a2 a3 l:=by unfold Fe Sn Mv Tx;simp only[Tr.den,aTW]
theorem aUR(nd:aG)(a2:Int)(s:List aC×Int×Int):(zF a2 nd s).den=(uN a2 s).den:=by obtain⟨x,y,z⟩:=s;unfold uN zF;simp only[Tr.den,Wi]
theorem aMC(nd:aG)(a1 a2 a3:Int)(l:List aC):Se a1 a2 a3 l nd=wF a1 a2 a3 l:=by unfold wF Se Nu Uu;simp only[Tr.den,aUR,Wi]
theorem aUP(b:Int)(s:List aC×Int):(Ai b s).den=(kW b s).den:=by obtain⟨x,y⟩:=s;unfold kW Ai;simp only[Tr.den]
theorem aVA(b:Int)(s:List aC×Int):(Ac b s).den=(lL b s).den:=by obtain⟨x,y⟩:=s;unfold lL Ac;simp only[Tr.den]
def Srt(nd:aG)(l:List aC):Prop:=l.Pairwise (fun x y=>(ltL nd) y x=false)
theorem Srt.app{r:List aC}:Srt nd (l++r)↔Srt nd l/\Srt nd r/\∀ x,x∈l->∀ y,y∈r->(ltL nd) y x=false:=by unfold Srt; rw[List.pairwise_append]
theorem Srt.get(h:Srt nd l)(hij:i<=j)(hj:j<l.length):(ltL nd) (l.getD j default) (l.getD i default)=false:=by
 rcases Nat.lt_or_eq_of_le hij with h1 | h1
 ·rw[bK hj,bK (show i<l.length by omega)];exact List.pairwise_iff_getElem.1 h i j (by omega) hj h1
 ·subst h1; exact(iY nd).irrefl _
theorem qF(h:∀ i j,i<j->j<l.length->(ltL nd) (l.getD j default) (l.getD i default)=false):Srt nd l:=by
 unfold Srt;rw[List.pairwise_iff_getElem];intro i j hi hj hij;have:=h i j hij hj
 rwa [bK hj,bK hi]at this
def gQ(nd:aG)(P A B Q:List aC):Int×Int×Int×List aC×aG:=((P.length:Int),((P.length+A.length:Nat):Int),((P.length+A.length+B.length:Nat):Int),P++(A++(B++Q)),nd)
def aYG(nd:aG)(a:Int×Int×Int×List aC×aG):Prop:=∃ P A B Q,a=gQ nd P A B Q/\Bef A B/\A≠[]/\B≠[]/\Srt nd A/\Srt nd B/\okTs nd (P++(A++(B++Q)))/\(P++(A++(B++Q))).length<=1000000000000000
def aSS(nd:aG)(a:Int×Int×Int×List aC×aG)(d:List aC):Prop:=∀ P A B Q,a=gQ nd P A B Q->∃ C,d=P++(C++Q)/\C.Perm (A++B)/\Srt nd C
theorem Ah{P A B Q P' A' B' Q':List aC}(h:gQ nd P A B Q=gQ nd P' A' B' Q'):P=P'/\A=A'/\B=B'/\Q=Q':=by unfold gQ at h;simp only[Prod.mk.injEq]at h;obtain⟨h1,h2,h3,h4,_⟩:=h;obtain⟨e1,h5⟩:=List.append_inj h4 (by omega);obtain⟨e2,h6⟩:=List.append_inj h5 (by omega);obtain⟨e3,e4⟩:=List.append_inj h6 (by omega);exact⟨e1,e2,e3,e4⟩
theorem Uk{A:List aC}(h:Srt nd A){h':Nat}(hk:k<=h')(hh:h' < A.length)(x:aC)(hp:(ltL nd) (A.getD h' default) x=true):(ltL nd) (A.getD k default) x=true:=by
 have:=h.get hk hh;cases hc:(ltL nd) (A.getD k default) x with
 | true=>rfl
 | false=>rw[<-hp];exact((iY nd).ntrans _ _ _ this hc).symm
theorem Nn{A:List aC}(h:Srt nd A){h':Nat}(hk:k<=h')(hh:h' < A.length)(x:aC)(hp:(ltL nd) x (A.getD h' default)=false):(ltL nd) x (A.getD k default)=false:=by exact(iY nd).ntrans _ _ _ hp (h.get hk hh)
section
variable (b:Bool) (P A B Q:List aC)
theorem Gp(x:aC)(hb:Bef [x] B)(hB:Srt nd B)(ho:okTs nd (P++x::(B++Q)))(hn:(P++x::(B++Q)).length<=1000000000000000):
  Sq b (cD (fun s=>(uC (P.length:Int) (P++x::(B++Q)) nd s).den) (((P.length+1:Nat):Int),((P.length+1+B.length:Nat):Int)))
   (sel (fun r:Int=>∃ n:Nat,r=((P.length+1+n:Nat):Int)/\n<=B.length/\(∀ k,k<n->(ltL nd) (B.getD k default) x=true)/\(∀ k,n<=k->k<B.length->(ltL nd) (B.getD k default) x=false)) (fun _=>False)):=by
 simp only[List.length_append,List.length_cons]at hn;have hL:(P++x::(B++Q)).length=P.length+1+B.length+Q.length:=by simp; omega
 have e1:(P++x::(B++Q)).getD P.length default=x:=by rw[bE,if_neg (by omega)]; simp
 have e2:∀ k,k<B.length->(P++x::(B++Q)).getD (P.length+1+k) default=B.getD k default:=by intro k hk;rw[bE,if_neg (by omega),show P.length+1+k-P.length=k+1 by omega,List.getD_cons_succ,bE,if_pos hk]
 refine(Kh b _ (fun h=>(ltL nd) ((P++x::(B++Q)).getD h default) x) (P.length+1) (P.length+1+B.length) (by omega) (fun i j h1 h2 h3=>?_) (fun i h1 h2=>?_) (fun h k h1 h2 h3 h4=>?_)).imp ?_
 ·unfold uC;simp only[Tr.den];rw[oV (by omega)];simp only[Int.toNat_natCast];rw[hL];rw[if_pos (by simp; omega),if_pos (by omega),if_pos (by omega),if_pos (by omega),if_pos (by omega)];rw[pJ (ho.get (k:=(i+j) / 2) (by omega)) (ho.get (k:=P.length) (by omega)),e1];simp only[Option.bind_some];rw[Re (nd:=nd) (a:=(P++x::(B++Q)).getD ((i+j) / 2) default) (b:=x) (by rw[show (i+j) / 2=P.length+1+((i+j) / 2-(P.length+1)) by omega,e2 _ (by omega)];exact hb x (by simp) _ (aR (by omega)))];cases (ltL nd) ((P++x::(B++Q)).getD ((i+j) / 2) default) x with
  | true=>simp only[if_true,Option.bind_some]; rw[aK (by omega)]
  | false=>simp only[Bool.false_eq_true,if_false,Option.bind_some]
 ·unfold uC;simp only[Tr.den];rw[if_neg (by simp)]
 ·obtain⟨k',rfl⟩:∃ k',k=P.length+1+k':=⟨k-(P.length+1),by omega⟩;obtain⟨h',rfl⟩:∃ h',h=P.length+1+h':=⟨h-(P.length+1),by omega⟩;rw[e2 _ (by omega)]at h4 ⊢;exact Uk hB (by omega) (by omega) x h4
 ·intro z hz;cases z with
  | inr z=>exact hz
  | inl z=>
   obtain⟨n,rfl,h1,h2,h3,h4⟩:=hz;refine⟨n-(P.length+1),by omega,by omega,fun k hk=>?_,fun k hk1 hk2=>?_⟩
   ·rw[<-e2 k (by omega)]; exact h3 _ (by omega) (by omega)
   ·rw[<-e2 k hk2]; exact h4 _ (by omega) (by omega)
theorem zG(y:aC)(hb:Bef A [y])(hA:Srt nd A)(ho:okTs nd (P++(A++y::Q)))(hn:(P++(A++y::Q)).length<=1000000000000000):
  Sq b (cD (fun s=>(vA ((P.length+A.length:Nat):Int) (P++(A++y::Q)) nd s).den) ((P.length:Int),((P.length+A.length:Nat):Int)))
   (sel (fun r:Int=>∃ n:Nat,r=((P.length+n:Nat):Int)/\n<=A.length/\(∀ k,k<n->(ltL nd) y (A.getD k default)=false)/\(∀ k,n<=k->k<A.length->(ltL nd) y (A.getD k default)=true)) (fun _=>False)):=by
 simp only[List.length_append,List.length_cons]at hn;have hL:(P++(A++y::Q)).length=P.length+A.length+1+Q.length:=by simp; omega
 have e1:(P++(A++y::Q)).getD (P.length+A.length) default=y:=by rw[bE,if_neg (by omega),bE,if_neg (by omega)]; simp
 have e2:∀ k,k<A.length->(P++(A++y::Q)).getD (P.length+k) default=A.getD k default:=by intro k hk;rw[bE,if_neg (by omega),show P.length+k-P.length=k by omega,bE,if_pos hk]
 refine(Kh b _ (fun h=>!(ltL nd) y ((P++(A++y::Q)).getD h default)) P.length (P.length+A.length) (by omega) (fun i j h1 h2 h3=>?_) (fun i h1 h2=>?_) (fun h k h1 h2 h3 h4=>?_)).imp ?_
 ·unfold vA;simp only[Tr.den];rw[oV (by omega)];simp only[Int.toNat_natCast];rw[hL];rw[if_pos (by simp; omega),if_pos (by omega),if_pos (by omega),if_pos (by omega),if_pos (by omega)];rw[pJ (ho.get (k:=P.length+A.length) (by omega)) (ho.get (k:=(i+j) / 2) (by omega)),e1];simp only[Option.bind_some];rw[Re (nd:=nd) (a:=y) (b:=(P++(A++y::Q)).getD ((i+j) / 2) default) (by rw[show (i+j) / 2=P.length+((i+j) / 2-P.length) by omega,e2 _ (by omega)];exact hb _ (aR (by omega)) y (by simp))];cases (ltL nd) y ((P++(A++y::Q)).getD ((i+j) / 2) default) with
  | true=>simp
  | false=>simp; rw[bF] <;> omega
 ·unfold vA;simp only[Tr.den];rw[if_neg (by simp)]
 ·obtain⟨k',rfl⟩:∃ k',k=P.length+k':=⟨k-P.length,by omega⟩;obtain⟨h',rfl⟩:∃ h',h=P.length+h':=⟨h-P.length,by omega⟩;rw[e2 _ (by omega)]at h4 ⊢;simp only[Bool.not_eq_true']at h4 ⊢;exact Nn hA (by omega) (by omega) y h4
 ·intro z hz;cases z with
  | inr z=>exact hz
  | inl z=>
   obtain⟨n,rfl,h1,h2,h3,h4⟩:=hz;refine⟨n-P.length,by omega,by omega,fun k hk=>?_,fun k hk1 hk2=>?_⟩
   ·have:=h3 (P.length+k) (by omega) (by omega);rw[e2 k (by omega)]at this; simpa using this
   ·have:=h4 (P.length+k) (by omega) (by omega);rw[e2 k hk2]at this; simpa using this
end
theorem Srt.take{l:List aC}(h:Srt nd l)(n:Nat):Srt nd (l.take n):=List.Pairwise.sublist (List.take_sublist _ _) h
theorem Srt.drop{l:List aC}(h:Srt nd l)(n:Nat):Srt nd (l.drop n):=List.Pairwise.sublist (List.drop_sublist _ _) h
theorem xH{x:aC}{n:Nat}(h:Srt nd l)(h1:∀ k,k<n->k<l.length->(ltL nd) x (l.getD k default)=false)(h2:∀ k,n<=k->k<l.length->(ltL nd) (l.getD k default) x=false):Srt nd (l.take n++x::l.drop n):=by
 rw[show x::l.drop n=[x]++l.drop n from rfl,Srt.app,Srt.app];refine⟨h.take n,⟨List.pairwise_singleton _ _,h.drop n,fun a ha y hy=>?_⟩,fun a ha y hy=>?_⟩
 ·simp only[List.mem_singleton]at ha;subst ha;obtain⟨k,h3,h4,rfl⟩:=dO hy;exact h2 k h3 h4
 ·obtain⟨k,h3,h4,rfl⟩:=dT ha;simp only[List.mem_append,List.mem_singleton]at hy;rcases hy with rfl | hy
  ·exact h1 k h3 h4
  ·obtain⟨k',h5,h6,rfl⟩:=dO hy;exact h.get (by omega) h6
theorem aFS{A B:List aC}(hA:Srt nd A)(hB:Srt nd B){u v:Nat}(hu:u<=A.length)(hv:v<=B.length)
  (h1:0<u->v<B.length->(ltL nd) (B.getD v default) (A.getD (u-1) default)=false)(h2:0<v->u<A.length->(ltL nd) (A.getD u default) (B.getD (v-1) default)=false)
  {C D:List aC}(hC:C.Perm (A.take u++B.take v))(hD:D.Perm (A.drop u++B.drop v))(sC:Srt nd C)(sD:Srt nd D):Srt nd (C++D)/\(C++D).Perm (A++B):=by
 constructor
 ·rw[Srt.app];refine⟨sC,sD,fun x hx y hy=>?_⟩;have hx:=hC.mem_iff.1 hx;have hy:=hD.mem_iff.1 hy;rw[List.mem_append]at hx hy;rcases hx with hx | hx
  ·obtain⟨i,i1,i2,rfl⟩:=dT hx;rcases hy with hy | hy
   ·obtain⟨j,j1,j2,rfl⟩:=dO hy;exact hA.get (by omega) j2
   ·obtain⟨j,j1,j2,rfl⟩:=dO hy;exact(iY nd).ntrans _ _ _ (hB.get j1 j2) ((iY nd).ntrans _ _ _ (h1 (by omega) (by omega)) (hA.get (i:=i) (j:=u-1) (by omega) (by omega)))
  ·obtain⟨i,i1,i2,rfl⟩:=dT hx;rcases hy with hy | hy
   ·obtain⟨j,j1,j2,rfl⟩:=dO hy;exact(iY nd).ntrans _ _ _ (hA.get j1 j2) ((iY nd).ntrans _ _ _ (h2 (by omega) (by omega)) (hB.get (i:=i) (j:=v-1) (by omega) (by omega)))
   ·obtain⟨j,j1,j2,rfl⟩:=dO hy;exact hB.get (by omega) j2
 ·refine(hC.append hD).trans ?_;have e:(A++B).Perm (A.take u++(A.drop u++(B.take v++B.drop v))):=by rw[List.take_append_drop,<-List.append_assoc,List.take_append_drop]
  refine List.Perm.trans ?_ e.symm;rw[List.append_assoc];refine List.Perm.append_left _ ?_;rw[<-List.append_assoc,<-List.append_assoc];exact List.Perm.append_right _ List.perm_append_comm
section
variable (b:Bool) (P A B Q:List aC)
theorem Gl(hAB:Bef A B)(hA:Srt nd A)(hB:Srt nd B)(ho:okTs nd (P++(A++(B++Q))))(hn:(P++(A++(B++Q))).length<=1000000000000000)(i0 j0:Nat)(mid:Nat)(hmid:mid=(P.length+(P.length+A.length+B.length)) / 2)
  (h1:P.length<=i0)(h2:i0<=j0)(h3:j0<=P.length+A.length)(h4:j0<=mid)(h5:mid<=B.length+i0):
  Sq b (cD (fun s=>(pO (P.length:Int) ((P.length+A.length:Nat):Int) ((P.length+A.length+B.length:Nat):Int) (P++(A++(B++Q))) nd s).den) ((i0:Int),(j0:Int)))
   (sel (fun r:Int=>∃ n:Nat,r=(n:Int)/\i0<=n/\n<=j0/\(∀ c,i0<=c->c<n->(ltL nd) (B.getD (mid-1-c) default) (A.getD (c-P.length) default)=false)/\(∀ c,n<=c->c<j0->(ltL nd) (B.getD (mid-1-c) default) (A.getD (c-P.length) default)=true)) (fun _=>False)):=by
 simp only[List.length_append]at hn;have hL:(P++(A++(B++Q))).length=P.length+A.length+B.length+Q.length:=by simp; omega
 have e1:∀ k,P.length<=k->k<P.length+A.length->(P++(A++(B++Q))).getD k default=A.getD (k-P.length) default:=by intro k k1 k2;rw[bE,if_neg (by omega),bE,if_pos (by omega)]
 have e2:∀ k,P.length+A.length<=k->k<P.length+A.length+B.length->(P++(A++(B++Q))).getD k default=B.getD (k-(P.length+A.length)) default:=by
  intro k k1 k2;rw[bE,if_neg (by omega),bE,if_neg (by omega),bE,if_pos (by omega)]
  congr 1; omega
 refine(Kh b _ (fun c=>!(ltL nd) (B.getD (mid-1-c) default) (A.getD (c-P.length) default)) i0 j0 h2 (fun i j q1 q2 q3=>?_) (fun i q1 q2=>?_) (fun h k q1 q2 q3 q4=>?_)).imp ?_
 ·unfold pO;simp only[Tr.den];rw[oV (i:=P.length) (j:=P.length+A.length+B.length) (by omega),<-hmid,oV (i:=i) (j:=j) (by omega)];have w1:IntKind.i64.wrap (IntKind.i64.wrap (IntKind.i64.wrap ((mid:Int)+((P.length+A.length:Nat):Int))-1)-(((i+j) / 2:Nat):Int))=((mid+(P.length+A.length)-1-(i+j) / 2:Nat):Int):=by rw[dP (by omega),bF (n:=((mid+(P.length+A.length):Nat):Int)-1) (by omega) (by omega),bF (by omega) (by omega)];omega
  rw[w1];simp only[Int.toNat_natCast];rw[hL];rw[if_pos (by simp; omega),if_pos (by omega),if_pos (by omega),if_pos (by omega),if_pos (by omega)];rw[pJ (ho.get (k:=mid+(P.length+A.length)-1-(i+j) / 2) (by omega)) (ho.get (k:=(i+j) / 2) (by omega))];simp only[Option.bind_some];rw[e1 ((i+j) / 2) (by omega) (by omega),e2 (mid+(P.length+A.length)-1-(i+j) / 2) (by omega) (by omega),show mid+(P.length+A.length)-1-(i+j) / 2-(P.length+A.length)=mid-1-(i+j) / 2 by omega];rw[Re (nd:=nd) (a:=B.getD (mid-1-(i+j) / 2) default) (b:=A.getD ((i+j) / 2-P.length) default) (hAB _ (aR (by omega)) _ (aR (by omega)))];cases (ltL nd) (B.getD (mid-1-(i+j) / 2) default) (A.getD ((i+j) / 2-P.length) default) with
  | true=>simp
  | false=>simp; rw[bF] <;> omega
 ·unfold pO;simp only[Tr.den];rw[if_neg (by simp)]
 ·simp only[Bool.not_eq_true']at q4 ⊢;exact(iY nd).ntrans _ _ _ (hB.get (i:=mid-1-h) (j:=mid-1-k) (by omega) (by omega)) ((iY nd).ntrans _ _ _ q4 (hA.get (i:=k-P.length) (j:=h-P.length) (by omega) (by omega)))
 ·intro z hz;cases z with
  | inr z=>exact hz
  | inl z=>obtain⟨n,rfl,q1,q2,q3,q4⟩:=hz;refine⟨n,rfl,q1,q2,fun c c1 c2=>by simpa using q3 c c1 c2,fun c c1 c2=>by simpa using q4 c c1 c2⟩
end
theorem aUS(b:Bool)(f:Te)(P A B Q:List aC)(hAB:Bef A B)(hA0:A≠[])(hB0:B≠[])(hA:Srt nd A)(hB:Srt nd B)(ho:okTs nd (P++(A++(B++Q))))(hn:(P++(A++(B++Q))).length<=1000000000000000)
  (hrec:∀ P' A' B' Q',Bef A' B'->A'≠[]->B'≠[]->Srt nd A'->Srt nd B'->okTs nd (P'++(A'++(B'++Q')))->(P'++(A'++(B'++Q'))).length<=1000000000000000->A'.length+B'.length<A.length+B.length ->
   Sq b (f.1 (gQ nd P' A' B' Q')) (fun d=>∃ C,d=P'++(C++Q')/\C.Perm (A'++B')/\Srt nd C)):
  Sq b (Aj f (P.length:Int) ((P.length+A.length:Nat):Int) ((P.length+A.length+B.length:Nat):Int) (P++(A++(B++Q))) nd).den (fun d=>∃ C,d=P++(C++Q)/\C.Perm (A++B)/\Srt nd C):=by
 have hA1:0<A.length:=List.length_pos_iff.2 hA0;have hB1:0<B.length:=List.length_pos_iff.2 hB0;have hn':=hn;simp only[List.length_append]at hn;have hL:(P++(A++(B++Q))).length=P.length+A.length+B.length+Q.length:=by simp; omega
 unfold Aj;simp only[Tr.den,aUP,aVA,aMC];rw[eR (n:=P.length+A.length) (m:=P.length) (by omega) (by omega),eR (n:=P.length+A.length+B.length) (m:=P.length+A.length) (by omega) (by omega)];by_cases c1:A.length=1
 ·obtain⟨x,rfl⟩:=List.length_eq_one_iff.1 c1;rw[if_pos (by simp)];simp only[List.singleton_append,List.length_singleton]at *
  refine Sq.bind _ (Gp b P B Q x hAB hB ho hn') (fun z hz=>?_);cases z with
  | inr z=>exact hz.elim
  | inl z=>
   obtain⟨n,rfl,h1,h2,h3⟩:=hz;simp only[sel];have hb:B++Q=B.take n++(B.drop n++Q):=by rw[<-List.append_assoc,List.take_append_drop]
   rw[hb,aHP P (B.take n) (B.drop n++Q) x _ (by simp; omega) (by rw[<-hb]; exact hn')];simp only[Option.bind_some,sel];refine aB.2 ⟨B.take n++x::B.drop n,by simp,?_,xH hB (fun k k1 k2=>zL (h2 k k1)) h3⟩;rw[List.perm_middle.congr_left,List.take_append_drop]
 ·rw[if_neg (by simp; omega)];by_cases c2:B.length=1
  ·obtain⟨y,rfl⟩:=List.length_eq_one_iff.1 c2;rw[if_pos (dI (by simp))];simp only[List.singleton_append,List.length_singleton]at *
   refine Sq.bind _ (zG b P A Q y hAB hA ho hn') (fun z hz=>?_);cases z with
   | inr z=>exact hz.elim
   | inl z=>
    obtain⟨n,rfl,h1,h2,h3⟩:=hz;simp only[sel];have hb:P++(A++y::Q)=(P++A.take n)++(A.drop n++y::Q):=by rw[List.append_assoc,<-List.append_assoc (A.take n),List.take_append_drop]
    rw[hb,Po (P++A.take n) (A.drop n) Q y _ _ (by simp; omega) (by simp; omega) (by rw[<-hb]; exact hn')];simp only[Option.bind_some,sel];refine aB.2 ⟨A.take n++y::A.drop n,by simp,?_,xH hA (fun k k1 k2=>h2 k k1) (fun k k1 k2=>zL (h3 k k1 k2))⟩;refine List.perm_middle.trans ?_;rw[List.take_append_drop];exact(List.perm_append_singleton y A).symm
  ·rw[if_neg (by simp; omega)];rw[oV (i:=P.length) (j:=P.length+A.length+B.length) (by omega)];generalize hmid:(P.length+(P.length+A.length+B.length)) / 2=mid;have key:∀ (i0 j0:Nat),P.length<=i0->i0<=j0->j0<=P.length+A.length->j0<=mid->mid<=B.length+i0->(i0=P.length\/mid=B.length+i0)->(j0=P.length+A.length\/j0=mid) ->
     ∀ K:Int->Option (List aC),(∀ u v:Nat,u<=A.length->v<=B.length->u+v+P.length=mid->(0<u->v<B.length->(ltL nd) (B.getD v default) (A.getD (u-1) default)=false)->(0<v->u<A.length->(ltL nd) (A.getD u default) (B.getD (v-1) default)=false) ->
      Sq b (K ((P.length+u:Nat):Int)) (fun d=>∃ C,d=P++(C++Q)/\C.Perm (A++B)/\Srt nd C)) ->
     Sq b ((cD (fun s=>(pO (P.length:Int) ((P.length+A.length:Nat):Int) ((P.length+A.length+B.length:Nat):Int) (P++(A++(B++Q))) nd s).den) ((i0:Int),(j0:Int))).bind (sel K some)) (fun d=>∃ C,d=P++(C++Q)/\C.Perm (A++B)/\Srt nd C):=by
    intro i0 j0 h1 h2 h3 h4 h5 h6 h7 K hK;refine Sq.bind _ (Gl b P A B Q hAB hA hB ho hn' i0 j0 mid hmid.symm h1 h2 h3 h4 h5) (fun z hz=>?_);cases z with
    | inr z=>exact hz.elim
    | inl z=>
     obtain⟨n,rfl,q1,q2,q3,q4⟩:=hz;simp only[sel];have:=hK (n-P.length) (mid-n) (by omega) (by omega) (by omega) (fun u1 u2=>?_) (fun u1 u2=>?_)
     ·rwa [show P.length+(n-P.length)=n by omega]at this
     ·have:=q3 (n-1) (by omega) (by omega)
      rwa [show mid-1-(n-1)=mid-n by omega,show n-1-P.length=n-P.length-1 by omega]at this
     ·have:=q4 n (by omega) (by omega);rw[show mid-1-n=mid-n-1 by omega]at this;exact zL this
   have body:∀ u v:Nat,u<=A.length->v<=B.length->u+v+P.length=mid->(0<u->v<B.length->(ltL nd) (B.getD v default) (A.getD (u-1) default)=false)->(0<v->u<A.length->(ltL nd) (A.getD u default) (B.getD (v-1) default)=false) ->
     Sq b ((if decide (((P.length+u:Nat):Int)<((P.length+A.length:Nat):Int))=true then some (decide (((P.length+A.length:Nat):Int)<IntKind.i64.wrap (IntKind.i64.wrap ((mid:Int)+((P.length+A.length:Nat):Int))-((P.length+u:Nat):Int)))) else some false).bind fun j27=>
      (if j27=true then (wF ((P.length+u:Nat):Int) ((P.length+A.length:Nat):Int) (IntKind.i64.wrap (IntKind.i64.wrap ((mid:Int)+((P.length+A.length:Nat):Int))-((P.length+u:Nat):Int))) (P++(A++(B++Q)))).bind (fun r=>some r) else some (P++(A++(B++Q)))).bind fun j28=>
      (if decide ((P.length:Int)<((P.length+u:Nat):Int))=true then some (decide (((P.length+u:Nat):Int)<(mid:Int))) else some false).bind fun j30=>
      (if j30=true then (f.1 ((P.length:Int),((P.length+u:Nat):Int),(mid:Int),j28,nd)).bind (fun r=>some r) else some j28).bind fun j31=>
      (if decide ((mid:Int)<IntKind.i64.wrap (IntKind.i64.wrap ((mid:Int)+((P.length+A.length:Nat):Int))-((P.length+u:Nat):Int)))=true then some (decide (IntKind.i64.wrap (IntKind.i64.wrap ((mid:Int)+((P.length+A.length:Nat):Int))-((P.length+u:Nat):Int))<((P.length+A.length+B.length:Nat):Int))) else some false).bind fun j33=>
      (if j33=true then (f.1 ((mid:Int),IntKind.i64.wrap (IntKind.i64.wrap ((mid:Int)+((P.length+A.length:Nat):Int))-((P.length+u:Nat):Int)),((P.length+A.length+B.length:Nat):Int),j31,nd)).bind (fun r=>some r) else some j31).bind fun j34=>some j34)
      (fun d=>∃ C,d=P++(C++Q)/\C.Perm (A++B)/\Srt nd C):=by
    intro u v hu hv huv f1 f2;have w2:IntKind.i64.wrap (IntKind.i64.wrap ((mid:Int)+((P.length+A.length:Nat):Int))-((P.length+u:Nat):Int))=((P.length+A.length+v:Nat):Int):=by rw[dP (by omega),eR (by omega) (by omega)]; congr 1; omega
    rw[w2];simp only[oF,Option.bind_some];have eA:=List.take_append_drop u A;have eB:=List.take_append_drop v B;have lA1:(A.take u).length=u:=by simp; omega
    have lB1:(B.take v).length=v:=by simp; omega
    have lA2:(A.drop u).length=A.length-u:=by simp
    have lB2:(B.drop v).length=B.length-v:=by simp
    have hs:P++(A++(B++Q))=(P++A.take u)++(A.drop u++(B.take v++(B.drop v++Q))):=by
     conv=>lhs; rw[<-eA,<-eB]
     simp only[List.append_assoc]
    refine Sq.bind (fun d=>d=P++(A.take u++(B.take v++(A.drop u++(B.drop v++Q))))) ?_ (fun j28 h28=>?_)
    ·by_cases hc:(((P.length+u:Nat):Int)<((P.length+A.length:Nat):Int))/\(((P.length+A.length:Nat):Int)<((P.length+A.length+v:Nat):Int))
     ·rw[if_pos (by simpa using hc)];rw[hs]at hn' ⊢;have h:=Js b (P++A.take u) (A.drop u) (B.take v) (B.drop v++Q) (fun h0=>by have:=congrArg List.length h0; simp only[List.length_drop,List.length_nil]at this; omega) (fun h0=>by have:=congrArg List.length h0; simp only[List.length_take,List.length_nil]at this; omega)
       ((P.length+u:Nat):Int) ((P.length+A.length:Nat):Int) ((P.length+A.length+v:Nat):Int) (by simp; omega) (by simp; omega) (by simp; omega) hn'
      refine Sq.bind _ h (fun d hd=>aB.2 ?_);rw[hd]; simp only[List.append_assoc]
     ·rw[if_neg (by simpa using hc)];refine aB.2 ?_;rw[hs];by_cases hu':u=A.length
      ·have:A.drop u=[]:=by subst hu'; simp
       rw[this]; simp
      ·have:v=0:=by omega
       subst this; simp
    subst h28;have oD:okTs nd (P++(A.take u++(B.take v++(A.drop u++(B.drop v++Q))))):=by refine ho.perm ?_;rw[hs];simp only[List.append_assoc];exact List.Perm.append_left _ (List.Perm.append_left _ (List.perm_append_comm_assoc _ _ _))
    refine Sq.bind (fun d=>∃ C,d=P++(C++(A.drop u++(B.drop v++Q)))/\C.Perm (A.take u++B.take v)/\Srt nd C) ?_ (fun j31 h31=>?_)
    ·by_cases hc:((P.length:Int)<((P.length+u:Nat):Int))/\(((P.length+u:Nat):Int)<(mid:Int))
     ·rw[if_pos (by simpa using hc)];have e:((P.length:Int),((P.length+u:Nat):Int),(mid:Int),P++(A.take u++(B.take v++(A.drop u++(B.drop v++Q)))),nd)=gQ nd P (A.take u) (B.take v) (A.drop u++(B.drop v++Q)):=by unfold gQ; rw[lA1,lB1,<-huv]; simp; omega
      rw[e];refine Sq.bind _ (hrec _ _ _ _ (fun x hx y hy=>hAB x (List.mem_of_mem_take hx) y (List.mem_of_mem_take hy)) (fun h0=>by have:=congrArg List.length h0; simp only[List.length_take,List.length_nil]at this; omega) (fun h0=>by have:=congrArg List.length h0; simp only[List.length_take,List.length_nil]at this; omega) (hA.take u) (hB.take v) oD (by simp; omega) (by omega)) (fun d hd=>aB.2 hd)
     ·rw[if_neg (by simpa using hc)];refine aB.2 ⟨A.take u++B.take v,by simp,.refl _,?_⟩;by_cases hu':u=0
      ·subst hu'; simpa using hB.take v
      ·have:v=0:=by omega
       subst this; simpa using hA.take u
    obtain⟨C,rfl,pC,sC⟩:=h31;have lC:C.length=u+v:=by rw[pC.length_eq]; simp; omega
    have fin:∀ D:List aC,D.Perm (A.drop u++B.drop v)->Srt nd D->Srt nd (C++D)/\(C++D).Perm (A++B):=fun D pD sD=>aFS hA hB hu hv f1 f2 pC pD sC sD;refine Sq.bind (fun d=>∃ C,d=P++(C++Q)/\C.Perm (A++B)/\Srt nd C) ?_ (fun j34 h34=>aB.2 h34);by_cases hc:((mid:Int)<((P.length+A.length+v:Nat):Int))/\(((P.length+A.length+v:Nat):Int)<((P.length+A.length+B.length:Nat):Int))
    ·rw[if_pos (by simpa using hc)];have e:((mid:Int),((P.length+A.length+v:Nat):Int),((P.length+A.length+B.length:Nat):Int),P++(C++(A.drop u++(B.drop v++Q))),nd)=gQ nd (P++C) (A.drop u) (B.drop v) Q:=by unfold gQ; rw[lA2,lB2,<-huv]; simp; omega
     rw[e];refine Sq.bind _ (hrec _ _ _ _ (fun x hx y hy=>hAB x (List.mem_of_mem_drop hx) y (List.mem_of_mem_drop hy)) (fun h0=>by have:=congrArg List.length h0; simp only[List.length_drop,List.length_nil]at this; omega) (fun h0=>by have:=congrArg List.length h0; simp only[List.length_drop,List.length_nil]at this; omega) (hA.drop u) (hB.drop v) ?_ (by simp; omega) (by omega)) (fun d hd=>?_)
     ·refine oD.perm ?_;rw[List.append_assoc];refine List.Perm.append_left _ ?_;rw[<-List.append_assoc];exact List.Perm.append_right _ pC.symm
     ·obtain⟨D,rfl,pD,sD⟩:=hd;exact aB.2 ⟨C++D,by simp,(fin D pD sD).2,(fin D pD sD).1⟩
    ·rw[if_neg (by simpa using hc)];have:=fin (A.drop u++B.drop v) (.refl _) (by
      by_cases hu':u=A.length
      ·have:A.drop u=[]:=by subst hu'; simp
       rw[this]; simpa using hB.drop v
      ·have:B.drop v=[]:=by rw[show v=B.length by omega]; simp
       rw[this]; simpa using hA.drop u)
     exact aB.2 ⟨C++(A.drop u++B.drop v),by simp,this.2,this.1⟩
   by_cases hm:mid<P.length+A.length
   ·rw[if_pos (by simp; omega)];simp only[Option.bind_some];rw[dP (n:=mid) (m:=P.length+A.length) (by omega),eR (n:=mid+(P.length+A.length)) (by omega) (by omega),<-dP (n:=mid) (m:=P.length+A.length) (by omega)];exact key (mid+(P.length+A.length)-(P.length+A.length+B.length)) mid (by omega) (by omega) (by omega) (by omega) (by omega) (by omega) (by omega) _ body
   ·rw[if_neg (by simp; omega)];simp only[Option.bind_some];exact key P.length (P.length+A.length) (by omega) (by omega) (by omega) (by omega) (by omega) (by omega) (by omega) _ body
theorem Lf(nd:aG)(P A B Q:List aC)(hAB:Bef A B)(hA0:A≠[])(hB0:B≠[])(hA:Srt nd A)(hB:Srt nd B)(ho:okTs nd (P++(A++(B++Q))))(hn:(P++(A++(B++Q))).length<=1000000000000000):
  Sp (Uv (P.length:Int) ((P.length+A.length:Nat):Int) ((P.length+A.length+B.length:Nat):Int) (P++(A++(B++Q))) nd) (fun d=>∃ C,d=P++(C++Q)/\C.Perm (A++B)/\Srt nd C):=by
 have h:=mH (C:=fun (a:Int×Int×Int×List aC×aG) (x:Option (List aC))=>fD Proofs.Tryz.prog 272 [.own 30000,.t (.int .i64 (a.1)),.t (.int .i64 (a.2.1)),.t (.int .i64 (a.2.2.1)),.fn (.func 176) 0 [.ptr 30001 0]] [(30000,.arr 50 3 (a.2.2.2.1.length) (eF aH a.2.2.2.1)),(30001,bN a.2.2.2.2)] [30000,30001] x (fun (y:List aC)=>.tup []) (fun (y:List aC)=>[(30000,aD y),(30001,bN a.2.2.2.2)]))
  (fun a=>⟨bU Proofs.Tryz.func272 (by kernel_rfl),fun _ h=>nomatch h⟩) (fun rec a=>Aj rec a.1 a.2.1 a.2.2.1 a.2.2.2.1 a.2.2.2.2) (fun rec a=>Kp rec a.1 a.2.1 a.2.2.1 a.2.2.2.1 a.2.2.2.2)
  (aYG nd) (fun a=>(a.2.2.1-a.1).toNat) (aSS nd) (fun b f a ha hrec=>?_) true (gQ nd P A B Q) ⟨P,A,B,Q,rfl,hAB,hA0,hB0,hA,hB,ho,hn⟩
 ·exact h.imp fun d hd=>hd P A B Q rfl
 ·obtain⟨P,A,B,Q,rfl,hAB,hA0,hB0,hA,hB,ho,hn⟩:=ha;refine(aUS b f P A B Q hAB hA0 hB0 hA hB ho hn (fun P' A' B' Q' a0 a1 a2 a3 a4 a5 a6 a7=>?_)).imp fun d hd P' A' B' Q' he=>?_
  ·exact(hrec (gQ nd P' A' B' Q') ⟨P',A',B',Q',rfl,a0,a1,a2,a3,a4,a5,a6⟩ (by simp only[gQ]; omega)).imp fun d hd=>hd P' A' B' Q' rfl
  ·obtain⟨rfl,rfl,rfl,rfl⟩:=Ah he;exact hd
def eX(nd:aG)(a b:Nat)(l:List aC):Prop:=∀ i j,a<=i->i<j->j<b->(ltL nd) (l.getD j default) (l.getD i default)=false
structure PI (a b:Nat)(l d:List aC):Prop where
 len:d.length=l.length
 out:∀ k,k<a\/b<=k->d.getD k default=l.getD k default
 perm:d.Perm l
 mem:∀ k,a<=k->k<b->∃ k',a<=k'/\k' < b/\d.getD k default=l.getD k' default
theorem eX.congr{b:Nat}{d:List aC}(h:eX nd a b l)(he:∀ k,a<=k->k<b->d.getD k default=l.getD k default):eX nd a b d:=by intro i j h1 h2 h3;rw[he i h1 (by omega),he j (by omega) h3];exact h i j h1 h2 h3
theorem eX.sub{b a' b':Nat}(h:eX nd a b l)(h1:a<=a')(h2:b'<=b):eX nd a' b' l:=fun i j q1 q2 q3=>h i j (by omega) q2 (by omega)
theorem tR(nd:aG)(a m b:Nat)(l:List aC)(h1:a<m)(h2:m<b)(h3:b<=l.length)(ha:eX nd a m l)(hb:eX nd m b l)(hD:∀ i j,a<=i->i<m->m<=j->j<b->dJ (l.getD i default) (l.getD j default)<0)(ho:okTs nd l)(hn:l.length<=1000000000000000):
  Sp (Uv (a:Int) (m:Int) (b:Int) l nd) (fun d=>PI a b l d/\eX nd a b d):=by
 have e:l=l.take a++((l.drop a).take (m-a)++((l.drop m).take (b-m)++l.drop b)):=by
  have e1:l.drop m=(l.drop m).take (b-m)++l.drop b:=by
   conv=>lhs; rw[<-List.take_append_drop (b-m) (l.drop m)]
   rw[List.drop_drop,show m+(b-m)=b by omega]
  have e2:l.drop a=(l.drop a).take (m-a)++l.drop m:=by
   conv=>lhs; rw[<-List.take_append_drop (m-a) (l.drop a)]
   rw[List.drop_drop,show a+(m-a)=m by omega]
  rw[<-e1,<-e2,List.take_append_drop]
 have lP:(l.take a).length=a:=by simp; omega
 have lA:((l.drop a).take (m-a)).length=m-a:=by simp; omega
 have lB:((l.drop m).take (b-m)).length=b-m:=by simp; omega
 have gA:∀ k,k<m-a->((l.drop a).take (m-a)).getD k default=l.getD (a+k) default:=by intro k hk;rw[bK (by omega),bK (by omega)]; simp
 have gB:∀ k,k<b-m->((l.drop m).take (b-m)).getD k default=l.getD (m+k) default:=by intro k hk;rw[bK (by omega),bK (by omega)]; simp
 have hBef:Bef ((l.drop a).take (m-a)) ((l.drop m).take (b-m)):=fun x hx y hy=>by obtain⟨i,i1,i2,rfl⟩:=dT hx;obtain⟨j,j1,j2,rfl⟩:=dT hy;have e3:=gA i i1;have e4:=gB j j1;rw[bK (by omega),List.getElem_take,<-bK i2]at e3;rw[bK (by omega),List.getElem_take,<-bK j2]at e4;rw[e3,e4];exact hD _ _ (by omega) (by omega) (by omega) (by omega)
 have h:=Lf nd (l.take a) ((l.drop a).take (m-a)) ((l.drop m).take (b-m)) (l.drop b) hBef (fun h0=>by rw[h0]at lA; simp at lA; omega) (fun h0=>by rw[h0]at lB; simp at lB; omega)
  (qF fun i j hij hj=>by rw[gA i (by omega),gA j (by omega)]; exact ha _ _ (by omega) (by omega) (by omega))
  (qF fun i j hij hj=>by rw[gB i (by omega),gB j (by omega)]; exact hb _ _ (by omega) (by omega) (by omega)) (by rw[<-e]; exact ho) (by rw[<-e]; exact hn)
 rw[lP,lA,lB,<-e,show a+(m-a)=m by omega,show m+(b-m)=b by omega]at h;refine h.imp fun d hd=>?_;obtain⟨C,rfl,pC,sC⟩:=hd;have lC:C.length=b-a:=by rw[pC.length_eq,List.length_append,lA,lB]; omega
 have lD:(l.drop b).length=l.length-b:=by simp
 refine⟨⟨by rw[List.length_append,List.length_append,lP,lC,lD]; omega,fun k hk=>?_,?_,?_⟩,?_⟩
 ·rcases hk with hk | hk
  ·rw[bE,if_pos (by omega),bK (by omega)];by_cases hl:k<l.length
   ·rw[bK hl]; simp
   ·omega
  ·rw[bE,if_neg (by omega),bE,if_neg (by omega),lP,lC];by_cases hl:k<l.length
   ·rw[bK (by omega),bK hl]; simp; congr 1; omega
   ·rw[List.getD_eq_getElem?_getD,List.getElem?_eq_none (by omega),List.getD_eq_getElem?_getD,List.getElem?_eq_none (by omega)]
 ·conv=>rhs; rw[e]
  refine List.Perm.append_left _ ?_;rw[<-List.append_assoc];exact List.Perm.append_right _ pC
 ·intro k k1 k2;rw[bE,if_neg (by omega),bE,if_pos (by omega),lP];rcases List.mem_append.1 (pC.mem_iff.1 (aR (show k-a<C.length by omega))) with hx | hx
  ·obtain⟨i,i1,i2,h5⟩:=dT hx;rw[h5];have e3:=gA i i1;rw[bK (by omega),List.getElem_take,<-bK i2]at e3;exact⟨a+i,by omega,by omega,e3⟩
  ·obtain⟨j,j1,j2,h5⟩:=dT hx;rw[h5];have e4:=gB j j1;rw[bK (by omega),List.getElem_take,<-bK j2]at e4;exact⟨m+j,by omega,by omega,e4⟩
 ·intro i j q1 q2 q3;rw[bE,if_neg (by omega),bE,if_pos (by omega),bE,if_neg (by omega),bE,if_pos (by omega)];exact sC.get (by omega) (by omega)
theorem xS(nd:aG)(a b:Nat)(l:List aC)(hab:a<=b)(hb:b<=l.length)(hD:∀ k m,a<=k->k<m->m<b->dJ (l.getD k default) (l.getD m default)<0)(ho:okTs nd l)(hn:l.length<=1000000000000000):Sp (Lg (a:Int) (b:Int) l nd) (fun d=>PI a b l d/\eX nd a b d):=by
 refine Sq.of_eq (Zr nd a b l hb hab hn ho hD) ?_;have h:=Sort.insertionSort_holds (iY nd) l.toArray a b hab (by simpa using hb);obtain⟨⟨h1,h2,h3⟩,h4⟩:=h;have g:∀ (k:Nat),(Sort.insertionSort (ltL nd) l.toArray a b).toList.getD k default=(Sort.insertionSort (ltL nd) l.toArray a b)[k]!:=fun k=>by rw[<-fZ]
 refine⟨⟨by simpa using h1,fun k hk=>by rw[g,h2 k hk,fZ],?_,fun k k1 k2=>?_⟩,fun i j q1 q2 q3=>by rw[g,g]; exact h4 i j q1 q2 q3⟩;have h5:=Sort.permIn_mono _ _ a b 0 l.length (by omega) (by omega) (by simp) (show Sort.PermIn a b l.toArray (Sort.insertionSort (ltL nd) l.toArray a b) from ⟨h1,h2,h3⟩);have h6:=h5.2.2;rw[show l.length=l.toArray.size by simp]at h6;rw[show (Sort.insertionSort (ltL nd) l.toArray a b).extract 0 l.toArray.size=Sort.insertionSort (ltL nd) l.toArray a b by rw[<-h1]; simp]at h6;simpa using h6;have hm:(Sort.insertionSort (ltL nd) l.toArray a b)[k]! ∈ ((Sort.insertionSort (ltL nd) l.toArray a b).extract a b).toList:=by
  have hs:k<(Sort.insertionSort (ltL nd) l.toArray a b).size:=by rw[h1]; simp; omega
  rw[getElem!_pos (Sort.insertionSort (ltL nd) l.toArray a b) k hs];rw[Array.toList_extract];rw[List.extract_eq_take_drop];refine List.mem_iff_getElem.2 ⟨k-a,by simp; omega,?_⟩;simp[show a+(k-a)=k by omega]
 have hm2:=h3.mem_iff.1 hm;rw[Array.toList_extract,List.extract_eq_take_drop]at hm2;obtain⟨j,j1,j2,h7⟩:=dT hm2;simp only[List.length_drop]at j2;refine⟨a+j,by omega,by omega,?_⟩;rw[g,h7];rw[bK (by simp; omega),bK (by omega)];simp
theorem aIA(hw:0<w)(h:i / (2*w)<j / (2*w)):i / w<j / w:=by refine Nat.lt_of_not_le fun h1=>?_;rw[Nat.mul_comm,<-Nat.div_div_eq_div_mul,<-Nat.div_div_eq_div_mul]at h;have:=Nat.div_le_div_right (c:=2) h1;omega
theorem aCB(hw:0<w)(ha:w∣a)(h1:a<=i)(h2:i<a+w)(h3:a+w<=j):i / w<j / w:=by obtain⟨c,rfl⟩:=ha;have e1:i / w=c:=Nat.div_eq_of_lt_le (by rw[Nat.mul_comm]; exact h1) (by rw[Nat.add_mul,Nat.mul_comm c w]; omega);have e2:c+1<=j / w:=(Nat.le_div_iff_mul_le hw).2 (by rw[Nat.add_mul,Nat.mul_comm c w]; omega);omega
theorem Ps(hw:0<w)(ha:w∣a)(h1:a<=i)(h2:i<a+w)(h3:a<=j)(h4:j<a+w):i / w=j / w:=by obtain⟨c,rfl⟩:=ha;have e:∀ q,w*c<=q->q<w*c+w->q / w=c:=fun q q1 q2=>Nat.div_eq_of_lt_le (by rw[Nat.mul_comm]; exact q1) (by rw[Nat.add_mul,Nat.mul_comm c w]; omega);rw[e i h1 h2,e j h3 h4]
theorem aRS{n:Nat}{d d':List aC}(ha:w∣a)(hn:a+w<=n)(hp:PI a (a+w) d d')(h:∀ i j,j<n->i / w<j / w->dJ (d.getD i default) (d.getD j default)<0):∀ i j,j<n->i / w<j / w->dJ (d'.getD i default) (d'.getD j default)<0:=by
 intro i j j1 j2;by_cases hw:w=0
 ·subst hw; simp at j2
 have src:∀ q,q<n->∃ q',q' < n/\q' / w=q / w/\d'.getD q default=d.getD q' default:=fun q hq=>by
  by_cases r0:a<=q/\q<a+w
  ·obtain⟨q',r1,r2,r3⟩:=hp.mem q r0.1 r0.2;exact⟨q',by omega,Ps (by omega) ha r1 r2 r0.1 r0.2,r3⟩
  ·exact⟨q,hq,rfl,hp.out q (by omega)⟩
 have hij:i<j:=Nat.lt_of_not_le fun h=>by have:=Nat.div_le_div_right (c:=w) h; omega
 obtain⟨i',i1,i2,i3⟩:=src i (by omega);obtain⟨j',m1,m2,m3⟩:=src j j1;rw[i3,m3];exact h i' j' m1 (by rw[i2,m2]; exact j2)
theorem aAP(nd:aG)(l:List aC)(hP:l.Pairwise (fun x y=>dJ x y<0))(ho:okTs nd l)(hn:l.length<=100000000000000):Sp (Sw (l.length:Int) l nd) (fun d=>d.Perm l/\Srt nd d):=by
 have hL:∀ i j,i<j->j<l.length->dJ (l.getD i default) (l.getD j default)<0:=fun i j h1 h2=>by rw[bK h2,bK (show i<l.length by omega)];exact List.pairwise_iff_getElem.1 hP i j (by omega) h2 h1
 unfold Sw Rw;simp only[Tr.den,bX];refine Sq.while (fun s:List aC×Int×Int=>∃ a:Nat,s.2.1=a/\s.2.2=((a+20:Nat):Int)/\20∣a/\a<=l.length/\s.1.Perm l/\(∀ c,20∣c->c+20<=a->eX nd c (c+20) s.1)/\(∀ k,a<=k->s.1.getD k default=l.getD k default)/\∀ i j,j<l.length->i / 20<j / 20->dJ (s.1.getD i default) (s.1.getD j default)<0) (fun s=>(l.length-s.2.1).toNat) (fun s hs=>?_)
  ⟨0,rfl,rfl,by simp,by omega,.refl _,fun c h1 h2=>by omega,fun _ _=>rfl,fun i j h1 h2=>hL i j (by omega) h1⟩
 obtain⟨d,i,j⟩:=s;obtain⟨a,h1,h2,h3,h4,h5,h6,h7,h8⟩:=hs;simp only at h1 h2 h5 h6 h7 h8;subst h1 h2;have hlen:=h5.length_eq;unfold Ji;simp only[Tr.den];by_cases hc:a+20<=l.length
 ·rw[if_pos (by simp; omega)];refine bX.2 ((xS nd a (a+20) d (by omega) (by omega) (fun k m k1 k2 k3=>by rw[h7 k k1,h7 m (by omega)]; exact hL k m k2 (by omega)) (ho.perm h5.symm) (by omega)).imp fun d' hd'=>?_);rw[bF (by omega) (by omega)];refine aB.2 ⟨⟨a+20,rfl,by simp,?_,hc,hd'.1.perm.trans h5,fun c q1 q2=>?_,fun k hk=>by rw[hd'.1.out k (.inr (by omega))]; exact h7 k (by omega),aRS h3 (by omega) hd'.1 h8⟩,by simp only; omega⟩
  ·omega
  ·by_cases hca:c<a
   ·exact(h6 c q1 (jH h3 q1 hca)).congr fun k k1 k2=>hd'.1.out k (.inl (by have:=jH h3 q1 hca; omega))
   ·have:c=a:=by omega
    subst this; exact hd'.2
 ·rw[if_neg (by simp; omega)];refine aB.2 ?_;simp only[sel];refine bX.2 ((xS nd a l.length d h4 (by omega) (fun k m k1 k2 k3=>by rw[h7 k k1,h7 m (by omega)]; exact hL k m k2 k3) (ho.perm h5.symm) (by omega)).imp fun d2 hd2=>?_);obtain⟨p2,s2⟩:=hd2;have hp2:d2.Perm l:=p2.perm.trans h5;have b2:∀ c,20∣c->eX nd c (min (c+20) l.length) d2:=by
   intro c hc';by_cases hca:c<a
   ·have:=jH h3 hc' hca;exact((h6 c hc' this).congr fun k k1 k2=>p2.out k (.inl (by omega))).sub (by omega) (by omega)
   ·exact s2.sub (by omega) (by omega)
  have x2:∀ i j,j<l.length->i / 20<j / 20->dJ (d2.getD i default) (d2.getD j default)<0:=fun i j j1 j2=>by
   obtain⟨a',rfl⟩:=h3;have src:∀ q,q<l.length->∃ q',q' < l.length/\q' / 20=q / 20/\d2.getD q default=d.getD q' default:=fun q hq=>by
    by_cases q1:q<20*a'
    ·exact⟨q,hq,rfl,p2.out q (.inl q1)⟩
    ·obtain⟨q',r1,r2,r3⟩:=p2.mem q (by omega) hq;exact⟨q',r2,by omega,r3⟩
   obtain⟨i',i1,i2,i3⟩:=src i (by omega);obtain⟨j',k1,k2,k3⟩:=src j j1;rw[i3,k3];exact h8 i' j' k1 (by omega)
  clear h6 p2 s2 h7 h8;refine bX.2 ?_;refine Sq.while (fun s:List aC×Int=>∃ w:Nat,s.2=w/\0<w/\w<=400000000000000/\s.1.Perm l/\(∀ c,w∣c->eX nd c (min (c+w) l.length) s.1)/\∀ i j,j<l.length->i / w<j / w->dJ (s.1.getD i default) (s.1.getD j default)<0) (fun s=>(l.length-s.2).toNat) (fun s hs=>?_) ⟨20,rfl,by omega,by omega,hp2,b2,x2⟩;obtain⟨d,i⟩:=s;obtain⟨w,k1,k2,k3,k4,k5,k6⟩:=hs;simp only at k1 k4 k5 k6;subst k1;unfold Kx;simp only[Tr.den];by_cases hw:w<l.length
  ·rw[if_pos (by simp; omega)];have e2w:IntKind.i64.wrap (2*(w:Int))=((2*w:Nat):Int):=by rw[bF] <;> omega
   rw[e2w];refine bX.2 ?_;refine Sq.while (fun s:List aC×Int×Int=>∃ a:Nat,s.2.1=a/\s.2.2=((a+2*w:Nat):Int)/\(2*w)∣a/\a<=l.length/\s.1.Perm l/\(∀ c,(2*w)∣c->c+2*w<=a->eX nd c (c+2*w) s.1)/\(∀ c,w∣c->a<=c->eX nd c (min (c+w) l.length) s.1)/\(∀ k,a<=k->s.1.getD k default=d.getD k default)/\∀ i j,j<l.length->i / (2*w)<j / (2*w)->dJ (s.1.getD i default) (s.1.getD j default)<0) (fun s=>(l.length-s.2.1).toNat) (fun s hs=>?_)
    ⟨0,rfl,by simp,by simp,by omega,k4,fun c q1 q2=>by omega,fun c q1 q2=>k5 c q1,fun _ _=>rfl,fun i j j1 j2=>k6 i j j1 (aIA k2 j2)⟩
   have hd0:=k4.length_eq;obtain⟨d1,i,j⟩:=s;obtain⟨a,g1,g2,g3,g4,g5,g6,g7,g8,g9⟩:=hs;simp only at g1 g2 g5 g6 g7 g8 g9;have cross:∀ i j,a<=i->i<a+w->a+w<=j->j<l.length->dJ (d1.getD i default) (d1.getD j default)<0:=fun i j i1 i2 j1 j2=>by rw[g8 i i1,g8 j (by omega)];exact k6 i j j2 (aCB k2 (Nat.dvd_trans ⟨2,by omega⟩ g3) i1 i2 j1)
   subst g1 g2;have hlen:=g5.length_eq;have gw:w∣a:=Nat.dvd_trans ⟨2,by omega⟩ g3;have gw':w∣a+w:=Nat.dvd_add gw (Nat.dvd_refl w);unfold It;simp only[Tr.den];by_cases hb:a+2*w<=l.length
   ·rw[if_pos (by simp; omega),dP (by omega),e2w,dP (by omega)];refine bX.2 ((tR nd a (a+w) (a+2*w) d1 (by omega) (by omega) (by omega) ((g7 a gw (by omega)).sub (by omega) (by omega)) ((g7 (a+w) gw' (by omega)).sub (by omega) (by omega)) (fun i j i1 i2 j1 j2=>cross i j i1 i2 j1 (by omega)) (ho.perm g5.symm) (by omega)).imp fun d' hd'=>?_);refine aB.2 ⟨⟨a+2*w,rfl,rfl,Nat.dvd_add g3 (Nat.dvd_refl _),hb,hd'.1.perm.trans g5,fun c q1 q2=>?_,fun c q1 q2=>?_,fun k hk=>?_,?_⟩,by simp only; omega⟩
    ·by_cases hca:c<a
     ·have:=jH g3 q1 hca;exact(g6 c q1 this).congr fun k k1 k2=>hd'.1.out k (.inl (by omega))
     ·have:c=a:=by omega
      subst this; exact hd'.2
    ·exact(g7 c q1 (by omega)).congr fun k k1 k2=>hd'.1.out k (.inr (by omega))
    ·rw[hd'.1.out k (.inr (by omega))]; exact g8 k (by omega)
    ·exact aRS g3 (by omega) hd'.1 g9
   ·rw[if_neg (by simp; omega)];refine aB.2 ?_;simp only[sel];rw[dP (by omega)];refine Sq.bind (fun d'=>d'.Perm l/\eX nd a l.length d'/\(∀ k,k<a->d'.getD k default=d1.getD k default)/\∀ k,a<=k->k<l.length->∃ k',a<=k'/\k' < l.length/\d'.getD k default=d1.getD k' default) ?_ (fun d' hd'=>?_)
    ·by_cases hm:a+w<l.length
     ·rw[if_pos (by simp; omega)];refine bX.2 ((tR nd a (a+w) l.length d1 (by omega) (by omega) (by omega) ((g7 a gw (by omega)).sub (by omega) (by omega)) ((g7 (a+w) gw' (by omega)).sub (by omega) (by omega)) (fun i j i1 i2 j1 j2=>cross i j i1 i2 j1 (by omega)) (ho.perm g5.symm) (by omega)).imp fun d' hd'=>?_);exact aB.2 ⟨hd'.1.perm.trans g5,hd'.2,fun k hk=>hd'.1.out k (.inl hk),hd'.1.mem⟩
     ·rw[if_neg (by simp; omega)];exact aB.2 ⟨g5,(g7 a gw (by omega)).sub (by omega) (by omega),fun _ _=>rfl,fun k k1 k2=>⟨k,k1,k2,rfl⟩⟩
    ·obtain⟨q1,q2,q3,q4⟩:=hd';rw[show IntKind.i64.wrap ((w:Int)*2)=((2*w:Nat):Int) by rw[bF] <;> omega];refine aB.2 ⟨⟨2*w,rfl,by omega,by omega,q1,fun c hc'=>?_,fun i j j1 j2=>?_⟩,by simp only; omega⟩;by_cases hca:c<a
     ·have:=jH g3 hc' hca;exact((g6 c hc' this).congr fun k k1 k2=>q3 k (by omega)).sub (by omega) (by omega)
     ·exact q2.sub (by omega) (by omega)
     ·have src:∀ q,q<l.length->∃ q',q' < l.length/\q' / (2*w)=q / (2*w)/\d'.getD q default=d1.getD q' default:=fun q hq=>by
       by_cases r0:q<a
       ·exact⟨q,hq,rfl,q3 q r0⟩
       ·obtain⟨q',r1,r2,r3⟩:=q4 q (by omega) hq;exact⟨q',r2,Ps (by omega) g3 r1 (by omega) (by omega) (by omega),r3⟩
      have hij:i<j:=Nat.lt_of_not_le fun h=>by have:=Nat.div_le_div_right (c:=2*w) h; omega
      obtain⟨i',i1,i2,i3⟩:=src i (by omega);obtain⟨j',m1,m2,m3⟩:=src j j1;rw[i3,m3];exact g9 i' j' m1 (by rw[i2,m2]; exact j2)
  ·rw[if_neg (by simp; omega)];refine aB.2 ?_;simp only[sel];refine aB.2 ⟨k4,qF fun i j hij hj=>?_⟩;have:=k5 0 (by simp);rw[k4.length_eq]at hj;exact this i j (by omega) hij (by omega)
theorem G63s1_sp(nd:aG)(l:List aC)(hP:l.Pairwise (fun x y=>dJ x y<0))(ho:okTs nd l)(hn:l.length<=100000000000000):Sp (Fd l nd) (fun d=>d.Perm l/\Srt nd d):=by unfold Fd aFD;simp only[Tr.den,bX];exact(aAP nd l hP ho hn).imp fun d hd=>aB.2 hd
end
end Go.PL.St
namespace Go.PL
open Go
set_option linter.unusedVariables false
set_option maxRecDepth 20000
variable {A B a l:List aC} {d:aC} {fs:List aU} {n:aG} {ta ts:List Int}
theorem aNC{R:List aC}(hw:okW R){a:aC}(ha:a.Row.length<=1000)(hn:rR a.N):okD (pI n R a):=by
 unfold pI;split
 ·have:=aEH (n:=n) (i:=0) (l:=[a]) (r:=R) (fun d hd=>by rw[bZ.1 hd]; exact ha) hw;simpa[aRP] using this
 ·have:=aHF (n:=n) (l:=[a]) (r:=R) (fun d hd=>by rw[bZ.1 hd]; exact ha) hw (fun d hd=>by rw[bZ.1 hd]; exact hn);simpa[aRU] using this
theorem Qs(n:aG)(R:List aC)(a:aC):(pI n R a).length<=R.length+1:=by
 unfold pI;split
 ·exact gZ (Zj n 0 R a) (by omega)
 ·exact gZ (Jj n R a) (by omega)
theorem Nf(hA:okI n 0 A)(hB:okI n 1 B):okD (sI n A B):=by unfold sI;refine Ev fun a ha=>aNC (fun d hd=>hB.r d (eH.1 hd).1) (hA.r a ha) (hA.n a ha)
theorem Fi{c:Nat}(hB:B.length<=c):(sI n A B).length<=A.length*(c+1):=by unfold sI;refine tF (fun a=>?_) A;have h1:=Qs n (ofK n 1 (kd n 0 a) B) a;have h2:=iW n 1 (kd n 0 a) B;omega
def nz(d:aC):Bool:=!(d.N==0)
theorem Vx(d:aC):aWK d=some (!nz d):=by unfold aWK aYD nz;simp only[Tr.den,Bool.not_not]
theorem aBY(l:List aC)(hn:l.length<=1000000000000):
  Sp (Rq l) (fun r=>(r = -1/\∀ x,x∈l->nz x=true)\/∃ k:Nat,r=k/\k<l.length/\(∀ x,x∈l.take k->nz x=true)/\nz (l.getD k default)=false):=by
 unfold Rq Un;simp only[Tr.den,bX];refine Sq.while (fun s:Int=>∃ k:Nat,s=k/\k<=l.length/\∀ x,x∈l.take k->nz x=true) (fun s=>(l.length-s).toNat) (fun s hs=>?_) ⟨0,rfl,by omega,by simp⟩;obtain⟨k,rfl,h1,h2⟩:=hs;unfold Iz;simp only[Tr.den,aQ];by_cases hk:k<l.length
 ·rw[aA (bO (by omega)),aA (by omega),aA hk,Vx];simp only[aI];cases ha:nz (l.getD k default) with
  | true=>
   rw[aE (by simp),aK (by omega)];refine aB.2 ⟨⟨k+1,rfl,by omega,fun x hx=>?_⟩,by omega⟩;rw[aL hk,dE,bZ]at hx;rcases hx with hx | rfl
   ·exact h2 x hx
   ·exact ha
  | false=>rw[aA (by simp)];exact aB.2 (aB.2 (.inr ⟨k,rfl,hk,h2,ha⟩))
 ·rw[aE (cB (by omega))];refine aB.2 (aB.2 (.inl ⟨rfl,?_⟩))
  rwa [kV (by omega)]at h2
theorem aJM(l:List aC)(hn:l.length<=1000000000000):Sp (aFU l) (fun d=>d=l.filter nz):=by
 unfold aFU aDO;simp only[Tr.den];refine Sq.bind _ (aBY l hn) (fun r hr=>?_);rcases hr with⟨rfl,h⟩ | ⟨k,rfl,h1,h2,h3⟩
 ·rw[aA (dI rfl)];refine aB.2 ?_;exact(Hf.2 h).symm
 ·rw[aE (cZ (by omega)),aK (by omega)];simp only[bX];refine Sq.while (fun s:List aC×Int×Int=>∃ i j:Nat,s.2.1=i/\s.2.2=j/\i<j/\j<=l.length/\s.1.length=l.length/\s.1.take i=(l.take j).filter nz/\s.1.drop j=l.drop j) (fun s=>(l.length-s.2.2).toNat) (fun s hs=>?_)
   ⟨k,k+1,rfl,rfl,by omega,by omega,rfl,?_,rfl⟩
  ·obtain⟨d,i,j⟩:=s;obtain⟨i,j,e1,e2,q1,q2,q3,q4,q5⟩:=hs;simp only at e1 e2 q3 q4 q5;subst e1 e2;unfold Qm;simp only[Tr.den,aQ];by_cases hj:j<l.length
   ·have gj:d.getD j default=l.getD j default:=by have:=congrArg (fun x:List aC=>x.getD 0 default) q5;rw[cU (show j<d.length by omega),cU hj]at this;simpa using this
    rw[aA (bO (by omega)),aA (by omega),aA (by omega),gj,Vx];simp only[aI,Bool.not_not];cases ha:nz (l.getD j default) with
    | true=>
     rw[aA rfl,aA (by omega),aA (by omega)];refine bX.2 (oQ (by simp; omega) (aB.2 ?_));rw[aK (by omega),aK (by omega)];refine aB.2 ⟨⟨i+1,j+1,rfl,rfl,by omega,by omega,by simp; omega,?_,?_⟩,by simp only; omega⟩
     ·rw[aL (show i<(d.set i (l.getD j default)).length by simp; omega),aL hj,zD,jG,aA ⟨rfl,by omega⟩];rw[List.take_set_of_le (cS i),q4,Gg ha,Ao]
     ·rw[List.drop_set_of_lt (by omega)];have:=congrArg (List.drop 1) q5;rw[wY,wY]at this;exact this
    | false=>
     rw[aE (by simp)];simp only[aI];rw[aK (by omega)];refine aB.2 ⟨⟨i,j+1,rfl,rfl,by omega,by omega,q3,?_,?_⟩,by simp only; omega⟩
     ·rw[aL hj,zD,q4,zJ (by rw[ha]; simp),Ao,fN]
     ·have:=congrArg (List.drop 1) q5;rw[wY,wY]at this;exact this
   ·rw[aE (cB (by omega))];refine aB.2 ?_;simp only[sel,aQ];have e:(d.take i++List.replicate (d.length-i) default).take i=d.take i:=by rw[Es (by simp; omega),List.take_take,Nat.min_self]
    rw[aA (by omega),aA (by simp; omega),e,q4,kV (by omega)];exact aB.2 rfl
  ·rw[aL h1,zD,Hf.2 h2,zJ (by rw[h3]; simp),Ao,fN]
structure Hj (d out:List aC)(k:Nat):Prop where
 lt:out.Pairwise (fun x y=>dJ x y<0)
 n64:∀ x,x∈out->rR x.N
 ok:kH out
 len:out.length<=k
 last:0<k->out≠[]/\pl (out.getD (out.length-1) default)=pl (d.getD (k-1) default)
 wt:∀ p,W (wt p out)=W (wt p (d.take k))
theorem Kg{α:Type}[Inhabited α]{l:List α}(h:l≠[]):∃ r x,l=r++[x]/\l.getD (l.length-1) default=x/\r.length=l.length-1:=by refine⟨l.dropLast,l.getLast h,(List.dropLast_concat_getLast h).symm,?_,by simp⟩;have h0:0<l.length:=fL.2 h;rw[bK (by omega),List.getLast_eq_getElem]
theorem aVE{out:List aC}(h1:out.Pairwise (fun x y=>dJ x y<0))(h2:∀ x,x∈out->rR x.N):Can (out.filter nz) where
 lt:=At jC h1
 nz:=fun x hx=>by have:=(iD.1 hx).2;unfold nz at this;intro h0;rw[h0]at this;cases this
 n64:=fun x hx=>h2 x (iD.1 hx).1
theorem aRJ(p:Pl->Bool):∀ l:List aC,wt p (l.filter nz)=wt p l
 | []=>rfl
 | x::l=>by
  have ih:=aRJ p l;by_cases h:x.N=0
  ·rw[zJ (by unfold nz; rw[h]; simp),ih];simp only[wt,h];split <;> omega
  ·rw[Gg (by unfold nz; rw[lV]; exact Bool.eq_false_iff.2 (cZ h))];simp only[wt,ih]
theorem aNV{d out:List aC}{k:Nat}(hk:k<d.length)(hs:Srt d)(ho:kH d)(hN:okN d)(h:Hj d out k):
  (0<k->pl (out.getD (out.length-1) default)=pl (d.getD k default)->Hj d (out.set (out.length-1) ⟨(out.getD (out.length-1) default).Time,(out.getD (out.length-1) default).Row,W ((out.getD (out.length-1) default).N+(d.getD k default).N)⟩) (k+1)) /\
  ((k=0\/pl (out.getD (out.length-1) default)≠pl (d.getD k default))->Hj d (out++[⟨(d.getD k default).Time,(d.getD k default).Row,(d.getD k default).N⟩]) (k+1)):=by
 have hmem:=aR hk;constructor
 ·intro h0 he;obtain⟨hne,hl⟩:=h.last h0;obtain⟨r,x,e1,e2,e3⟩:=Kg hne;rw[e2]at he hl ⊢;have hset:out.set (out.length-1) ⟨x.Time,x.Row,W (x.N+(d.getD k default).N)⟩=r++[⟨x.Time,x.Row,W (x.N+(d.getD k default).N)⟩]:=by rw[<-e3,e1];simp
  have e4:pl (⟨x.Time,x.Row,W (x.N+(d.getD k default).N)⟩:aC)=pl x:=rfl;have hp:=h.lt;rw[e1]at hp;obtain⟨p1,_,p3⟩:=lM.1 hp;rw[hset];have hlen:=h.len;have hrl:r.length+1=out.length:=by rw[e1]; simp
  refine⟨lM.2 ⟨p1,oO _ _,fun a ha b hb=>?_⟩,fun y hy=>?_,fun y hy=>?_,by simp; omega,fun _=>⟨by simp,?_⟩,fun p=>?_⟩
  ·rw[bZ.1 hb,nP (x':=a) (y':=x) rfl e4];exact p3 a ha x (bZ.2 rfl)
  ·rcases dE.1 hy with hy | hy
   ·exact h.n64 y (by rw[e1]; exact nE _ hy)
   ·rw[bZ.1 hy]; exact aPY _
  ·rcases dE.1 hy with hy | hy
   ·exact h.ok y (by rw[e1]; exact nE _ hy)
   ·rw[bZ.1 hy]; exact h.ok x (by rw[e1]; simp)
  ·rw[bE,aE (by simp)];simp only[bQ,dN,Nat.add_sub_cancel,qM];exact e4.trans he
  ·have hw:=h.wt p;rw[e1,iL]at hw;rw[iL,aL hk,iL];have hw':W (wt p r+wt p [x]+wt p [d.getD k default])=W (wt p (d.take k)+wt p [d.getD k default]):=vN hw rfl;rw[<-hw'];simp only[wt,e4,he];split
   ·have:=vN (a:=wt p r) (c:=wt p r) (b:=W (x.N+(d.getD k default).N)) (d:=x.N+(d.getD k default).N) rfl (W_W _);rw[Int.add_zero,this]
    congr 1; omega
   ·congr 1; omega
 ·intro hc;have hgt:∀ a,a∈out->dJ a (d.getD k default)<0:=by
   intro a ha;have hk0:0<k:=by refine Nat.pos_of_ne_zero fun h0=>?_;have:=h.len;have:out=[]:=rK (by omega);rw[this]at ha; cases ha
   obtain⟨hne,hl⟩:=h.last hk0;have hc':=hc.resolve_left (by omega);obtain⟨r,x,e1,e2,e3⟩:=Kg hne;rw[e2]at hl hc';have hx:dJ x (d.getD k default)<0:=by
    have hle:=hs.get (i:=k-1) (j:=k) (by omega) hk;have h1:¬ dJ (d.getD k default) x<0:=by rw[nP (x':=d.getD k default) (y':=d.getD (k-1) default) rfl hl];exact aCK hle
    have h2:dJ x (d.getD k default)≠0:=fun h0=>hc' (lE.1 h0);have h3:¬ 0<dJ x (d.getD k default):=fun h0=>h1 (xB.1 h0);omega
   rw[e1]at ha;rcases dE.1 ha with ha | ha
   ·have hp:=h.lt;rw[e1]at hp;exact TO.place.tr (pl a) (pl x) (pl _) ((lM.1 hp).2.2 a ha x (bZ.2 rfl)) hx
   ·rw[bZ.1 ha]; exact hx
  have hlen:=h.len;refine⟨lM.2 ⟨h.lt,oO _ _,fun a ha b hb=>?_⟩,fun y hy=>?_,fun y hy=>?_,by simp; omega,fun _=>⟨by simp,?_⟩,fun p=>?_⟩
  ·rw[bZ.1 hb]; exact hgt a ha
  ·rcases dE.1 hy with hy | hy
   ·exact h.n64 y hy
   ·rw[bZ.1 hy]; exact hN _ hmem
  ·rcases dE.1 hy with hy | hy
   ·exact h.ok y hy
   ·rw[bZ.1 hy]; exact ho _ hmem
  ·rw[bE,aE (by simp)];simp only[bQ,dN,Nat.add_sub_cancel,qM];rfl
  ·rw[iL,aL hk,iL];exact vN (h.wt p) rfl
theorem aLX(l d:List aC)(hd:d.Perm l)(hs:Srt d)(ho:kH l)(hN:okN l)(hn:l.length<=1000000000000):
  Sp (cD (fun s=>(Lx d s).den) (([]:List aC),d,0)) (sel (fun r=>Hj d r d.length) (fun _=>False)):=by
 have ho':kH d:=fun x hx=>ho x (hd.mem_iff.1 hx);have hN':okN d:=fun x hx=>hN x (hd.mem_iff.1 hx);have hlen:=hd.length_eq;refine dU (fun s:List aC×List aC×Int=>s.2.2) d.length (by omega) (fun s=>s.2.1=d/\Hj d s.1 s.2.2.toNat) (fun s k hI hk hkN=>?_) ⟨rfl,⟨List.Pairwise.nil,(fun x h=>by simp at h),(fun x h=>by simp at h),cS _,fun h=>absurd h (Nat.lt_irrefl 0),fun p=>rfl⟩⟩ rfl;obtain⟨out,v,i⟩:=s;obtain⟨h1,h2⟩:=hI;simp only at hk h1 h2;subst hk h1;rw[aQ]at h2;unfold Lx;simp only[Tr.den,aQ];by_cases hcnt:k<v.length
 ·obtain⟨q1,q2⟩:=aNV hcnt hs ho' hN' h2;have hol:=h2.len;have hmem:=aR hcnt;rw[aA (bO (by omega)),aA (by omega),aA hcnt];have fin:∀ o:List aC,Hj v o (k+1)->Sp (some (Sum.inl (o,v,IntKind.i64.wrap ((k:Int)+1))):Option ((List aC×List aC×Int)⊕(List aC⊕List aC)))
    (sel (fun s':List aC×List aC×Int=>s'.2.2=IntKind.i64.wrap ((k:Int)+1)/\k<v.length/\s'.2.1=v/\Hj v s'.1 s'.2.2.toNat) (sel (fun r=>Hj v r v.length) (fun _:List aC=>False))):=by
   intro o ho;refine aB.2 ⟨rfl,hcnt,rfl,?_⟩;simp only;rw[show (IntKind.i64.wrap ((k:Int)+1)).toNat=k+1 by rw[aK (by omega),aQ]];exact ho
  have app:(k=0\/pl (out.getD (out.length-1) default)≠pl (v.getD k default)) ->
    Sp (((Wp (v.getD k default).Row).bind fun r13=>if (out.length+([(⟨(v.getD k default).Time,r13,(v.getD k default).N⟩:aC)]:List aC).length)*40<=140737488355328 then some (out++[⟨(v.getD k default).Time,r13,(v.getD k default).N⟩],v) else none).bind fun r=>some (Sum.inl (r.1,r.2,IntKind.i64.wrap ((k:Int)+1))):Option ((List aC×List aC×Int)⊕(List aC⊕List aC)))
     (sel (fun s':List aC×List aC×Int=>s'.2.2=IntKind.i64.wrap ((k:Int)+1)/\k<v.length/\s'.2.1=v/\Hj v s'.1 s'.2.2.toNat) (sel (fun r=>Hj v r v.length) (fun _:List aC=>False))):=by
   intro hc;rw[aEK _ (by have:=ho' _ hmem; unfold okR at this; omega)];simp only[aI,dN];rw[aA (by omega)];exact fin _ (q2 hc)
  by_cases hk0:k=0
  ·have hout:out=[]:=rK (by omega);rw[aE (cB (by rw[hout]; simp))];simp only[aI,dC,cT];exact app (.inl hk0)
  ·obtain⟨hne,hl⟩:=h2.last (by omega);have hpos:=fL.2 hne;have e1:IntKind.i64.wrap ((out.length:Int)-1)=((out.length-1:Nat):Int):=by have:=eR (n:=out.length) (m:=1) (by omega) (by omega);simpa using this
   rw[e1];simp only[aQ];rw[aA (bO (by omega)),aA (by omega),aA (by omega),uW _ _ (h2.ok _ (aR (by omega))) (ho' _ hmem)];simp only[aI];by_cases he:pl (out.getD (out.length-1) default)=pl (v.getD k default)
   ·rw[aA (dI (lE.2 he)),aA (by omega),aA (by omega),aA (by omega),aA (by omega)];rw[aA (by simp; omega)];simp only[aI];exact fin _ (q1 (by omega) he)
   ·rw[aE (cZ fun h0=>he (lE.1 h0))];exact app (.inr he)
 ·rw[aE (cB (by omega))];refine aB.2 ?_;have:k=v.length:=by omega
  subst this;exact h2
theorem oJ(l:List aC)(ho:kH l)(hN:okN l)(hn:l.length<=1000000000000):aWO l=some (PL.cons l):=by
 refine Sp.eq ?_;unfold aWO aTI;simp only[Tr.den];rw[aDP l hn];simp only[aI];refine Sq.bind _ (aHY l ho (by omega)) (fun d hd=>?_);refine Sq.bind _ (aLX l d hd.1 hd.2 ho hN hn) (fun z hz=>?_);cases z with
 | inr z=>exact hz.elim
 | inl z=>have hz':Hj d z d.length:=hz;have h1:=hz'.len;have h2:=hd.1.length_eq;simp only[sel];refine Sq.bind _ (aJM z (by omega)) (fun r hr=>?_);subst hr;refine aB.2 (Nq (aVE hz'.lt hz'.n64) hN fun p=>?_).symm;rw[aRJ,hz'.wt p,cV,Lu p hd.1]
theorem aHR(row:List aF)(cols:List Int)(hc:Aw cols row)(hl:cols.length<=1000):aBC row cols=some (cols.map fun c=>row.getD c.toNat default):=by
 have w:IntKind.i64.wrap ((cols.length:Int)+2)=((cols.length+2:Nat):Int):=bF (by omega) (by omega);unfold aBC aLA;simp only[Tr.den];rw[w,aQ,aA (by omega)];have h1:=aW (bd:=fun s=>(qY row cols s).den) (fun k=>((cols.take k).map fun c=>row.getD c.toNat default,(k:Int))) cols.length (r:=.inl (cols.map fun c=>row.getD c.toNat default)) (fun k hk=>?_) ?_
 ·refine(congrArg (fun x=>Option.bind x _) h1).trans ?_;rfl
 ·unfold qY;simp only[Tr.den,aQ];have h2:=hc _ (aR hk);rw[aA (bO (by omega)),aA (by omega),aA h2,aA (by simp; omega),aK (by omega),aL hk,kJ];rfl
 ·unfold qY;simp only[Tr.den];rw[aE (cB (by omega)),cV]
theorem Gh{i:Int}{row:List aF}(hv:Hh row)(hc:Aw (iV n i) row)(hl:(iV n i).length<=1000):(aBC row (iV n i)).bind aPI=some (Ny n i row):=by rw[aHR row _ hc hl,aI,Zi _ (fun v hv'=>by obtain⟨c,_,rfl⟩:=cQ.1 hv';exact hv.get _) (by rw[bI]; exact hl)];rfl
theorem Ki(n:aG)(l:List aC)(hk:okI n 1 l)(hc:(iV n 1).length<=1000)(hn:l.length<=1000000000000):Sx l n.Key2=some (bP n 1 l):=by
 unfold Sx Ua;simp only[Tr.den];have h1:=aW (bd:=fun s=>(uT l n.Key2 s).den) (fun k=>(bP n 1 (l.take k),(k:Int))) l.length (r:=.inl (bP n 1 l)) (fun k hk'=>?_) ?_
 ·refine(congrArg (fun x=>Option.bind x _) h1).trans ?_;rfl
 ·unfold uT;simp only[Tr.den,aQ];have hm:=aR hk';have hkey:=Gh (n:=n) (i:=1) (hk.v _ hm) (hk.c _ hm) hc;rw[aA (bO (by omega)),aA (by omega),<-Option.bind_assoc,show n.Key2=iV n 1 from rfl];refine(congrArg (fun x=>Option.bind x _) hkey).trans ?_;simp only[aI];have h2:=iW n 1 (Ny n 1 (l.getD k default).Row) (l.take k);simp only[cE]at h2;rw[aA (by rw[rF]; simp only[dA,fH]; omega),aK (by omega)]
  congr 3
  unfold bP;rw[aL hk',zH];rfl
 ·unfold uT;simp only[Tr.den];rw[aE (cB (by omega)),cV]
theorem Xl(a b:aC)(t n:Int)(ha:a.Row.length<=1000)(hb:b.Row.length<=1000):aTQ a b t n=some (vQ a b t n):=by unfold aTQ aVW;simp only[Tr.den];rw[aKV [a.Row,b.Row] (by simp; omega) (by simp)];simp[vQ]
theorem Ee(a b:aC):rI 0 a b=vQ a b (if b.Time>a.Time then b.Time else a.Time) (W (a.N*b.N)):=by unfold rI;rw[aE (by decide)]
theorem Gr{p:Nat}(hp:p<l.length)(a b:Int):fB (l.take (p+1)) a b=fB (l.take p) a b++(if (decide (a<=(l.getD p default).Time)&&decide ((l.getD p default).Time<=b))=true then [l.getD p default] else []):=by unfold fB;rw[aL hp,zD,wL,Ao]
theorem aMP(hN:Np n)(h6:n.Op=6)(hB:okB n)(hA:okI n 0 A)(hBB:okI n 1 B)(lA:A.length<=100000)(lB:B.length<=100000):aXL n A B=some (sI n A B):=by
 have hb:=hB.b;have ha:=hB.a;have tA:=hA.tm;have tB:=hBB.tm;have wA:=hA.w;have wB:=hBB.w;have len0:∀ l,(l:List aC).length<=100000->(l.flatMap fun a=>pI n (ofK n 1 (kd n 0 a) B) a).length<=100000*100001:=fun l hl=>
  gZ (tF (c:=100001) (fun a=>gZ (Qs _ _ _) (by have:=iW n 1 (kd n 0 a) B; omega)) l) (tK hl (cS _))
 unfold aXL aVC;simp only[Tr.den];rw[Ki n B hBB (hN.cols 1) (by omega)];simp only[aI];have h1:=aW (bd:=fun z=>(Dr n A (bP n 1 B) z).den) (fun q=>((A.take q).flatMap fun a=>pI n (ofK n 1 (kd n 0 a) B) a,(q:Int))) A.length (r:=.inl (sI n A B)) (fun q hq=>?_) ?_
 ·refine(congrArg (fun x=>Option.bind x _) h1).trans ?_;rfl
 ·have hm:=aR hq;have tq:=tA.get q;have hl0:=len0 (A.take q) (by rw[cE]; omega);have hkey:=Gh (n:=n) (i:=0) (hA.v _ hm) (hA.c _ hm) (hN.cols 0);unfold Dr;simp only[Tr.den,aQ];rw[aA (bO (by omega)),aA (by omega),<-Option.bind_assoc,show n.Key=iV n 0 from rfl];refine(congrArg (fun x=>Option.bind x _) hkey).trans ?_;simp only[aI];have hmo:=rF n 1 (Ny n 0 (A.getD q default).Row) B;have hcl:=iW n 1 (kd n 0 (A.getD q default)) B;have tc:jW (ofK n 1 (kd n 0 (A.getD q default)) B):=fun d hd=>tB d (iD.1 hd).1;have wc':okW (ofK n 1 (kd n 0 (A.getD q default)) B):=fun d hd=>wB d (iD.1 hd).1;have hrow:pI n (ofK n 1 (kd n 0 (A.getD q default)) B) (A.getD q default)=pQ n 0 (ofK n 1 (kd n 0 (A.getD q default)) B) (A.getD q default):=by unfold pI; rw[aA h6]
  rw[aL hq,sP,nJ,hrow];generalize (A.take q).flatMap (fun a=>pI n (ofK n 1 (kd n 0 a) B) a)=out at *
  change _=ofK n 1 (kd n 0 (A.getD q default)) B at hmo;generalize ofK n 1 (kd n 0 (A.getD q default)) B=c at *
  have w1:IntKind.i64.wrap ((A.getD q default).Time-n.Before)=(A.getD q default).Time-n.Before:=bF (by omega) (by omega);have w2:IntKind.i64.wrap ((A.getD q default).Time+n.After)=(A.getD q default).Time+n.After:=bF (by omega) (by omega);have e0:pQ n 0 c (A.getD q default)=(fB c ((A.getD q default).Time-n.Before) ((A.getD q default).Time+n.After)).map (rI 0 (A.getD q default)):=by unfold pQ;rw[aE (by decide),aE (by decide)]
  rw[e0];have inner:cD (fun z=>(yK n A (bP n 1 B) (q:Int) c (c.length:Int) z).den) (out,0)=some (.inl (out++(fB c ((A.getD q default).Time-n.Before) ((A.getD q default).Time+n.After)).map (rI 0 (A.getD q default)))):=by
   have h2:=aW (bd:=fun z=>(yK n A (bP n 1 B) (q:Int) c (c.length:Int) z).den) (fun p=>(out++(fB (c.take p) ((A.getD q default).Time-n.Before) ((A.getD q default).Time+n.After)).map (rI 0 (A.getD q default)),(p:Int))) c.length (r:=.inl (out++(fB c ((A.getD q default).Time-n.Before) ((A.getD q default).Time+n.After)).map (rI 0 (A.getD q default)))) (fun p hp=>?_) ?_
   ·rw[<-h2]; simp[fB]
   ·have tp:=tc.get p;have f1:=Km (c.take p) ((A.getD q default).Time-n.Before) ((A.getD q default).Time+n.After);rw[cE]at f1;unfold yK;simp only[Tr.den,aQ];rw[aA (bO (by omega)),aA (by omega)];simp only[w1,w2];rw[Gr hp,kJ,<-cJ,aK (by omega)];have f2:(out++(fB (c.take p) ((A.getD q default).Time-n.Before) ((A.getD q default).Time+n.After)).map (rI 0 (A.getD q default))).length<=100000*100001+100000:=by rw[bQ,bI]; omega
    generalize out++(fB (c.take p) ((A.getD q default).Time-n.Before) ((A.getD q default).Time+n.After)).map (rI 0 (A.getD q default))=o at *
    by_cases c1:(A.getD q default).Time-n.Before<=(c.getD p default).Time
    ·rw[aA (bO c1)];simp only[aI];by_cases c2:(c.getD p default).Time<=(A.getD q default).Time+n.After
     ·rw[bO c1,bO c2];simp only[eJ,Bool.and_self];rw[Xl _ _ _ _ (wA.get q) (wc'.get p)];simp only[aI,dN];rw[aA (by omega)];simp only[aI,gJ,vY];rw[Ee]
     ·rw[bO c1,fI c2];simp only[Bool.and_false,dC,cT,aI,vY,fN]
    ·rw[aE (cB c1)];simp only[aI];rw[fI c1];simp only[Bool.false_and,dC,cT,aI,vY,fN]
   ·unfold yK;simp only[Tr.den];rw[aE (cB (by omega)),cV]
  generalize bG (bP n 1 B) (Ny n 0 (A.getD q default).Row)=o at *
  cases o with
  | none=>simp only[Option.getD_none]at hmo;subst hmo;refine(congrArg (fun x=>Option.bind x _) inner).trans ?_;simp only[aI,sel];rw[aK (by omega)]
  | some o=>simp only[rU]at hmo;subst hmo;refine(congrArg (fun x=>Option.bind x _) inner).trans ?_;simp only[aI,sel];rw[aK (by omega)]
 ·unfold Dr;simp only[Tr.den];rw[aE (cB (by omega)),cV];rfl
theorem Kc{c:List aC}{p:Nat}{lo hi:Int}(hp:p<=c.length)(h:∀ j,p<=j->j<c.length->hi<(c.getD j default).Time):fB c lo hi=fB (c.take p) lo hi:=by
 have e:fB (c.drop p) lo hi=[]:=by
  unfold fB;refine List.filter_eq_nil_iff.2 fun d hd=>?_;obtain⟨j,hj,rfl⟩:=Ab.1 hd;have hj':j<c.length-p:=by simpa using hj
  have:=h (p+j) (by omega) (by omega);rw[bK (by omega)]at this;rw[List.getElem_drop];simp only[cO,gY];omega
 have e2:fB c lo hi=fB (c.take p) lo hi++fB (c.drop p) lo hi:=by unfold fB;rw[<-zD,iM]
 rw[e2,e,fN]
theorem aMH(n:aG)(A:List aC)(M:List (ByteArray×List aC))(q:Nat)(hq:q<A.length)(c out:List aC)(hK:1<=n.Keep/\n.Keep<=10000)(tq:0<=(A.getD q default).Time/\(A.getD q default).Time<=2199023255552)
  (wq:(A.getD q default).Row.length<=1000)(tc:jW c)(wc':okW c)(ts:TS c)(lc:c.length<=100000)(lo:out.length<=1000000):
  Sp (cD (fun z=>(Of n A M (q:Int) c z).den) (out,(c.length:Int)-1)) (fun z=>z = .inl (out++kO n c (A.getD q default))):=by
 have w1:IntKind.i64.wrap ((A.getD q default).Time-n.Keep)=(A.getD q default).Time-n.Keep:=bF (by omega) (by omega);refine Sq.while (fun s:List aC×Int=>∃ p:Nat,s=(out,(p:Int)-1)/\p<=c.length/\∀ j,p<=j->j<c.length->(A.getD q default).Time<(c.getD j default).Time) (fun s=>(s.2+1).toNat) (fun s hs=>?_) ⟨c.length,rfl,cS _,fun j h1 h2=>by omega⟩;obtain⟨p,rfl,hp,hl⟩:=hs;unfold Of;simp only[Tr.den,aQ];by_cases h0:p=0
 ·subst h0;rw[aE (cB (by omega))];refine aB.2 ?_;have e:kO n c (A.getD q default)=[]:=by unfold kO;rw[Kc (p:=0) (by omega) hl];rfl
  rw[e,fN];rfl
 ·have e1:((p:Int)-1).toNat=p-1:=by omega
  have hp1:p-1<c.length:=by omega
  have tp:=tc.get (p-1);rw[aA (bO (by omega)),aA (by omega),e1];by_cases h1:(c.getD (p-1) default).Time<=(A.getD q default).Time
  ·rw[aA (bO h1)];have e2:=Kc (lo:=(A.getD q default).Time-n.Keep+1) (hi:=(A.getD q default).Time) hp hl;have e3:=Gr hp1 ((A.getD q default).Time-n.Keep+1) (A.getD q default).Time;rw[show p-1+1=p by omega]at e3;by_cases h2:(c.getD (p-1) default).Time>(A.getD q default).Time-n.Keep
   ·rw[aA (bO (by omega)),Xl _ _ _ _ wq (wc'.get _)];simp only[aI,dN];rw[aA (by omega)];refine aB.2 ?_;rw[aA (by rw[bO (show (A.getD q default).Time-n.Keep+1<=_ by omega),bO h1]; rfl)]at e3;have e:kO n c (A.getD q default)=[vQ (A.getD q default) (c.getD (p-1) default) (A.getD q default).Time (A.getD q default).N]:=by
     unfold kO;rw[e2,e3,aE (by simp)]
     congr 2
     rw[bE,aE (by simp)];simp
    rw[e];rfl
   ·rw[aE (cB (by omega))];refine aB.2 ?_;have e:kO n c (A.getD q default)=[]:=by
     unfold kO;rw[aA];rw[e2];unfold fB;refine List.filter_eq_nil_iff.2 fun d hd=>?_;obtain⟨j,hj,rfl⟩:=Ab.1 hd;have hj':j<p:=by have:=List.length_take_le p c;omega
     have:=ts.get (i:=j) (j:=p-1) (by omega) hp1;rw[bK (show j<c.length by omega)]at this;rw[List.getElem_take];simp only[cO,gY];omega
    rw[e,fN];rfl
  ·rw[aE (cB h1),bF (by omega) (by omega)];refine aB.2 ⟨⟨p-1,by rw[show ((p-1:Nat):Int)=(p:Int)-1 by omega],by omega,fun j q1 q2=>?_⟩,by simp only; omega⟩;by_cases hj:j=p-1
   ·subst hj; omega
   ·exact hl j (by omega) q2
theorem aKW(hN:Np n)(h6:¬ n.Op=6)(hK:1<=n.Keep/\n.Keep<=10000)(hA:okI n 0 A)(hBB:okI n 1 B)(tsB:TS B)(lA:A.length<=1000)(lB:B.length<=1000):aXN n A B=some (sI n A B):=by
 have tA:=hA.tm;have tB:=hBB.tm;have wA:=hA.w;have wB:=hBB.w;have hr:∀ R a,pI n R a=kO n R a:=fun R a=>by unfold pI; rw[aE h6]
 have len0:∀ l,(l:List aC).length<=1000->(l.flatMap fun a=>pI n (ofK n 1 (kd n 0 a) B) a).length<=1000*1:=fun l hl=>
  gZ (tF (c:=1) (fun a=>by rw[hr]; exact Jj _ _ _) l) (tK hl (cS _))
 unfold aXN aUD;simp only[Tr.den];rw[Ki n B hBB (hN.cols 1) (by omega)];simp only[aI];have h1:=aW (bd:=fun z=>(Dz n A (bP n 1 B) z).den) (fun q=>((A.take q).flatMap fun a=>pI n (ofK n 1 (kd n 0 a) B) a,(q:Int))) A.length (r:=.inl (sI n A B)) (fun q hq=>?_) ?_
 ·refine(congrArg (fun x=>Option.bind x _) h1).trans ?_;rfl
 ·have hm:=aR hq;have hl0:=len0 (A.take q) (by rw[cE]; omega);have hkey:=Gh (n:=n) (i:=0) (hA.v _ hm) (hA.c _ hm) (hN.cols 0);unfold Dz;simp only[Tr.den,aQ];rw[aA (bO (by omega)),aA (by omega),<-Option.bind_assoc,show n.Key=iV n 0 from rfl];refine(congrArg (fun x=>Option.bind x _) hkey).trans ?_;simp only[aI];have hmo:=rF n 1 (Ny n 0 (A.getD q default).Row) B;change _=ofK n 1 (kd n 0 (A.getD q default)) B at hmo;have hcl:=iW n 1 (kd n 0 (A.getD q default)) B;have tc:jW (ofK n 1 (kd n 0 (A.getD q default)) B):=fun d hd=>tB d (iD.1 hd).1;have wc':okW (ofK n 1 (kd n 0 (A.getD q default)) B):=fun d hd=>wB d (iD.1 hd).1;have ts':TS (ofK n 1 (kd n 0 (A.getD q default)) B):=At jC tsB;rw[aL hq,sP,nJ,hr];generalize (A.take q).flatMap (fun a=>pI n (ofK n 1 (kd n 0 a) B) a)=out at *
  generalize ofK n 1 (kd n 0 (A.getD q default)) B=c at *
  have inner:=(aMH n A (bP n 1 B) q hq c out hK (tA.get q) (wA.get q) tc wc' ts' (by omega) (by omega)).eq;have wl:IntKind.i64.wrap ((c.length:Int)-1)=(c.length:Int)-1:=bF (by omega) (by omega);rw[<-wl]at inner;generalize bG (bP n 1 B) (Ny n 0 (A.getD q default).Row)=o at *
  cases o with
  | none=>simp only[Option.getD_none]at hmo;subst hmo;refine(congrArg (fun x=>Option.bind x _) inner).trans ?_;simp only[aI,sel];rw[aK (by omega)]
  | some o=>simp only[rU]at hmo;subst hmo;refine(congrArg (fun x=>Option.bind x _) inner).trans ?_;simp only[aI,sel];rw[aK (by omega)]
 ·unfold Dz;simp only[Tr.den];rw[aE (cB (by omega)),cV];rfl
noncomputable def vM (n:aG)(l:List aC):List aC:=(Fd l n).getD []
abbrev DS (l:List aC):Prop:=l.Pairwise (fun x y=>dJ x y<0)
theorem Xf(hD:DS l)(ho:St.okTs n l)(hl:l.length<=1000000):Fd l n=some (vM n l)/\(vM n l).Perm l/\St.Srt n (vM n l):=by obtain⟨d,h1,h2⟩:=(St.G63s1_sp n l hD ho (by omega)).get;unfold vM;rw[h1];exact⟨rfl,h2⟩
theorem aLK{x y:aC}(h1:St.ltL n x y=false)(h2:St.ltL n y x=false):pl x=pl y:=by have h1:=iG h1;have h2:=iG h2;have s:=St.TO.key.sw (St.kT n y) (St.kT n x);have:=(St.TO.key.eq (St.kT n x) (St.kT n y)).1 (by omega);exact congrArg Prod.snd this
theorem aND{d:List aC}(hD:DS l)(hp:d.Perm l)(hs:St.Srt n d){e:List aC}(hp':e.Perm l)(hs':St.Srt n e):d=e:=by
 have inj:∀ x,x∈l->∀ y,y∈l->pl x=pl y->x=y:=by
  intro x hx y hy h;obtain⟨i,hi,rfl⟩:=Ab.1 hx;obtain⟨j,hj,rfl⟩:=Ab.1 hy;rcases Nat.lt_trichotomy i j with h1 | h1 | h1
  ·exact absurd h (zB (wE.1 hD i j hi hj h1))
  ·subst h1; rfl
  ·exact absurd h.symm (zB (wE.1 hD j i hj hi h1))
 refine List.Perm.eq_of_pairwise (le:=fun x y=>St.ltL n y x=false) (fun a b ha hb h1 h2=>inj a (hp.mem_iff.1 ha) b (hp'.mem_iff.1 hb) (aLK h2 h1)) hs hs' (hp.trans hp'.symm)
theorem Zn{r:List aC}(h:l.Perm r)(hn:okN l):cons l=cons r:=by have hn':okN r:=fun x hx=>hn x (h.mem_iff.2 hx);exact(iS hn).ext (iS hn') ((iZ l).trans ((lJ.of_perm h).trans (iZ r).symm))
theorem zA(hn:Bc n)(ks:List ByteArray)(l:List aC):okD (iH n ks l):=⟨fun x hx=>by
  obtain⟨k,hk,hx⟩:=gI.1 hx;obtain⟨w,hw,rfl⟩:=cQ.1 hx;have:=hn.key;have:=hn.aggs;unfold okR Cu;simp only[bQ,pL,bI,dN]; omega,fun x hx=>by
  obtain⟨k,hk,hx⟩:=gI.1 hx;obtain⟨w,hw,rfl⟩:=cQ.1 hx;exact⟨by show -9223372036854775808<=(1:Int); decide,by show (1:Int)<=9223372036854775807; decide⟩⟩
theorem Gs{n:aG}(hn:Bc n){l:List aC}(ht:jW l)(hl:l.length<=1000):∀ ks:List ByteArray,(iH n ks l).length<=ks.length*10000000
 | []=>by simp[iH]
 | k::ks=>by have h1:=wC hn (l:=ofK n 0 k l) (fun d hd=>ht d (eH.1 hd).1) (by have:=iW n 0 k l; omega);have h2:=Gs hn ht hl ks;unfold iH at h2 ⊢;rw[fT,bQ,bI,dA]; omega
theorem aRR(n:aG)(hl:l.length<=1000):(cM (aT (bP n 0 l))).length<=1000:=by have:=jM n 0 l;rw[iX]; unfold aT; rw[bI]; omega
theorem Vc(h4:n.Op=4)(hn:Bc n)(h:okI n 0 l)(ha:Me n l)(hl:l.length<=1000)(r:List (List aC)):oT fs n (l::r)=some (cons (iH n (cM (aT (bP n 0 l))) l)):=by have z0:(l::r).getD (0:Int).toNat default=l:=rfl;have hd:=zA hn (cM (aT (bP n 0 l))) l;have h1:=Gs hn h.t hl (cM (aT (bP n 0 l)));have h2:=aRR n hl;unfold oT Hx;simp only[Tr.den,z0];rw[aE (cZ (by omega)),aE (cZ (by omega)),aE (cZ (by omega)),aA (dI h4),aA (by simp),aOV hn h ha hl];simp only[aI];rw[oJ _ hd.r hd.n (by omega)]; rfl
theorem rY{S:List aC->List aC}{ks:List ByteArray}(hN:∀ d,d∈l->0<=d.N)(hk:0<=n.Keep)(hS:∀ r,r.Sublist l->(S r).Perm r):∀ x,x∈qS n S ks l->(∃ d,d∈l/\x.Row=d.Row)/\0<=x.N/\x.N<=n.Keep:=fun x hx=>by
 obtain⟨k,hk',hx⟩:=gI.1 hx;obtain⟨b,hb,hx⟩:=gI.1 hx;have hsub:(inB n.Size n.Size b (ofK n 0 k l)).Sublist l:=List.Sublist.trans jC jC;have hp:=hS _ hsub;have:∀ (tm left:Int) (r:List aC),(∀ d,d∈r->0<=d.N)->0<=left->∀ x,x∈rP tm left r->(∃ d,d∈r/\x.Row=d.Row)/\0<=x.N/\x.N<=left:=by
  intro tm left r
  induction r generalizing left with
  | nil=>intro _ _ x hx; cases hx
  | cons d r ih=>
   intro hr hl x hx;have hm:0<=jX left d.N/\jX left d.N<=left:=by unfold jX; have:=hr d bW; split <;> omega
   rw[rP]at hx;rcases aX.1 hx with rfl | hx
   ·exact⟨⟨d,bW,rfl⟩,hm⟩
   ·obtain⟨⟨e,he,h1⟩,h2,h3⟩:=ih (left-jX left d.N) (fun d hd=>hr d (cC _ hd)) (by omega) x hx;exact⟨⟨e,cC _ he,h1⟩,h2,by omega⟩
 obtain⟨⟨d,hd,h1⟩,h2⟩:=this _ _ _ (fun d hd=>hN d (hsub.subset (hp.mem_iff.1 hd))) hk x hx;exact⟨⟨d,hsub.subset (hp.mem_iff.1 hd),h1⟩,h2⟩
theorem Gt{n:aG}(hn:aIS n){S:List aC->List aC}{l:List aC}(ht:jW l)(hl:l.length<=1000)(hS:∀ r,r.Sublist l->(S r).Perm r):∀ ks:List ByteArray,(qS n S ks l).length<=ks.length*1000000
 | []=>by simp[qS,Rz]
 | k::ks=>by
  have hz:=hn.size;have h0:=iW n 0 k l;have hwb:(jV n.Size n.Size (ofK n 0 k l)).length<=1000:=by have:=pP (len:=n.Size) (step:=n.Size) (c:=1) (show 0<n.Size by omega) (by omega) (l:=ofK n 0 k l) (fun d hd=>ht d (eH.1 hd).1);omega
  have hF:∀ r:List Int,(r.flatMap fun b=>Hv n S b (inB n.Size n.Size b (ofK n 0 k l))).length<=r.length*1000:=fun r=>by
   induction r with
   | nil=>simp
   | cons b r ih=>have:=(hS (inB n.Size n.Size b (ofK n 0 k l)) (List.Sublist.trans jC jC)).length_eq;have h3:=qW n.Size n.Size b (ofK n 0 k l);unfold Hv at ih ⊢;rw[fT,bQ,xX,dA]; omega
  have h1:=hF (jV n.Size n.Size (ofK n 0 k l));have h2:=Gt hn ht hl hS ks;unfold qS Rz at h2 ⊢;rw[fT,bQ,dA]; omega
theorem uV(hc:DS l)(ho:St.okTs n l)(hl:l.length<=1000):∀ r,r.Sublist l->Fd r n=some (vM n r)/\(vM n r).Perm r:=fun r hr=>by have:=Xf (n:=n) (l:=r) (At hr hc) (fun x hx=>ho x (hr.subset hx)) (by have:=hr.length_le; omega);exact⟨this.1,this.2.1⟩
theorem aDM(h5:n.Op=5)(hn:aIS n)(h:okI n 0 l)(hN:∀ d,d∈l->0<=d.N/\d.N<=1000)(hc:DS l)(ho:St.okTs n l)(hl:l.length<=1000)(r:List (List aC)):
  oT fs n (l::r)=some (cons (qS n (vM n) (cM (aT (bP n 0 l))) l)):=by
 have z0:(l::r).getD (0:Int).toNat default=l:=rfl;have hS:=uV hc ho hl;have hS2:∀ r,r.Sublist l->(vM n r).Perm r:=fun r hr=>(hS r hr).2;have hkp:=hn.keep;have hm:=rY (n:=n) (S:=vM n) (ks:=cM (aT (bP n 0 l))) (fun d hd=>(hN d hd).1) (by omega) hS2;have h1:=Gt hn h.t hl hS2 (cM (aT (bP n 0 l)));have h2:=aRR n hl;unfold oT Hx;simp only[Tr.den,z0];rw[aE (cZ (by omega)),aE (cZ (by omega)),aE (cZ (by omega)),aE (cZ (by omega)),aA (dI h5),aA (by simp),aRF hn h hN hl hS];simp only[aI];rw[oJ _ (fun x hx=>by
  obtain⟨⟨d,hd,e⟩,_⟩:=hm x hx;have:=h.r d hd;unfold okR; rw[e]; omega) (fun x hx=>by
  have:=(hm x hx).2;exact⟨by omega,by omega⟩) (by omega)]; rfl
def sR(a b:Int):List aF:=[vI a,vI b]
def sL:List aC:=[⟨3,sR 7 5,1⟩,⟨8,sR 7 6,1⟩,⟨12,sR 7 1,1⟩]
def sAg:List jD:=[⟨0,0,⟨#[110]⟩⟩,⟨1,1,⟨#[115]⟩⟩]
def sA:aG:=⟨4,[],⟨#[]⟩,0,[],0,10,0,[0],[],0,0,0,sAg,[],[]⟩
def sB:aG:=⟨4,[],⟨#[]⟩,0,[],2,100,5,[0],[],0,0,0,sAg,[],[]⟩
def sC:aG:=⟨5,[],⟨#[]⟩,0,[],0,10,1,[],[],0,0,1,[],[],[]⟩
theorem aRQ{x:Int}(h:rR x):okV (vI x):=⟨⟨by show -9223372036854775808<=(0:Int); decide,by show (0:Int)<=9223372036854775807; decide⟩,h,vU _⟩
theorem aZM{a b:Int}(ha:rR a)(hb:rR b):Hh (sR a b):=fun v hv=>by
 rcases aX.1 hv with rfl | hv
 ·exact aRQ ha
 ·rw[bZ.1 hv]; exact aRQ hb
theorem tO(h:d∈sL):d=⟨3,sR 7 5,1⟩\/d=⟨8,sR 7 6,1⟩\/d=⟨12,sR 7 1,1⟩:=by unfold sL at h;simpa using h
theorem aHB(n:aG)(hk:∀ c,c∈iV n 0->0<=c/\c<2)(hl:∀ d,d∈l->d∈sL):okI n 0 l:=by
 refine⟨fun d hd=>?_,fun d hd=>?_,fun d hd=>?_,fun d hd=>?_,fun d hd=>?_⟩ <;> rcases tO (hl d hd) with rfl | rfl | rfl
 all_goals first
  | exact aZM ⟨by decide,by decide⟩ ⟨by decide,by decide⟩
  | exact fun c hc=>hk c hc
  | (simp only[sR,dA,fH]; omega)
  | exact⟨by decide,by decide⟩
theorem aZA(h:n.Key=[0]):∀ c,c∈iV n 0->0<=c/\c<2:=by intro c hc;have h1:iV n 0=[0]:=h;rw[h1,bZ]at hc;subst hc; decide
theorem ks1{k0:ByteArray}(h:∀ d,d∈l->kd n 0 d=k0)(h0:l≠[]):cM (aT (bP n 0 l))=[k0]/\ofK n 0 k0 l=l:=by
 have e:ofK n 0 k0 l=l:=Hf.2 fun d hd=>bO (h d hd);refine⟨List.perm_singleton.1 ((List.perm_ext_iff_of_nodup ((gH _).nodup_iff.2 ((Az n 0 l).nodup LO.bytes)) (by simp)).2 fun k=>?_),e⟩;rw[(gH _).mem_iff,iR,bZ];constructor
 ·intro hk;obtain⟨d,hd⟩:=Nb _ hk;obtain⟨h1,h2⟩:=eH.1 hd;rw[<-h2]; exact h d h1
 ·rintro rfl;rw[e]; exact h0
theorem zW{len step:Int}{bs:List Int}(h:aT (sE len step l)=bs):(jV len step l).Perm bs:=by unfold jV; rw[h]; exact qI _
theorem bAR:oT [] sA [sL]=some [⟨9,[vI 7,vI 0,vI 2,vI 11],1⟩,⟨19,[vI 7,vI 10,vI 1,vI 1],1⟩]:=by
 have hn:Bc sA:=⟨by decide,.inl rfl,by decide,by decide⟩;have hI:okI sA 0 sL:=aHB sA (aZA (n:=sA) rfl) fun d hd=>hd;have hag:Me sA sL:=fun g hg=>by
  rcases aX.1 hg with rfl | hg
  ·exact .inl rfl
  ·rw[bZ.1 hg];exact .inr fun d hd=>by rcases tO hd with rfl | rfl | rfl <;> exact⟨by decide,by decide⟩
 rw[Vc rfl hn hI hag (by decide)];obtain⟨e1,e2⟩:=ks1 (n:=sA) (l:=sL) (k0:=kd sA 0 ⟨3,sR 7 5,1⟩) (fun d hd=>by rcases tO hd with rfl | rfl | rfl <;> rfl) (by decide);rw[e1];have hp:=zW (len:=10) (step:=10) (l:=sL) (bs:=[0,10]) (by kernel_rfl);have hw:(iH sA [kd sA 0 ⟨3,sR 7 5,1⟩] sL).Perm (([0,10].map fun b=>(⟨b,b+10,inB 10 10 b sL⟩:aN)).map (Cu sA sL)):=by unfold iH;rw[nJ,e2];exact(hp.map _).map _
 rw[Zn hw (zA hn _ _).n];exact congrArg some (by kernel_rfl)
theorem bAN:oT [] sB [sL]=some [⟨7,[vI 7,vI 3,vI 1,vI 5],1⟩,⟨16,[vI 7,vI 8,vI 2,vI 7],1⟩]:=by
 have hn:Bc sB:=⟨by decide,.inr (.inr ⟨rfl,by decide⟩),by decide,by decide⟩;have hI:okI sB 0 sL:=aHB sB (aZA (n:=sB) rfl) fun d hd=>hd;have hag:Me sB sL:=fun g hg=>by
  rcases aX.1 hg with rfl | hg
  ·exact .inl rfl
  ·rw[bZ.1 hg];exact .inr fun d hd=>by rcases tO hd with rfl | rfl | rfl <;> exact⟨by decide,by decide⟩
 rw[Vc rfl hn hI hag (by decide)];obtain⟨e1,e2⟩:=ks1 (n:=sB) (l:=sL) (k0:=kd sB 0 ⟨3,sR 7 5,1⟩) (fun d hd=>by rcases tO hd with rfl | rfl | rfl <;> rfl) (by decide);rw[e1];have hp:=zW (len:=100) (step:=100) (l:=sL) (bs:=[0]) (by kernel_rfl);have hw:iH sB [kd sB 0 ⟨3,sR 7 5,1⟩] sL=(ses 5 (0+100) (inB 100 100 0 sL)).map (Cu sB sL):=by unfold iH;rw[nJ,e2];show (Ic sB sL).map _=_;unfold Ic;rw[show jV sB.Size sB.Size sL=[0] from List.perm_singleton.1 hp,nJ];rfl
 rw[hw];exact congrArg some (by kernel_rfl)
theorem bAK:oT [] sC [sL.take 2]=some [⟨9,sR 7 6,1⟩]:=by
 have hn:aIS sC:=⟨by decide,by decide,by decide⟩;have hsub:∀ d,d∈sL.take 2->d∈sL:=fun d hd=>Hq hd;have hI:okI sC 0 (sL.take 2):=aHB sC (fun c hc=>by simp[iV,sC]at hc) hsub;have hD:DS (sL.take 2):=by have:sL.take 2=[⟨3,sR 7 5,1⟩,⟨8,sR 7 6,1⟩]:=rfl;rw[this];exact lZ.2 ⟨fun y hy=>by rw[bZ.1 hy]; decide,oO _ _⟩
 have ho:St.okTs sC (sL.take 2):=fun d hd=>by rcases tO (hsub d hd) with rfl | rfl | rfl <;> exact⟨by decide,by decide⟩
 rw[aDM rfl hn hI (fun d hd=>by rcases tO (hsub d hd) with rfl | rfl | rfl <;> exact⟨by decide,by decide⟩) hD ho (by decide)];obtain⟨e1,e2⟩:=ks1 (n:=sC) (l:=sL.take 2) (k0:=kd sC 0 ⟨3,sR 7 5,1⟩) (fun d hd=>by rcases tO (hsub d hd) with rfl | rfl | rfl <;> rfl) (by decide);rw[e1];have hp:=zW (len:=10) (step:=10) (l:=sL.take 2) (bs:=[0]) (by kernel_rfl);have hs:vM sC (sL.take 2)=[⟨8,sR 7 6,1⟩,⟨3,sR 7 5,1⟩]:=by obtain⟨_,h2,h3⟩:=Xf hD ho (by decide);refine aND hD h2 h3 (List.Perm.swap _ _ _) ?_;exact lZ.2 ⟨fun y hy=>by rw[bZ.1 hy]; kernel_rfl,oO _ _⟩
 have hw:qS sC (vM sC) [kd sC 0 ⟨3,sR 7 5,1⟩] (sL.take 2)=rP 9 1 [⟨8,sR 7 6,1⟩,⟨3,sR 7 5,1⟩]:=by unfold qS Rz;rw[nJ,e2,show jV sC.Size sC.Size (sL.take 2)=[0] from List.perm_singleton.1 hp,nJ];unfold Hv;rw[show inB sC.Size sC.Size 0 (sL.take 2)=sL.take 2 from by kernel_rfl,hs];rfl
 rw[hw];exact congrArg some (by kernel_rfl)
theorem aRC:aXE=some true:=by
 have g:∀ a b,aZI a b=some (sR a b):=fun a b=>rfl;have g1:∀ a b,aJH a b=some (sR a b):=fun a b=>rfl;have hR:∀ a b,(sR a b).length=2:=fun a b=>rfl;unfold aXE aYM;simp only[Tr.den,g,aI];refine(congrArg (fun x=>Option.bind x _) bAR).trans ?_;simp only[aI];refine(congrArg (fun x=>Option.bind x _) bAN).trans ?_;simp only[aI];rw[aA (by decide)];refine(congrArg (fun x=>Option.bind x _) bAK).trans ?_;have s1:Oz [vI 7,vI 0,vI 2,vI 11] (sR 7 0++sR 2 11)=some true:=by rw[uI _ _ (by decide) (by decide)]; kernel_rfl
 have s2:Oz [vI 7,vI 10,vI 1,vI 1] (sR 7 10++sR 1 1)=some true:=by rw[uI _ _ (by decide) (by decide)]; kernel_rfl
 have s3:Oz [vI 7,vI 3,vI 1,vI 5] (sR 7 3++sR 1 5)=some true:=by rw[uI _ _ (by decide) (by decide)]; kernel_rfl
 have s4:Oz [vI 7,vI 8,vI 2,vI 7] (sR 7 8++sR 2 7)=some true:=by rw[uI _ _ (by decide) (by decide)]; kernel_rfl
 have s5:Oz (sR 7 6) (sR 7 6)=some true:=by rw[uI _ _ (by decide) (by decide)]; kernel_rfl
 simp[g1,s1,s2,s3,s4,s5,hR]
structure NIn (ts:List Int)(A:List aC):Prop where
 can:Can A
 len:A.length<=200
 v:∀ d,d∈A->Hh d.Row
 t:jW A
 row:∀ d,d∈A->d.Row.length=ts.length/\TyR ts d.Row
 n:∀ d,d∈A->1<=d.N/\d.N<=1000
theorem bAD(h:∀ d,d∈a->1<=d.N/\d.N<=5)(p:Pl->Bool):0<=wt p a/\wt p a<=5*a.length:=by
 induction a with
 | nil=>exact⟨iQ _,by simp[wt]⟩
 | cons x a ih=>have h1:=h x bW;have h2:=ih fun d hd=>h d (cC _ hd);simp only[wt,dA];split <;> omega
theorem aOQ(h:∀ d,d∈a->1<=d.N/\d.N<=5)(hl:a.length<=200):∀ x,x∈cons a->1<=x.N/\x.N<=1000:=fun x hx=>by
 have hn:okN a:=fun d hd=>by have:=h d hd; exact⟨by omega,by omega⟩
 have hc:=iS hn;have h1:=iZ a (at1 (pl x));rw[hc.wt_mem hx,xY (hc.n64 x hx)]at h1;have h2:=bAD h (at1 (pl x));rw[xY ⟨by omega,by omega⟩]at h1;have:=hc.nz x hx;omega
theorem bAQ{v:aF}(h:yE v):okV v:=⟨h.1,h.2.1,by have:v.S.size<=1048576:=h.2.2; omega⟩
theorem Mz.nin{m:Nat}(h:Mz ts a m)(hm:m<=200)(ho:okL 40 dZ a):NIn ts (cons a):=by
 have hl:=h.len;have e:∀ d,d∈PL.cons a->∃ z,z∈a/\d.Time=z.Time/\d.Row=z.Row:=fun d hd=>by obtain⟨z,hz,he⟩:=Gk hd;exact⟨z,hz,congrArg (·.1) he,congrArg (·.2) he⟩
 refine⟨iS (dZ.okd ho).n,by have:=xF a; omega,fun d hd=>?_,fun d hd=>?_,fun d hd=>?_,aOQ h.n (by omega)⟩ <;> obtain⟨z,hz,h1,h2⟩:=e d hd
 ·rw[h2]; exact fun v hv=>bAQ ((ho.2 z hz).2.1.2 v hv)
 ·rw[h1]; exact h.t z hz
 ·rw[h2]; exact h.r z hz
theorem NIn.okD{ts:List Int}{A:List aC}(h:NIn ts A)(ht:ts.length<=12):okD A:=⟨fun d hd=>by have:=(h.row d hd).1; unfold okR; omega,h.can.n64⟩
theorem NIn.okI{ts:List Int}{A:List aC}(h:NIn ts A)(ht:ts.length<=12){n:aG}{i:Int}(hk:okC (iV n i) ts.length):okI n i A:=
 ⟨h.v,fun d hd c hc=>by rw[(h.row d hd).1]; exact hk c hc,fun d hd=>by have:=(h.row d hd).1; omega,h.t,h.can.n64⟩
theorem NIn.sm(h:NIn ts A)(hd:d∈A):∀ v,v∈d.Row->Sm v:=fun v hv=>(h.v d hd v hv).s
theorem NIn.nil(ts:List Int):NIn ts []:=⟨.nil,by simp,by simp,by simp[jW],by simp,by simp⟩
theorem evE(hl:okL 104 eC fs)(hf:G82 fs=some true)(h:NIn ts A){e:bS}(he:dR e){t:Int}(ht:oP fs ts [] e=some (t,true))(hd:d∈A):
  Ch fs e d.Time d.Row=some (evV fs e d)/\TyV t (evV fs e d)/\Sm (evV fs e d):=by
 obtain⟨v,h1,h2⟩:=(aPF hl hf he ht d.Time (h.row d hd).1 (h.sm hd)).get;have e:evV fs e d=v:=by unfold evV; rw[h1]; rfl
 rw[e];exact⟨h1,aMI hl hf he ht d.Time (h.row d hd).2 h1,h2⟩
noncomputable def Ft (fs:List aU)(n:aG)(r:Pl):Bool:=((evV fs (n.Exprs.getD 0 default) ⟨r.1,r.2,0⟩).Kind==(vB true).Kind)&&(((evV fs (n.Exprs.getD 0 default) ⟨r.1,r.2,0⟩).N==(vB true).N)&&(((evV fs (n.Exprs.getD 0 default) ⟨r.1,r.2,0⟩).S.toList==(vB true).S.toList)&&true))
theorem aYA(h1:n.Op=1)(hl:okL 104 eC fs)(hf:G82 fs=some true)(he:okL 56 dR n.Exprs)(hx:n.Exprs.length=1/\oP fs ta [] (n.Exprs.getD 0 default)=some (2,true))(hla:ta.length<=12)(h:NIn ta A)(r:List (List aC)):
  oT fs n (A::r)=some (cons (A.filter fun d=>Ft fs n (pl d))):=by
 have z0:(A::r).getD (0:Int).toNat default=A:=rfl;have hal:=h.len;have ho:okD (A.filter fun d=>Ft fs n (pl d)):=(h.okD hla).sub fun x hx=>(iD.1 hx).1;have hfl:=rS (fun d=>Ft fs n (pl d)) A;unfold oT Hx;simp only[Tr.den];rw[aA (dI h1),aA (by simp)];have h2:=aW (bd:=fun s=>(Dy fs n (A::r) s).den) (fun k=>((A.take k).filter fun d=>Ft fs n (pl d),(k:Int))) A.length (r:=.inl (A.filter fun d=>Ft fs n (pl d))) (fun k hk=>?_) ?_
 ·rw[show (([]:List aC),(0:Int))=(fun k:Nat=>((A.take k).filter fun d=>Ft fs n (pl d),(k:Int))) 0 from rfl,h2];simp only[aI,sel];rw[oJ _ ho.r ho.n (by omega)]; rfl
 ·have hm:=aR hk;have hv:=(evE hl hf h (okEs.get he (show 0<n.Exprs.length by omega)) hx.2 hm).1;have hf2:=rS (fun d=>Ft fs n (pl d)) (A.take k);rw[cE]at hf2;unfold Dy;simp only[Tr.den,aQ];rw[aA (by rw[z0]; exact bO (by omega)),aA (by rw[z0]; omega),aA (by omega),z0,show (0:Int).toNat=0 from rfl,hv];simp only[aI];rw[Wn];simp only[aI];rw[aL hk,zD,aK (by omega)];have hc:(((evV fs (n.Exprs.getD 0 default) (A.getD k default)).Kind==(vB true).Kind)&&(((evV fs (n.Exprs.getD 0 default) (A.getD k default)).N==(vB true).N)&&(((evV fs (n.Exprs.getD 0 default) (A.getD k default)).S.toList==(vB true).S.toList)&&true)))=Ft fs n (pl (A.getD k default)):=rfl;rw[hc];cases hq:Ft fs n (pl (A.getD k default)) with
  | true=>rw[aA rfl,aA (by simp only[dN]; omega),wL,aA hq,Ao];rfl
  | false=>rw[aE (by simp),wL,aE (by rw[hq]; simp),Ao,fN];rfl
 ·unfold Dy;simp only[Tr.den];rw[aE (by rw[z0]; exact cB (by omega)),cV]
noncomputable def Ul (fs:List aU)(n:aG)(r:Pl):List aF:=n.Exprs.map fun e=>evV fs e ⟨r.1,r.2,0⟩
noncomputable def Mj (fs:List aU)(n:aG)(d:aC):aC:=⟨d.Time,Ul fs n (pl d),d.N⟩
theorem aPX(k:Nat)(hk:k<A.length)(v:List aC)(he:n.Exprs.length<=12)(hv:∀ i,i<n.Exprs.length->Ch fs (n.Exprs.getD i default) (A.getD k default).Time (A.getD k default).Row=some (evV fs (n.Exprs.getD i default) (A.getD k default))):
  cD (fun s=>(xI fs n.Exprs A (k:Int) s).den) (v,List.replicate n.Exprs.length (default:aF),0)=some (.inl (v,Ul fs n (pl (A.getD k default)))):=by
 have h2:=aW (bd:=fun s=>(xI fs n.Exprs A (k:Int) s).den) (fun i=>(v,((n.Exprs.take i).map fun e=>evV fs e (A.getD k default))++List.replicate (n.Exprs.length-i) (default:aF),(i:Int))) n.Exprs.length (r:=.inl (v,Ul fs n (pl (A.getD k default)))) (fun i hi=>?_) ?_
 ·rw[<-h2]; simp
 ·have hlen:(((n.Exprs.take i).map fun e=>evV fs e (A.getD k default))++List.replicate (n.Exprs.length-i) (default:aF)).length=n.Exprs.length:=by simp only[bQ,bI,cE,oX]; omega
  have hl1:((n.Exprs.take i).map fun e=>evV fs e (A.getD k default)).length=i:=by rw[bI,cE]; omega
  unfold xI;simp only[Tr.den,aQ];rw[aA (bO (by omega)),aA (by omega),hv i hi];simp only[aI];rw[aA (by omega),aA (by omega),aA (by simp only[List.all_cons,List.all_nil,Bool.and_true]; exact bO (by omega)),aK (by omega)]
  congr 4
  rw[List.set_append,aE (by omega),hl1,qM,show n.Exprs.length-i=(n.Exprs.length-(i+1))+1 by omega,List.replicate_succ,List.set_cons_zero,aL hi,kJ,cJ];rfl
 ·unfold xI;simp only[Tr.den];rw[aE (cB (by omega)),cV,qM];simp[Ul,evV,pl]
theorem aQO(he:n.Exprs.length<=12)(hA:A.length<=1000)(hv:∀ d,d∈A->∀ i,i<n.Exprs.length->Ch fs (n.Exprs.getD i default) d.Time d.Row=some (evV fs (n.Exprs.getD i default) d)):aTX fs n.Exprs A=some (A.map (Mj fs n)):=by
 unfold aTX aRY;simp only[Tr.den];have h2:=aW (bd:=fun s=>(Dt fs n.Exprs A s).den) (fun k=>((A.take k).map (Mj fs n),(k:Int))) A.length (r:=.inl (A.map (Mj fs n))) (fun k hk=>?_) ?_
 ·exact(congrArg (fun x=>Option.bind x _) h2).trans rfl
 ·unfold Dt;simp only[Tr.den,aQ];rw[aA (bO (by omega)),aA (by omega),aA ⟨⟨by omega,by omega⟩,by omega⟩,aPX k hk _ he (hv _ (aR hk))];simp only[aI,sel];rw[aA (by simp only[bI,cE,dN]; omega),aK (by omega),aL hk,kJ];rfl
 ·unfold Dt;simp only[Tr.den];rw[aE (cB (by omega)),cV]
theorem aTK(h2:n.Op=2)(hl:okL 104 eC fs)(hf:G82 fs=some true)(he:okL 56 dR n.Exprs)(hx:(1<=n.Exprs.length/\n.Exprs.length<=12)/\∀ i,i<n.Exprs.length->∃ t,oP fs ta [] (n.Exprs.getD i default)=some (t,true))(h:NIn ta A)(r:List (List aC)):
  oT fs n (A::r)=some (cons (A.map (Mj fs n))):=by
 have z0:(A::r).getD (0:Int).toNat default=A:=rfl;have hal:=h.len;have ho:okD (A.map (Mj fs n)):=⟨fun x hx'=>by
  obtain⟨d,hd,rfl⟩:=cQ.1 hx';unfold okR Mj Ul;simp only[bI]; omega,fun x hx'=>by
  obtain⟨d,hd,rfl⟩:=cQ.1 hx';exact h.can.n64 d hd⟩
 unfold oT Hx;simp only[Tr.den];rw[aE (cZ (by omega)),aA (dI h2),aA (by simp),z0,aQO hx.1.2 (by omega) fun d hd i hi=>by obtain⟨t,ht⟩:=hx.2 i hi;exact(evE hl hf h (okEs.get he hi) ht hd).1];simp only[aI];rw[oJ _ ho.r ho.n (by rw[bI]; omega)]; rfl
theorem Wu(fs:List aU)(n:aG)(p:Pl->Bool):∀ A:List aC,wt p (A.map (Mj fs n))=wt (fun r=>p (r.1,Ul fs n r)) A
 | []=>rfl
 | d::A=>by simp only[gJ,wt,Wu fs n p A];rfl
theorem aXX(h3:n.Op=3)(hla:ta.length<=12)(h:NIn ta A)(h':NIn ta B):oT fs n [A,B]=some (cons (A++B)):=by have hal:=h.len;have hbl:=h'.len;have ho:=(h.okD hla).app (h'.okD hla);unfold oT Hx;simp only[Tr.den];rw[aE (cZ (by omega)),aE (cZ (by omega)),aA (dI h3),aA (by simp),aA (by simp)];rw[show ([A,B]:List (List aC)).getD (0:Int).toNat default=A from rfl,show ([A,B]:List (List aC)).getD (1:Int).toNat default=B from rfl,aTV [A,B] (by simp; omega) (by simp)];simp only[aI,List.flatten_cons,List.flatten_nil,fN];rw[oJ _ ho.r ho.n (by rw[bQ]; omega)]; rfl
theorem aXO{tb:List Int}(h6:n.Op=6)(hB:okB n)(hk:n.Key.length<=20/\n.Key2.length<=20)(hla:ta.length<=12)(hlb:tb.length<=12)(hka:okC n.Key ta.length)(hkb:okC n.Key2 tb.length)(h:NIn ta A)(h':NIn tb B):
  oT fs n [A,B]=some (cons (sI n A B)):=by
 have hal:=h.len;have hbl:=h'.len;have iA:okI n 0 A:=h.okI hla hka;have iB:okI n 1 B:=h'.okI hlb hkb;have ho:=Nf iA iB;have hlen:(sI n A B).length<=200*201:=gZ (Fi (c:=200) hbl) (tK hal (cS _));unfold oT Hx;simp only[Tr.den];rw[aE (cZ (by omega)),aE (cZ (by omega)),aE (cZ (by omega)),aE (cZ (by omega)),aE (cZ (by omega)),aA (dI h6),aA (by simp),aA (by simp)];rw[show ([A,B]:List (List aC)).getD (0:Int).toNat default=A from rfl,show ([A,B]:List (List aC)).getD (1:Int).toNat default=B from rfl,aMP ⟨.inl ⟨h6,hB⟩,by omega,by omega⟩ h6 hB iA iB (by omega) (by omega)];simp only[aI];rw[oJ _ ho.r ho.n (by omega)]; rfl
theorem aCU(X:List aC)(ho:kH X)(hl:X.length<=1000000000000):aXD X X=some true:=by
 unfold aXD aVR;simp only[Tr.den];rw[aE (Ia rfl)];have h2:=aW (bd:=fun s=>(Cx X X s).den) (fun k=>(k:Int)) X.length (r:=.inl ()) (fun k hk=>?_) ?_
 ·exact(congrArg (fun x=>Option.bind x _) h2).trans rfl
 ·have hd:=ho _ (aR hk);unfold Cx;simp only[Tr.den,aQ];rw[aA (bO (by omega)),aA (by omega),aA (by omega),Xa _ _ hd hd,(lE (x:=X.getD k default) (y:=X.getD k default)).2 rfl];simp only[aI,bne_self_eq_false,dC,cT];rw[aA (by omega),aA (by omega)];simp only[aI,dC,cT];rw[aK (by omega)]
 ·unfold Cx;simp only[Tr.den];rw[aE (cB (by omega))]
theorem aUX{tb:List Int}(h7:n.Op=7)(hK:1<=n.Keep/\n.Keep<=10000)(hk:n.Key.length<=20/\n.Key2.length<=20)(hla:ta.length<=12)(hlb:tb.length<=12)(hka:okC n.Key ta.length)(hkb:okC n.Key2 tb.length)(h:NIn ta A)(h':NIn tb B):
  oT fs n [A,B]=some (cons (sI n A B)):=by
 have hal:=h.len;have hbl:=h'.len;have iA:okI n 0 A:=h.okI hla hka;have iB:okI n 1 B:=h'.okI hlb hkb;have ho:=Nf iA iB;have hlen:(sI n A B).length<=200*201:=gZ (Fi (c:=200) hbl) (tK hal (cS _));unfold oT Hx;simp only[Tr.den];rw[aE (cZ (by omega)),aE (cZ (by omega)),aE (cZ (by omega)),aE (cZ (by omega)),aE (cZ (by omega)),aE (cZ (by omega)),aA (dI h7),aA (by simp),aA (by simp)];rw[show ([A,B]:List (List aC)).getD (0:Int).toNat default=A from rfl,show ([A,B]:List (List aC)).getD (1:Int).toNat default=B from rfl,aKW ⟨.inr ⟨h7,hK⟩,by omega,by omega⟩ (by omega) hK iA iB h'.can.ts (by omega) (by omega)];simp only[aI];rw[oJ _ ho.r ho.n (by omega)]; rfl
theorem Ey(n:aG)(key:List aF)(lo:Int):∀ (a u:List dW),(lF n key lo u a).length<=a.length
 | [],u=>cS _
 | q::a,u=>by
  rw[lF,bQ,dA];have h1:=Ey n key lo a (u++[q]);have h2:(if lo<=q.time_ then Ie n key (u++[q]) else []).length<=1:=by
   split
   ·unfold Ie; split <;> simp
   ·simp
  omega
theorem Qo(n:aG)(key:List aF)(lo:Int)(hk:key.length<=10):∀ (a u:List dW),okD (lF n key lo u a)
 | [],u=>okD.nil
 | q::a,u=>by
  rw[lF];refine okD.app ?_ (Qo n key lo hk a _);split
  ·unfold Ie;split
   ·refine⟨fun x hx=>?_,fun x hx=>?_⟩
    ·rw[bZ.1 hx];unfold okR;simp only[bQ,dA,fH]; omega
    ·rw[bZ.1 hx]; exact⟨by simp only; omega,by simp only; omega⟩
   ·exact okD.nil
  ·exact okD.nil
noncomputable def vG (fs:List aU)(n:aG)(ks:List ByteArray)(a:List aC):List aC:=ks.flatMap fun k=>aBI fs n (ofK n 0 k a)
theorem Ra(hn:aEZ n)(l:List aC):okD (aBI fs n l):=Qo _ _ _ (by unfold mI; rw[bI]; exact hn.key) _ _
theorem Ph(hn:aEZ n)(ks:List ByteArray)(a:List aC):okD (vG fs n ks a):=⟨fun x hx=>by
  obtain⟨k,hk,hx⟩:=gI.1 hx;exact(Ra hn _).r x hx,fun x hx=>by
  obtain⟨k,hk,hx⟩:=gI.1 hx;exact(Ra hn _).n x hx⟩
theorem Px(h:∀ d,d∈l->d.N<=1000):(aBI fs n l).length<=l.length*1000:=by refine gZ (Ey _ _ _ _ _) ?_;rw[<-Xq,bI];exact Li h
theorem aUF(hn:aEZ n)(h:Zp fs n a)(hc:Can a)(hl:a.length<=1000)  (r:List (List aC)):oT fs n (a::r)=some (cons (vG fs n (cM (aT (bP n 0 a))) a)):=by
 have z0:(a::r).getD (0:Int).toNat default=a:=rfl;have hop:=hn.op;have hml:=jM n 0 a;have hks:(cM (aT (bP n 0 a))).length<=1000:=by rw[iX]; unfold aT; rw[bI]; omega
 have hkl:∀ k,(aBI fs n (ofK n 0 k a)).length<=1000000:=fun k=>by have h1:=Px (fs:=fs) (n:=n) (l:=ofK n 0 k a) fun d hd=>h.nn d (eH.1 hd).1;have h2:=iW n 0 k a;omega
 have hal:∀ ks:List ByteArray,(vG fs n ks a).length<=ks.length*1000000:=fun ks=>by
  induction ks with
  | nil=>simp[vG]
  | cons k ks ih=>unfold vG at ih ⊢;rw[fT,bQ,dA];have:=hkl k;omega
 unfold oT Hx;simp only[Tr.den,z0];rw[aE (cZ (by omega)),aE (cZ (by omega)),aE (cZ (by omega)),aE (cZ (by omega)),aE (cZ (by omega)),aE (cZ (by omega)),aE (cZ (by omega)),aA (dI hop),aA (by simp),Nx h.i (by have:=hn.key; omega) (by omega)];simp only[aI];generalize hKS:cM (aT (bP n 0 a))=ks at hks ⊢;have h1:=aW (bd:=fun s=>(Dk fs n (ks.map fun k=>ofK n 0 k a) s).den) (fun k=>(vG fs n (ks.take k) a,(k:Int))) ks.length (r:=.inl (vG fs n ks a)) (fun k hk=>?_) ?_
 ·rw[show (([]:List aC),(0:Int))=(fun k:Nat=>(vG fs n (ks.take k) a,(k:Int))) 0 from rfl,h1];simp only[aI,sel];have hd:=Ph (fs:=fs) hn ks a;have hal':=hal ks;have:=tK hks (cS 1000000);rw[oJ _ hd.r hd.n (by omega)];rfl
 ·unfold Dk;simp only[Tr.den,aQ,bI];have e0:(ks.map fun k=>ofK n 0 k a).getD k default=ofK n 0 (ks.getD k default) a:=by rw[bK (by rw[bI]; exact hk),wQ,<-bK hk]
  have hsub:∀ x,x∈ofK n 0 (ks.getD k default) a->x∈a:=fun x hx=>(eH.1 hx).1;have hT:Zp fs n (ofK n 0 (ks.getD k default) a):=⟨h.i.sub hsub,h.ev.sub hsub,fun d hd=>h.ty d (hsub d hd),fun d hd=>h.nn d (hsub d hd),by have:=iW n 0 (ks.getD k default) a; omega⟩;have hkey:∀ d,d∈ofK n 0 (ks.getD k default) a->mI n d.Row=mI n ((ofK n 0 (ks.getD k default) a).getD 0 default).Row:=fun d hd=>
   aOI (aR (fL.2 fun h0=>by rw[h0]at hd; cases hd)) d hd
  rw[aA (bO (by omega)),aA (by omega),e0,aOH hT hn (aNF hc).ts hkey];simp only[aI];have h3:=hal (ks.take k);rw[cE]at h3;have h4:(lF n (mI n ((ofK n 0 (ks.getD k default) a).getD 0 default).Row) 0 [] (plA fs n (ofK n 0 (ks.getD k default) a))).length<=1000000:=hkl _;rw[aA (by omega),aK (by omega)];have e1:vG fs n (ks.take (k+1)) a=vG fs n (ks.take k) a++aBI fs n (ofK n 0 (ks.getD k default) a):=by unfold vG;rw[aL hk,sP,fT,List.flatMap_nil,fN]
  rw[e1]; rfl
 ·unfold Dk;simp only[Tr.den,bI];rw[aE (cB (by omega)),cV]
end Go.PL
