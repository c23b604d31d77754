/-
  Parts: The kept part of a plain-law text (strip.py). Own work. The kept part of a plain-law text (strip.py). Own work. The kept part of a plain-law text (strip.py). Own work. The kept part of a plain-law text (strip.py). Own work. The kept part of a plain-law text (strip.py). Own work. Plain law of the meanings: windows of fixed length. Own work. Plain law of the meanings: the walk of windows of fixed length. Own work. Plain law of the meanings: the walk of sessions and aggregates. Own work. Plain law of the meanings: the walk of windows. Own work. Plain law of the meanings: weights of what windows yield. Own work. Plain law of the meanings: the walk of tops. Own work. Plain law of the meanings: the stable sort of the library with the order of tops: values descending, what came first ahead. Own work. The kept part of a plain-law text (strip.py). Own work. The kept part of a plain-law text (strip.py). Own work. The kept part of a plain-law text (strip.py). Own work. The kept part of a plain-law text (strip.py). Own work. Plain law of the meanings: what tops sort; the node's windows and tops; the examples hold. Own work. Plain law of the meanings: inputs; filters, maps, unions, joins. Own work. Plain law of expressions: the reference's evaluator computes what the program's does. Own work. Plain law of expressions: the reference's evaluator computes what the program's does. Own work. The kept part of a plain-law text (strip.py). Own work. Plain law of the meanings: asofs and matches; the own back; rows up to a time. Own work.
-/
import Derived.Test.YtjefblkdnolgaaaGreatDoorMi
set_option maxHeartbeats 4000000
namespace Go.PL
open Go
set_option linter.unusedVariables false
set_option maxRecDepth 20000
variable {b e t:Int} {c k:Nat} {fs:List aS} {l:List aB} {x:aB} {α:Type}
theorem bEF(n:aG)(a1:List aB)(a2:List (List Bool))(Z v2 v3:Int)(hK:n.Seq.length<=8)(p:Nat)(hp:p<n.Seq.length)(now next:List Bool)(hl:now.length=n.Seq.length+1)(o0:Bool):
  Sp (bW (fun s=>(Ns n a1 a2 Z v2 v3 (p:Int) s).den) (now,next,o0,IntKind.i64.wrap ((p:Int)+1)))
   (fun z=>∃ o,z = .inl (now,next,o)/\(o=true↔(o0=true\/∃ q,p+1<=q/\(∀ r,p+1<=r->r<=q->r<n.Seq.length/\fU n r=2)/\now.getD (q+1) default=true))):=by
 refine Sq.while (fun s:List Bool×List Bool×Bool×Int=>s.1=now/\s.2.1=next/\∃ q:Nat,s.2.2.2=(q:Int)/\p+1<=q/\q<=n.Seq.length/\(∀ r,p+1<=r->r<q->r<n.Seq.length/\fU n r=2) /\
   (s.2.2.1=true↔(o0=true\/∃ D,p+1<=D/\D < q/\now.getD (D+1) default=true))) (fun s=>n.Seq.length+1-s.2.2.2.toNat) (fun s Q=>?_) ⟨rfl,rfl,p+1,aK,cM _,hp,fun r h1 h2=>by omega,⟨fun h=>.inl h,fun h=>h.elim id fun⟨D,h1,h2,_⟩=>by omega⟩⟩
 obtain⟨J,v15,G,v17⟩:=s;obtain⟨rfl,rfl,q,M,hq1,hq2,hch,ho⟩:=Q;simp only at M ho hl;subst M;unfold Ns;simp only[Tr.den,aL];have ex:(∀ D,q<=D->¬ (q<n.Seq.length/\fU n q=2))->(G=true↔(o0=true\/∃ D,p+1<=D/\(∀ r,p+1<=r->r<=D->r<n.Seq.length/\fU n r=2)/\J.getD (D+1) default=true)):=fun hno=>by grind
 cases G with
 | true=>simp only[Bool.not_true,eO,eH,aI];refine aC.2 ⟨true,rfl,⟨fun h=>?_,fun _=>rfl⟩⟩;grind
 | false=>
  simp only[Bool.not_false,gT];by_cases hc:q<n.Seq.length
  ·rw[aA bL,aA];simp only[aI];by_cases hr:fU n q=2
   ·rw[aA (dP.2 hr),aK,aA,aL,aA];refine aC.2 ⟨⟨rfl,rfl,q+1,rfl,by omega,by omega,fun r h1 h2=>?_,?_⟩,by grind⟩
    all_goals grind
   ·rw[aF (fun h=>hr (dP.1 h))];exact aC.2 ⟨false,rfl,ex fun D _ h=>hr h.2⟩
  ·rw[aF bQ];simp only[aI,eO,eH];exact aC.2 ⟨false,rfl,ex fun D _ h=>hc h.1⟩
def opP(n:aG)(now:List Bool)(p:Nat):Prop:=(now.getD (p+1) default=true\/(fU n p=1/\now.getD p default=true))\/∃ q,p+1<=q/\(∀ r,p+1<=r->r<=q->r<n.Seq.length/\fU n r=2)/\now.getD (q+1) default=true
theorem bEW(n:aG)(a1:List aB)(a2:List (List Bool))(a3 v2:Int)(i:Nat)(hi:i<a2.length)(hK:n.Seq.length<=8)(now:List Bool)(hl:now.length=n.Seq.length+1)(hg:(a2.getD i default).length=n.Seq.length):
  Sp (bW (fun s=>(Pq n a1 a2 a3 v2 (i:Int) s).den) (now,List.replicate (n.Seq.length+1) (default:Bool),IntKind.i64.wrap ((n.Seq.length:Int)-1)))
   (fun z=>∃ nx:List Bool,z = .inl nx/\nx.length=n.Seq.length+1/\∀ p,p<=n.Seq.length->(nx.getD p default=true↔(p<n.Seq.length/\opP n now p/\(a2.getD i default).getD p default=true))):=by
 refine Sq.while (fun s:List Bool×List Bool×Int=>s.1=now/\∃ q:Nat,s.2.2=(q:Int)-1/\q<=n.Seq.length/\s.2.1.length=n.Seq.length+1/\∀ p,p<=n.Seq.length->(s.2.1.getD p default=true↔(q<=p/\p<n.Seq.length/\opP n now p/\(a2.getD i default).getD p default=true)))
  (fun s=>(s.2.2+1).toNat) (fun s hI=>?_) ⟨rfl,n.Seq.length,aV,cM _,qR,fun p hp=>⟨fun h=>?_,fun h=>by omega⟩⟩
 ·obtain⟨Z,v8,v9⟩:=s;obtain⟨rfl,q,hq,hq1,J,hn⟩:=hI;simp only at hq J hn hl;subst hq;unfold Pq;simp only[Tr.den];cases q with
  | zero=>rw[aF bQ];exact aC.2 ⟨v8,rfl,J,fun p hp=>(hn p hp).trans ⟨fun h=>h.2,fun h=>⟨yM _,h⟩⟩⟩
  | succ q=>
   have e1:((q+1:Nat):Int)-1=(q:Int):=by omega
   rw[e1,aA bL,aK];simp only[aL];rw[aA,aA];refine Sq.bind (fun z:List Bool×List Bool×Bool=>z.1=Z/\z.2.1=v8/\(z.2.2=true↔(Z.getD (q+1) default=true\/(fU n q=1/\Z.getD q default=true)))) ?_ (fun z hz=>?_)
   ·refine bK (fun h=>aC.2 ⟨rfl,rfl,fun _=>.inl h,fun _=>rfl⟩) fun h=>?_;have Q:¬ Z.getD (q+1) default=true:=by simp_all
    rw[aA];by_cases hr:fU n q=1
    ·rw[aA (dP.2 hr),aA,aA];exact aC.2 ⟨rfl,rfl,fun h=>.inr ⟨hr,h⟩,fun h=>h.elim (fun h=>absurd h Q) fun h=>h.2⟩
    ·rw[aF (fun h=>hr (dP.1 h))];exact aC.2 ⟨rfl,rfl,fun h=>(by cases h),fun h=>h.elim (fun h=>absurd h Q) fun h=>absurd h.1 hr⟩
   ·obtain⟨D,G,j13⟩:=z;obtain⟨rfl,rfl,hj⟩:=hz;simp only at hj hl hn J;refine Sq.bind _ (Sq.of (aK (n:=q) (by omega)▸bEF n a1 a2 a3 v2 (i:Int) hK q (by omega) D G hl j13)) (fun z hz=>?_);obtain⟨o,rfl,ho⟩:=hz;simp only[sel];have ho':o=true↔opP n D q:=ho.trans (or_congr hj Iff.rfl);have step:∀ b:Bool,(b=true↔(opP n D q/\(a2.getD i default).getD q default=true)) ->
      (∀ p,p<=n.Seq.length->((G.set q b).getD p default=true↔(q<=p/\p<n.Seq.length/\opP n D p/\(a2.getD i default).getD p default=true))):=fun b hb p hp=>by
     rw[iW];grind
    have fin:∀ b:Bool,(b=true↔(opP n D q/\(a2.getD i default).getD q default=true))->Sq true ((some (D,G.set q b):Option (List Bool×List Bool)).bind fun x=>some (Sum.inl (x.1,x.2,IntKind.i64.wrap ((q:Int)-1)):(List Bool×List Bool×Int)⊕(List Bool⊕(List Bool×Int×Int)⊕Int⊕Int)))
      (sel (fun M:List Bool×List Bool×Int=>(M.1=D/\∃ q:Nat,M.2.2=(q:Int)-1/\q<=n.Seq.length/\M.2.1.length=n.Seq.length+1/\∀ p,p<=n.Seq.length->(M.2.1.getD p default=true↔(q<=p/\p<n.Seq.length/\opP n D p/\(a2.getD i default).getD p default=true)))/\(M.2.2+1).toNat<((q:Int)+1).toNat) (fun z=>∃ nx:List Bool,z = .inl nx/\nx.length=n.Seq.length+1/\∀ p,p<=n.Seq.length->(nx.getD p default=true↔(p<n.Seq.length/\opP n D p/\(a2.getD i default).getD p default=true)))):=fun b hb=>by
     refine aC.2 ⟨⟨rfl,q,?_,by omega,by simp_all,step b hb⟩,?_⟩
     ·simp only; rw[aV]
     ·simp only; rw[aV]; omega
    grind
 ·rw[dV,Ck]at h;split at h <;> cases h
theorem bAD(n:aG)(a1:List aB)(a2:List (List Bool))(J v3 b0:Int)(hK:n.Seq.length<=8)(now:List Bool)(hl:now.length=n.Seq.length+1):
  Sp (bW (fun s=>(Pr n a1 a2 J v3 s).den) (now,b0,0))
   (fun z=>∃ b,z = .inl (now,b)/\((∃ p,p<n.Seq.length/\(∀ r,r<p->fU n r=2)/\now.getD p default=true)->b=IntKind.i64.wrap (IntKind.i64.wrap (J-v3)+1))/\((¬ ∃ p,p<n.Seq.length/\(∀ r,r<p->fU n r=2)/\now.getD p default=true)->b=b0)):=by
 refine Sq.while (fun s:List Bool×Int×Int=>s.1=now/\∃ q:Nat,s.2.2=(q:Int)/\q<=n.Seq.length/\(∀ r,r<q->fU n r=2)/\((∃ p,p<q/\now.getD p default=true)->s.2.1=IntKind.i64.wrap (IntKind.i64.wrap (J-v3)+1))/\((¬ ∃ p,p<q/\now.getD p default=true)->s.2.1=b0))
  (fun s=>n.Seq.length+1-s.2.2.toNat) (fun s Z=>?_) ⟨rfl,0,rfl,yM _,fun r h=>by omega,fun⟨p,h,_⟩=>by omega,fun _=>rfl⟩
 obtain⟨D,G,v28⟩:=s;obtain⟨rfl,q,Q,hq1,hr,h1,h2⟩:=Z;simp only at Q hl h1 h2;subst Q;unfold Pr;simp only[Tr.den,aL];by_cases hc:q<n.Seq.length
 ·rw[aA bL,aA,aA];have key:∀ b,(b=if D.getD q default=true then IntKind.i64.wrap (IntKind.i64.wrap (J-v3)+1) else G)->((∃ p,p<q+1/\D.getD p default=true)->b=IntKind.i64.wrap (IntKind.i64.wrap (J-v3)+1))/\((¬ ∃ p,p<q+1/\D.getD p default=true)->b=b0):=fun b hb=>by grind
  have ej:(if D.getD q default=true then some (D,IntKind.i64.wrap (IntKind.i64.wrap (J-v3)+1)) else some (D,G))=some (D,if D.getD q default=true then IntKind.i64.wrap (IntKind.i64.wrap (J-v3)+1) else G):=by split <;> rfl
  rw[ej];simp only[aI];obtain⟨k1,k2⟩:=key _ rfl;rw[aA];by_cases hm:fU n q=2
  ·rw[aF (Sh hm)];refine aC.2 ⟨⟨rfl,q+1,aK,hc,fun r h=>?_,k1,k2⟩,by simp only; rw[aK]; omega⟩;grind
  ·rw[aA (So hm)];refine aC.2 ⟨_,rfl,fun⟨p,h3,h4,M⟩=>k1 ⟨p,?_,M⟩,fun h=>k2 fun⟨p,h3,h4⟩=>h ⟨p,by omega,fun r M=>hr r (by omega),h4⟩⟩;grind
 ·rw[aF bQ];have:q=n.Seq.length:=by omega
  subst this;exact aC.2 ⟨G,rfl,fun⟨p,h3,_,M⟩=>h1 ⟨p,h3,M⟩,fun h=>h2 fun⟨p,h3,h4⟩=>h ⟨p,h3,fun r M=>hr r (by omega),h4⟩⟩
theorem bBD{K:Nat}{rep:Nat->Int}{ok:α->Nat->Prop}{s:List α}{p:Nat}(h:Bwd K rep ok s p):p<=K:=by
 cases s with
 | nil=>exact Nat.le_of_eq h
 | cons x s=>exact Nat.le_of_lt h.1
theorem aAY{n:aG}{ok:α->Nat->Prop}{s:List α}{now:List Bool}(D:∀ p,p<=n.Seq.length->(now.getD p default=true↔Bwd n.Seq.length (fU n) ok s p)){p:Nat}(hp:p<n.Seq.length):
  opP n now p↔(pQ n.Seq.length (fU n) ok s (p+1)\/(fU n p=1/\pQ n.Seq.length (fU n) ok s p)):=by
 constructor
 ·rintro ((h | ⟨h1,h⟩) | ⟨q,h1,h2,h3⟩)
  ·exact .inl ((uG _ _ _ s _).2 ⟨p+1,.refl _,(D _ hp).1 h⟩)
  ·exact .inr ⟨h1,(uG _ _ _ s _).2 ⟨p,.refl _,(D _ (by omega)).1 h⟩⟩
  ·have G:=(h2 q h1 (cM q)).1;exact .inl ((uG _ _ _ s _).2 ⟨q+1,⟨by omega,fun r h4 J=>h2 r h4 (by omega)⟩,(D _ (by omega)).1 h3⟩)
 ·rintro (h | ⟨h1,h⟩)
  ·obtain⟨q,hs,hb⟩:=(uG _ _ _ s _).1 h;have G:=bBD hb;by_cases e:q=p+1
   ·subst e; exact .inl (.inl ((D _ G).2 hb))
   ·have:=hs.1;refine .inr ⟨q-1,by omega,fun r h4 J=>hs.2 r h4 (by omega),?_⟩;grind
  ·obtain⟨q,hs,hb⟩:=(uG _ _ _ s _).1 h;by_cases e:q=p
   ·subst e; exact .inl (.inr ⟨h1,(D _ (by omega)).2 hb⟩)
   ·have:=hs.1;have:=(hs.2 p (cM p) (by omega)).2;omega
theorem aEV{n:aG}{ok:α->Nat->Prop}{x:α}{s:List α}{now:List Bool}(D:∀ p,p<=n.Seq.length->(now.getD p default=true↔Bwd n.Seq.length (fU n) ok (x::s) p)):
  (∃ p,p<n.Seq.length/\(∀ r,r<p->fU n r=2)/\now.getD p default=true)↔pQ n.Seq.length (fU n) ok (x::s) 0:=by
 rw[uG];constructor
 ·rintro⟨p,h1,h2,h3⟩;exact⟨p,⟨yM p,fun r _ h=>⟨by omega,h2 r h⟩⟩,(D p (by omega)).1 h3⟩
 ·rintro⟨p,h1,h2⟩;have h3:p<n.Seq.length:=h2.1;exact⟨p,h3,fun r h=>(h1.2 r (yM r) h).2,(D p (by omega)).2 h2⟩
noncomputable def gpl (fs:List aS)(n:aG)(d:aB):dY:=⟨d.Time,Rf fs n d n.Seq.length⟩
def okG(fs:List aS)(n:aG)(d:aB)(p:Nat):Prop:=(evV fs (n.Seq.getD p default).Pred d).N=1
theorem aVL{n:aG}(hn:n.Seq.length<=8)(l:List aB)(t0:Int):
  (isM dY.time_ (nxF n) (Jg n) n.Size t0 (tN n 1) (l.map (gpl fs n))=true)↔(((l.map (gpl fs n)).getLastD default).time_-t0<n.Size/\pQ n.Seq.length (fU n) (okG fs n) l 0):=by
 rw[aTY hn (fun x q=>x.fits_.toNat.testBit q=true)]
 ·refine and_congr Iff.rfl (mQ n.Seq.length (fU n) (fun (x:dY) q=>x.fits_.toNat.testBit q=true) (gpl fs n) (fun d q D=>?_) l 0).symm;obtain⟨a,h1,h2,h3⟩:=Qe fs hn d n.Seq.length (cM _);show okG fs n d q↔(Rf fs n d n.Seq.length).toNat.testBit q=true;rw[h1,aL,h3 q];exact⟨fun h=>⟨D,h⟩,fun h=>h.2⟩
 ·intro x hx;obtain⟨d,_,rfl⟩:=cU.1 hx;obtain⟨a,h1,h2,h3⟩:=Qe fs hn d n.Seq.length (cM _);refine⟨a,h1,h2,fun p=>?_⟩;show _↔(Rf fs n d n.Seq.length).toNat.testBit p=true;rw[h1,aL]
noncomputable def mB (fs:List aS)(n:aG)(l:List aB):Int:=match pU dY.time_ (nxF n) (Jg n) n.Size (tN n 1) (l.map (gpl fs n)) with
 | some (_,m)=>m
 | none=>0
theorem Af{n:aG}(x:aB)(l:List aB):mB fs n (x::l)=if isM dY.time_ (nxF n) (Jg n) n.Size x.Time (tN n 1) ((x::l).map (gpl fs n))=true then ((x::l).length:Int) else mB fs n l:=by unfold mB;rw[fY,pU];rw[show (gpl fs n x).time_=x.Time from rfl];grind
structure Vv (fs:List aS)(n:aG)(P:List aB)(g:List (List Bool)):Prop where
 len:g.length=P.length
 sz:∀ i,i<P.length->(g.getD i default).length=n.Seq.length
 ok:∀ i,i<P.length->∀ p,p<n.Seq.length->((g.getD i default).getD p default=true↔okG fs n (P.getD i default) p)
theorem aOT{n:aG}{P:List aB}{g:List (List Bool)}(hn:n.Seq.length<=8)(G:1<=n.Size/\n.Size<=10000)(hg:Vv fs n P g)(hs:TS P)(ht:fZ P)(hP:P.length<=1000000000){j:Nat}(hj:j<P.length):
  aYJ n P g (j:Int)=some (mB fs n (P.take (j+1))):=by
 have hL:(P.take (j+1)).length=j+1:=by grind
 have dk:∀ k,k<=j->(P.take (j+1)).drop k=P.getD k default::(P.take (j+1)).drop (k+1):=fun k hk=>by
  rw[dF (by omega)]
  congr 1
  rw[dV,dV,tC,aA]
 have last:∀ k,k<=j->((((P.take (j+1)).drop k).map (gpl fs n)).getLastD default).time_=(P.getD j default).Time:=fun k hk=>by
  have e:(P.take (j+1)).drop k=(P.take j).drop k++[P.getD j default]:=by rw[aJ hj,List.drop_append_of_le_length (by grind)]
  rw[e,eI,fY,Ce,uI]; rfl
 refine Sp.eq ?_;unfold aYJ aXP;simp only[Tr.den,aL];have ew:IntKind.i64.wrap ((n.Seq.length:Int)+1)=((n.Seq.length+1:Nat):Int):=aK;rw[ew];simp only[aL];rw[aA ⟨⟨by omega,by omega⟩,by omega⟩,aA (by simp; omega),aA (by simp),aA (by simp)];refine Sq.bind (fun z=>z = .inl (mB fs n (P.take (j+1)))) (Sq.while (fun s:List Bool×Int×Int=>∃ k:Nat,s.2.2=(k:Int)-1/\k<=j+1/\s.1.length=n.Seq.length+1 /\
   (∀ p,p<=n.Seq.length->(s.1.getD p default=true↔Bwd n.Seq.length (fU n) (okG fs n) ((P.take (j+1)).drop k) p))/\s.2.1=mB fs n ((P.take (j+1)).drop k)) (fun s=>(s.2.2+1).toNat) (fun s hI=>?_) ⟨j+1,by simp_all,cM _,by simp,fun p hp=>?_,?_⟩) (fun z G=>by subst G; exact aC.2 rfl)
 ·obtain⟨now,best,i⟩:=s;obtain⟨k,hk,hkj,hl,hB,hb⟩:=hI;simp only at hk hl hB hb;subst hk hb;unfold Zb;simp only[Tr.den];cases k with
  | zero=>rw[aF bQ];simp only[aI,eO,eH];exact aC.2 rfl
  | succ k=>
   have e1:((k+1:Nat):Int)-1=(k:Int):=by omega
   rw[e1,aA bL];simp only[aL];have t1:=ht _ (aM hj);have t2:=ht _ (aM (show k<P.length by omega));have Q:IntKind.i64.wrap ((P.getD j default).Time-(P.getD k default).Time)=(P.getD j default).Time-(P.getD k default).Time:=aV;rw[aA,aA];simp only[aI];by_cases hc:IntKind.i64.wrap ((P.getD j default).Time-(P.getD k default).Time)<n.Size
   ·rw[aA (bL hc),ew];rw[Q]at hc;simp only[aL];rw[aA ⟨⟨by omega,by omega⟩,by omega⟩];refine Sq.bind _ (Sq.of (bEW n P g (j:Int) (mB fs n ((P.take (j+1)).drop (k+1))) k (by rw[hg.len]; omega) hn now hl (hg.sz k (by omega)))) (fun z G=>?_);obtain⟨Z,rfl,M,hnx⟩:=G;simp only[sel];have hB':∀ p,p<=n.Seq.length->(Z.getD p default=true↔Bwd n.Seq.length (fU n) (okG fs n) ((P.take (j+1)).drop k) p):=fun p hp=>by
     rw[hnx p hp,dk k (by omega)];constructor
     ·rintro⟨h1,h2,h3⟩;exact⟨h1,(hg.ok k (by omega) p h1).1 h3,(aAY hB h1).1 h2⟩
     ·rintro⟨h1,h2,h3⟩;exact⟨h1,(aAY hB h1).2 h3,(hg.ok k (by omega) p h1).2 h2⟩
    refine Sq.bind _ (Sq.of (bAD n P g (j:Int) (k:Int) (mB fs n ((P.take (j+1)).drop (k+1))) hn Z M)) (fun z G=>?_);obtain⟨b,rfl,hb1,hb2⟩:=G;simp only[sel];refine aC.2 ⟨⟨k,?_,by omega,M,hB',?_⟩,?_⟩
    ·simp only; rw[aV]
    ·simp only;have hA:=aEV (s:=(P.take (j+1)).drop (k+1)) (x:=P.getD k default) (ok:=okG fs n) (n:=n) (now:=Z) (by simp_all);have hM:=aVL (fs:=fs) hn ((P.take (j+1)).drop k) (P.getD k default).Time;rw[last k (by omega)]at hM;rw[dk k (by omega)]at hM ⊢;rw[Af];by_cases hp:∃ p,p<n.Seq.length/\(∀ r,r<p->fU n r=2)/\Z.getD p default=true
     ·rw[hb1 hp,aA (hM.2 ⟨hc,hA.1 hp⟩),aV (n:=(j:Int)-(k:Int)),aV,fX,vN,hL];omega
     ·rw[hb2 hp,aF fun h=>hp (hA.2 (hM.1 h).2)]
    ·simp only; rw[aV]; omega
   ·rw[aF (bQ hc)];rw[Q]at hc;refine aC.2 ?_;show Sum.inl _=_
    congr 1
    have hkj':k<j:=by grind
    unfold mB;have e2:(P.take (j+1)).map (gpl fs n)=((P.take (j+1)).take (k+1)).map (gpl fs n)++((P.take (j+1)).drop (k+1)).map (gpl fs n):=by rw[<-eI,gV]
    rw[e2,Jz]
    ·grind
    ·intro x hx;obtain⟨d,hd,rfl⟩:=cU.1 hx;rw[last (k+1) (by omega)];obtain⟨i,hi,rfl⟩:=Oa hd;rw[dU,hL]at hi;have J:((P.take (j+1)).take (k+1))[i]=P.getD i default:=by rw[List.getElem_take,List.getElem_take,bU]
     rw[J];have h4:=hs.get (i:=i) (j:=k) (by omega) (by omega);show ¬ ((P.getD j default).Time-(P.getD i default).Time<n.Size);omega
 ·have J:(P.take (j+1)).drop (j+1)=[]:=kO (by omega);rw[J,iW];show _↔p=n.Seq.length;by_cases h:p=n.Seq.length
  ·simp_all
  ·rw[aF (fun D=>h D.1)];refine⟨fun D=>?_,fun D=>absurd D h⟩;rw[dV,Ck]at D;split at D <;> cases D
 ·have J:(P.take (j+1)).drop (j+1)=[]:=kO (by omega);rw[J]; rfl
noncomputable def aES (fs:List aS)(n:aG)(l:List aB):List aB:=iI n (gP n (l.getD 0 default).Row) 0 [] (plA fs n l)
theorem Yw{n:aG}{k:ByteArray}{a b:List aB}(hx:x∈ofK n 0 k b):∀ d,d∈ofK n 0 k a->gP n d.Row=gP n x.Row:=fun d D=>Ix ((gW.1 D).2.trans (gW.1 hx).2.symm)
theorem aMZ(row:List aE)(n:aG)(hc:oL n.Key row)(hl:n.Key.length<=1000):aDB row n.Key=some (gP n row):=by
 unfold aDB aOR;simp only[Tr.den];rw[aA ⟨⟨by omega,by rw[aV]; omega⟩,by rw[aV]; omega⟩];have h1:=aP (bd:=fun s=>(qT row n.Key s).den) (fun k=>((n.Key.take k).map fun c=>row.getD c.toNat default,(k:Int))) n.Key.length (r:=.inl (gP n row)) (fun k hk=>?_) ?_
 ·exact(congrArg (fun x=>Option.bind x _) h1).trans rfl
 ·unfold qT;simp only[Tr.den,aL];have hm:=hc _ (aM hk);rw[aA bL,aA,aA,aA (by grind),aK,aJ hk,eI];rfl
 ·unfold qT;simp only[Tr.den];rw[aF bQ,cF]; rfl
theorem Jp(row:List aE)(n:aG)(hc:oL n.Key row)(hl:n.Key.length<=1000):Vs row n.Key=some (gP n row):=by
 unfold Vs Vd;simp only[Tr.den];rw[aA ⟨⟨by omega,by rw[aV]; omega⟩,by rw[aV]; omega⟩];have h1:=aP (bd:=fun s=>(uP row n.Key s).den) (fun k=>((n.Key.take k).map fun c=>row.getD c.toNat default,(k:Int))) n.Key.length (r:=.inl (gP n row)) (fun k hk=>?_) ?_
 ·exact(congrArg (fun x=>Option.bind x _) h1).trans rfl
 ·unfold uP;simp only[Tr.den,aL];have hm:=hc _ (aM hk);rw[aA bL,aA,aA,aA (by grind),aK,aJ hk,eI];rfl
 ·unfold uP;simp only[Tr.den];rw[aF bQ,cF]; rfl
theorem aAE(b:Bool):aXW b=some (vB b):=by cases b <;> simp[aXW,aWJ,Tr.den,vB]
def plG(l:List aB):List aB:=l.flatMap fun d=>List.replicate d.N.toNat d
theorem Ps(fs:List aS)(n:aG)(l:List aB):(plG l).map (gpl fs n)=plA fs n l:=by
 unfold plG plA plD;rw[List.map_flatMap]
 congr 1
 funext d;rw[List.map_replicate]; rfl
theorem Ep{d:aB}(h:d∈plG l):d∈l:=by obtain⟨x,hx,h⟩:=jR.1 h;simp_all
theorem yG(h:∀ d,d∈l->d.N<=1000):(plG l).length<=l.length*1000:=by
 induction l with
 | nil=>simp[plG]
 | cons d l ih=>have h1:=h d cS;have h2:=ih fun x hx=>h x (cO _ hx);unfold plG at h2 ⊢;grind
theorem aKK(h:TS l):TS (plG l):=by
 induction l with
 | nil=>exact List.Pairwise.nil
 | cons d l ih=>
  have D:=lQ.1 h;unfold plG;rw[fL];refine wN.2 ⟨?_,ih D.2,fun x hx y hy=>?_⟩
  all_goals simp_all
structure aDJ (fs:List aS)(n:aG)(l:List aB):Prop where
 i:okI n 0 l
 ev:aEC fs n l
 ty:∀ d,d∈l->∀ p,p<n.Seq.length->TyV 2 (evV fs (n.Seq.getD p default).Pred d)
 nn:∀ d,d∈l->d.N<=1000
 len:l.length<=1000000
theorem bGF{n:aG}(h:aDJ fs n l)(hK:n.Seq.length<=8)(v1:List aB)(v2:List (List Bool))(hk:k<l.length):
  Sp (bW (fun s=>(Od fs n l (k:Int) s).den) (v1,v2,List.replicate n.Seq.length (default:Bool),0))
   (fun z=>∃ g:List Bool,z = .inl (v1,v2,g)/\g.length=n.Seq.length/\∀ p,p<n.Seq.length->(g.getD p default=true↔okG fs n (l.getD k default) p)):=by
 refine dB (fun s:List aB×List (List Bool)×List Bool×Int=>s.2.2.2) n.Seq.length (by omega) (fun s=>s.1=v1/\s.2.1=v2/\s.2.2.1.length=n.Seq.length/\∀ p:Nat,(p:Int)<s.2.2.2->(s.2.2.1.getD p default=true↔okG fs n (l.getD k default) p)) (fun s q J G M=>?_)
  ⟨rfl,rfl,qR,fun p hp=>absurd hp (by grind)⟩ rfl
 obtain⟨v6,Z,v8,Q⟩:=s;obtain⟨rfl,rfl,hl,hg⟩:=J;simp only at G hl hg;subst G;unfold Od;simp only[Tr.den,aL];by_cases hc:q<n.Seq.length
 ·have hm:=aM hk;have D:=h.ty _ hm q hc;rw[aA bL,aA,h.ev.get hm hc,aAE];simp only[aI];rw[aA,aA,aA (by simp; omega)];refine aC.2 ⟨rfl,hc,rfl,rfl,by simp_all,fun p hp=>?_⟩;rw[aK]at hp;simp only at hp ⊢;rw[iW];by_cases e:p=q
  ·subst e;rw[aA ⟨rfl,by omega⟩];have h1:((evV fs (n.Seq.getD p default).Pred (l.getD k default)).Kind==(vB true).Kind)=true:=dP.2 D.1;have h2:((evV fs (n.Seq.getD p default).Pred (l.getD k default)).S.toList==(vB true).S.toList)=true:=dP.2 (D.2.1 (by decide));rw[h1,h2,Bool.true_and,Bool.and_true,Bool.and_true,dP];rfl
  grind
 ·rw[aF bQ];exact aC.2 ⟨v8,rfl,hl,fun p hp=>hg p (by omega)⟩
theorem bGB(l:List aB)(hk:k<l.length)(D:(l.getD k default).N<=1000)(v1:List aB)(v2:List (List Bool))(g:List Bool)(h1:v1.length<=1000000000)(h2:v2.length<=1000000000):
  bW (fun s=>(zJ l (k:Int) s).den) (v1,v2,g,0)=some (.inl (v1++List.replicate (l.getD k default).N.toNat (l.getD k default),v2++List.replicate (l.getD k default).N.toNat g)):=by
 have h3:=aP (bd:=fun s=>(zJ l (k:Int) s).den) (fun i=>(v1++List.replicate i (l.getD k default),v2++List.replicate i g,g,(i:Int))) (l.getD k default).N.toNat (r:=.inl (v1++List.replicate (l.getD k default).N.toNat (l.getD k default),v2++List.replicate (l.getD k default).N.toNat g)) (fun i hi=>?_) ?_
 ·simp_all
 ·unfold zJ;simp only[Tr.den,aL];rw[aA bL,aA (by grind),aA (by grind),aK];rw[cR,cR,<-Mx,<-Mx]
 ·unfold zJ;simp only[Tr.den,aL];rw[aF bQ]
theorem aPO{n:aG}(h:aDJ fs n l)(hK:n.Seq.length<=8):
  Sp (bW (fun s=>(Oc fs n l s).den) (([]:List aB),([]:List (List Bool)),0)) (fun z=>∃ g,z = .inl (plG l,g)/\Vv fs n (plG l) g):=by
 refine dB (fun s:List aB×List (List Bool)×Int=>s.2.2) l.length (by have:=h.len; omega) (fun s=>s.1=plG (l.take s.2.2.toNat)/\Vv fs n s.1 s.2.1) (fun s k hI hk hkN=>?_)
  ⟨by rfl,rfl,fun i hi=>absurd hi (mX i),fun i hi=>absurd hi (mX i)⟩ rfl
 obtain⟨v1,v2,v3⟩:=s;obtain⟨G,hg⟩:=hI;simp only at hk G hg;subst hk;rw[aL]at G;subst G;have M:=h.len;have J:=yG (l:=l.take k) fun d Z=>h.nn d (oK Z);rw[dU]at J;unfold Oc;simp only[Tr.den,aL];by_cases hc:k<l.length
 ·have hN:=h.nn _ (aM hc);rw[aA bL,aA,aA ⟨⟨by omega,by omega⟩,by omega⟩];refine Sq.bind _ (Sq.of (bGF h hK (plG (l.take k)) v2 hc)) fun z Q=>?_;obtain⟨g,rfl,hgl,hgo⟩:=Q;simp only[sel];have hvl:=hg.len;rw[bGB l hc hN _ _ g (by omega) (by omega)];simp only[aI,sel];have eP:plG (l.take (k+1))=plG (l.take k)++List.replicate (l.getD k default).N.toNat (l.getD k default):=by unfold plG;rw[aJ hc,jC,fL,Fw,eQ]
  refine aC.2 ⟨rfl,hc,?_,?_,?_,?_⟩
  ·simp only; rw[aK,aL,eP]
  ·simp_all
  ·intro i hi;simp only at hi ⊢;rw[dR,qR]at hi;rw[cE];by_cases D:i<v2.length
   ·rw[aA D]; exact hg.sz i (by omega)
   grind
  ·intro i hi;simp only at hi ⊢;rw[dR,qR]at hi;rw[cE,cE];by_cases D:i<v2.length
   ·rw[aA D,aA]; exact hg.ok i (by omega)
   grind
 ·rw[aF bQ];rw[iU (by omega)]at hg ⊢;exact aC.2 ⟨v2,rfl,hg⟩
theorem Sj{n:aG}{P:List aB}{j:Nat}(D:j<P.length):
  (mB fs n (P.take (j+1))=0/\pU dY.time_ (nxF n) (Jg n) n.Size (tN n 1) ((P.take (j+1)).map (gpl fs n))=none) \/
  (∃ i:Nat,i<=j/\mB fs n (P.take (j+1))=(j:Int)-i+1/\pU dY.time_ (nxF n) (Jg n) n.Size (tN n 1) ((P.take (j+1)).map (gpl fs n))=some ((P.getD i default).Time,(j:Int)-i+1)):=by
 have h:=Fe dY.time_ (nxF n) (Jg n) n.Size (tN n 1) 0 (P.map (gpl fs n)) j (by simp_all);rw[<-List.map_take]at h;unfold mB;rcases h with⟨h,_⟩ | ⟨i,hi,_,h⟩
 ·simp_all
 ·have e:((P.map (gpl fs n)).getD i default).time_=(P.getD i default).Time:=by rw[bU (by grind),mW,<-bU (show i<P.length by omega)]; rfl
  grind
theorem aNZ{n:aG}{key:List aE}(h:aDJ fs n l)(hn:Rk n)(hs:TS l)(hk:∀ d,d∈l->gP n d.Row=key):bBP fs n l=some (iI n key 0 [] (plA fs n l)):=by
 have hK:=hn.seq.2;have hkl:=hn.key;refine Sp.eq ?_;unfold bBP aXB;simp only[Tr.den];refine Sq.bind _ (Sq.of (aPO h hK)) fun z hz=>?_;obtain⟨g,rfl,hg⟩:=hz;simp only[sel];have hlen:=h.len;have hpl:=yG h.nn;have Z:=aKK hs;have htm:fZ (plG l):=fun d Q=>h.i.t d (Ep Q);have D:∀ k,(iI n key 0 [] (((plG l).take k).map (gpl fs n))).length<=k:=fun k=>by
  have:∀ (a u:List dY),(iI n key 0 u a).length<=a.length:=fun a=>by
   induction a with
   | nil=>intro u; exact cM _
   | cons q a ih=>
    intro u;rw[iI,dR,fX];have h1:=ih (u++[q]);have h2:(if (0:Int)<=q.time_ then Da n key (u++[q]) else []).length<=1:=by
     split
     ·unfold Da; split <;> simp
     ·simp
    omega
  grind
 have h1:=aP (bd:=fun s=>(Eo n (plG l) g s).den) (fun k=>(iI n key 0 [] (((plG l).take k).map (gpl fs n)),(k:Int))) (plG l).length (r:=.inl (iI n key 0 [] (plA fs n l))) (fun k G=>?_) ?_
 ·rw[show (([]:List aB),(0:Int))=(fun k:Nat=>(iI n key 0 [] (((plG l).take k).map (gpl fs n)),(k:Int))) 0 from rfl,h1];exact aC.2 rfl
 ·unfold Eo;simp only[Tr.den,aL];have Q:=Ep (aM G);have J:=hk _ Q;have hol:=D k;have ht0:=(h.i.t _ Q).1;rw[aA bL,aA,aOT hK hn.size hg Z htm (by omega) G,aK];simp only[aI];have eL:((plG l).take k).map (gpl fs n)++[gpl fs n ((plG l).getD k default)]=((plG l).take (k+1)).map (gpl fs n):=by rw[aJ G,eI]; rfl
  have eS:iI n key 0 [] (((plG l).take (k+1)).map (gpl fs n))=iI n key 0 [] (((plG l).take k).map (gpl fs n))++Da n key (((plG l).take (k+1)).map (gpl fs n)):=by rw[<-eL,Ho,kK,iI,iI,eQ,aA (show (0:Int)<=(gpl fs n ((plG l).getD k default)).time_ from ht0)]
  rw[eS];unfold Da;have M:((((plG l).take (k+1)).map (gpl fs n)).getLastD default).time_=((plG l).getD k default).Time:=by rw[<-eL,uI]; rfl
  rw[M];rcases Sj (fs:=fs) (n:=n) G with⟨b1,b2⟩ | ⟨i,hi,b1,b2⟩
  ·simp_all
  ·rw[b2,b1,aA bL,Jp _ n (h.i.c _ Q) (by omega)];simp only[aI];have ew:IntKind.i64.wrap (IntKind.i64.wrap ((k:Int)-((k:Int)-i+1))+1)=(i:Int):=by rw[aV (n:=(k:Int)-((k:Int)-i+1)),aV]; omega
   rw[ew];simp only[aL];rw[aA,Np,Np];simp only[aI];rw[J,aA (by rw[<-J]; unfold gP; grind),aA (by grind)];rfl
 ·unfold Eo;simp only[Tr.den];rw[aF bQ,cF,Ps]
theorem aCL{r:List aE}(h:Hw r)(hl:r.length<=1000):(Ad r).size<=1000+r.length*1073742000:=by have h1:=vV ((⟨#[]⟩:ByteArray)++xH (r.length:Int)) r h;have h2:=mJ (n:=(r.length:Int)) ⟨by omega,by omega⟩;rw[rE,show (⟨#[]⟩:ByteArray).size=0 from rfl]at h1;unfold Ad;omega
theorem Ss{n:aG}(h:okI n 0 l)(hk:n.Key.length<=20)(hl:l.length<=1000000):aJW (aY (bO n 0 l))=true:=by
 unfold aJW;have h1:=jD n 0 l;rw[cQ,jX,fT];refine⟨by unfold aY; rw[dH]; omega,fun k G=>bL ?_⟩;have D:=nG.1 G;obtain⟨J,e⟩:=gW.1 (aM (fM.2 D));rw[<-e];refine fW (aCL (r:=gP n _) (fun v hv=>?_) (by unfold gP; rw[dH]; omega)) ?_
 ·obtain⟨c,_,rfl⟩:=cU.1 hv;exact Hw.get (h.v _ J) _
 ·unfold gP; rw[dH]; omega
theorem Nj{n:aG}(h:okI n 0 l)(hk:n.Key.length<=20)(hl:l.length<=1000000):aND l n.Key=some ((cK (aY (bO n 0 l))).map fun k=>ofK n 0 k l):=by
 unfold aND aXS;simp only[Tr.den];have h1:=aP (bd:=fun s=>(Dw l n.Key s).den) (fun k=>(bO n 0 (l.take k),(k:Int))) l.length (r:=.inl (bO n 0 l)) (fun k G=>?_) ?_
 ·refine(congrArg (fun x=>Option.bind x _) h1).trans ?_;simp only[aI,sel];rw[aA (Ss h hk hl)];simp only[aI];have hml:=jD n 0 l;have Q:=kI (aY (bO n 0 l));have hml':(aY (bO n 0 l)).length=(bO n 0 l).length:=dH _;generalize hks:cK (aY (bO n 0 l))=ks at Q ⊢;have h2:=aP (bd:=fun s=>(Ei (bO n 0 l) ks s).den) (fun k=>((ks.take k).map fun k=>ofK n 0 k l,ks,(k:Int))) ks.length (r:=.inl (ks.map fun k=>ofK n 0 k l)) (fun k G=>?_) ?_
  ·exact(congrArg (fun x=>Option.bind x _) h2).trans rfl
  ·unfold Ei;simp only[Tr.den,aL];have e:∀ c,ofK n 0 (ks.getD k default) l=c->(ks.take (k+1)).map (fun k=>ofK n 0 k l)=(ks.take k).map (fun k=>ofK n 0 k l)++[c]:=fun c hc=>by rw[aJ G,eI,<-hc]; rfl
   rw[aA bL,aA,aA,aK];have D:=rX n 0 (ks.getD k default) l;cases hc:bG (bO n 0 l) (ks.getD k default) with
   | none=>
    rw[hc]at D;have J:ofK n 0 (ks.getD k default) l=[]:=Rt fun J=>by rw[aF J]at D; cases D
    simp only;rw[aA (by simp only[dH,dU,oA]; omega),e _ J];rfl
   | some c=>
    rw[hc]at D;have J:ofK n 0 (ks.getD k default) l=c:=by
     by_cases J:ofK n 0 (ks.getD k default) l=[]
     ·rw[aA J]at D; cases D
     ·rw[aF J]at D; injection D with D; exact D.symm
    simp only;rw[aA (by simp only[dH,dU,oA]; omega),e _ J];rfl
  ·unfold Ei;simp only[Tr.den];rw[aF bQ,cF]
 ·unfold Dw;simp only[Tr.den,aL];have hm:=aM G;have Z:oL n.Key (l.getD k default).Row:=h.c _ hm;rw[aA bL,aA,aMZ _ n Z (by omega)];simp only[aI];rw[Zk _ (fun v hv=>by obtain⟨c,hcm,rfl⟩:=cU.1 hv;exact Hw.get (h.v _ hm) _) (by unfold gP; rw[dH]; omega)];simp only[aI];have h2:=iR n 0 (Oi n 0 (l.getD k default).Row) (l.take k);simp only[dU]at h2;have M:Ad (gP n (l.getD k default).Row)=Oi n 0 (l.getD k default).Row:=rfl;rw[M,aA (by rw[qD]; simp only[fX,rV]; omega),aK]
  congr 3
  unfold bO;rw[aJ G,Ao];rfl
 ·unfold Dw;simp only[Tr.den];rw[aF bQ,cF]
theorem jB(ks:List ByteArray):(cK ks).Perm ks:=by
 unfold cK;have h:=(List.mergeSort_perm (ks.map fun k=>k.data.toList) (fun x y=>decide (x<=y))).map fun l:List UInt8=>(⟨l.toArray⟩:ByteArray);refine h.trans ?_;rw[yU];have e:((fun l:List UInt8=>(⟨l.toArray⟩:ByteArray)) ∘ fun k:ByteArray=>k.data.toList)=id:=by funext k; rfl
 rw[e,List.map_id]
theorem LO.int:LO Int:=by
 have e:∀ a b:Int,MKey.lt a b=decide (a<b):=fun a b=>rfl;refine⟨fun a=>by rw[e]; simp,fun a b c h1 h2=>?_,fun a b h=>?_⟩
 all_goals grind
def zP(len step t:Int):Nat:=((t / step*step+len-t+step-1) / step).toNat
def mY(len step t:Int):List Int:=(List.range (zP len step t)).map fun i:Nat=>t / step*step-(i:Int)*step
theorem mZ{len step:Int}(hs:0<step)(i:Nat):i<zP len step t↔t<t / step*step-(i:Int)*step+len:=by
 unfold zP;have h1:i<((t / step*step+len-t+step-1) / step).toNat↔(i:Int)+1<=(t / step*step+len-t+step-1) / step:=by omega
 rw[h1,Int.le_ediv_iff_mul_le hs,Int.add_mul];omega
theorem aIM{len step:Int}(hs:0<step):b∈mY len step t↔step∣b/\b<=t/\t<b+len:=by
 unfold mY;rw[cU];have D:t / step*step<=t:=wT t (by omega);constructor
 ·rintro⟨i,hi,rfl⟩;have h1:=(mZ hs i).1 (Hi.1 hi);refine⟨⟨t / step-i,by rw[Int.mul_comm step,Int.sub_mul]⟩,?_,h1⟩;have:0<=(i:Int)*step:=wK (by omega) (by omega);omega
 ·rintro⟨⟨k,rfl⟩,h1,h2⟩;have h3:k<=t / step:=(Int.le_ediv_iff_mul_le hs).2 (by grind);have e:t / step*step-((t / step-k).toNat:Int)*step=step*k:=by grind
  refine⟨(t / step-k).toNat,Hi.2 ((mZ hs _).2 ?_),e⟩;omega
theorem vR{len step:Int}(hs:0<step):(mY len step t).Nodup:=by
 unfold mY;unfold List.Nodup;rw[At];refine List.nodup_range.imp fun {i j} D h=>D ?_;have h1:(i:Int)*step=(j:Int)*step:=by omega
 have:=Int.eq_of_mul_eq_mul_right (by omega) h1;omega
theorem Zo{len step:Int}(hs:0<step)(h:len<=step*c)(D:0<=t):zP len step t<=c:=by
 rcases Hn c (zP len step t) with h1 | h1
 ·exfalso;have h2:=(mZ hs c).1 h1;have G:t / step*step<=t:=wT t (by omega);grind
 omega
theorem aMS{len:Int}(hs:0<len):zP len len t=1:=by
 have h1:=(mZ (len:=len) (step:=len) (t:=t) hs 0);have h2:=(mZ (len:=len) (step:=len) (t:=t) hs 1);have D:t / len*len<=t:=wT t (by omega);have h3:t<t / len*len+len:=by have:=Int.lt_ediv_add_one_mul_self t hs;grind
 omega
abbrev ZP:=List (Int×List aB)
def rM(d:aB)(bs:List Int)(m:ZP):ZP:=bs.foldl (fun m b=>mput m b ((bG m b).getD []++[d])) m
def rY(len step:Int)(l:List aB):ZP:=l.foldl (fun m d=>rM d (mY len step d.Time) m) []
def inB(len step b:Int)(l:List aB):List aB:=l.filter fun d=>decide (b∈mY len step d.Time)
theorem aBH(d:aB):∀ (bs:List Int) {m:ZP},MC m->MC (rM d bs m)
 | [],_,h=>h
 | b::bs,_,h=>aBH d bs (h.mput LO.int _ _)
theorem Aq(d:aB)(b:Int):∀ (bs:List Int) (m:ZP),bs.Nodup->bG (rM d bs m) b=if b∈bs then some ((bG m b).getD []++[d]) else bG m b
 | [],m,_=>by rfl
 | c::bs,m,h=>by have h1:=xE.1 h;have e:rM d (c::bs) m=rM d bs (mput m c ((bG m c).getD []++[d])):=rfl;rw[e,Aq d b bs _ h1.2,qK];grind
theorem aTS(len step:Int)(l:List aB):MC (rY len step l):=by
 unfold rY;have:∀ (l:List aB) (m:ZP),MC m->MC (l.foldl (fun m d=>rM d (mY len step d.Time) m) m):=by
  intro l
  induction l with
  | nil=>simp_all
  | cons d l ih=>exact fun m h=>ih _ (aBH d _ h)
 exact this l [] aHF
theorem Bl{len step:Int}(hs:0<step)(b:Int)(l:List aB):bG (rY len step l) b=if inB len step b l=[] then none else some (inB len step b l):=by
 have:∀ (l:List aB) (m:ZP),bG (l.foldl (fun m d=>rM d (mY len step d.Time) m) m) b=if inB len step b l=[] then bG m b else some ((bG m b).getD []++inB len step b l):=by
  intro l
  induction l with
  | nil=>intro m; rfl
  | cons d l ih=>intro m;rw[lU,ih,Aq _ _ _ _ (vR hs)];unfold inB;grind
 have:=this l [];simpa[bG,rY] using this
theorem aGC{len step:Int}(hs:0<step)(b:Int)(l:List aB):(bG (rY len step l) b).getD []=inB len step b l:=by rw[Bl hs]; split <;> simp_all
theorem Rq{len step:Int}(hs:0<step):b∈aY (rY len step l)↔inB len step b l≠[]:=by rw[Gk,Bl hs];simp_all
theorem aKB{V:Type}(m:List (Int×V))(k:Int)(c:V):(mput m k c).length<=m.length+1:=by have h:=(Am m k c).length_eq;have h2:(mdel m k).length<=m.length:=lM _ _;simp_all
theorem Rj(d:aB):∀ (bs:List Int) (m:ZP),(rM d bs m).length<=m.length+bs.length
 | [],m=>cM _
 | b::bs,m=>by have h:=Rj d bs (mput m b ((bG m b).getD []++[d]));have h2:=aKB m b ((bG m b).getD []++[d]);have e:rM d (b::bs) m=rM d bs (mput m b ((bG m b).getD []++[d])):=rfl;grind
theorem xT(len step t:Int):(mY len step t).length=zP len step t:=by unfold mY; rw[dH,List.length_range]
theorem Ua{len step:Int}(hs:0<step)(hc:len<=step*c)(D:fZ l):(rY len step l).length<=l.length*c:=by
 unfold rY;have:∀ (l:List aB) (m:ZP),fZ l->(l.foldl (fun m d=>rM d (mY len step d.Time) m) m).length<=m.length+l.length*c:=by
  intro l
  induction l with
  | nil=>simp_all
  | cons d l ih=>intro m h;rw[lU];have h1:=ih (rM d (mY len step d.Time) m) fun x hx=>h x (cO _ hx);have h2:=Rj d (mY len step d.Time) m;rw[xT]at h2;have h3:=Zo (t:=d.Time) hs hc (h d cS).1;rw[fX,jG];omega
 grind
theorem qM(ks:List Int):(kE ks).Perm ks:=List.mergeSort_perm _ _
def jO(len step:Int)(l:List aB):List Int:=kE (aY (rY len step l))
theorem lH{len step:Int}(hs:0<step):b∈jO len step l↔inB len step b l≠[]:=by unfold jO; rw[(qM _).mem_iff,Rq hs]
theorem Ga(len step:Int)(l:List aB):(jO len step l).Nodup:=(qM _).nodup_iff.2 ((aTS len step l).nodup LO.int)
theorem pN{len step:Int}(hs:0<step)(hc:len<=step*c)(D:fZ l):(jO len step l).length<=l.length*c:=by unfold jO;rw[(qM _).length_eq];unfold aY;rw[dH];exact Ua hs hc D
theorem aVF{a:Int}(ha:0<=a)(hb:0<b)(h:a<=9223372036854775807):aYC a b=some (a / b):=by unfold aYC bAT;simp only[Tr.den];have h1:0<=a / b:=vX ha (by omega);have h2:a / b<=a:=Int.ediv_le_self b ha;rw[aF bQ,aA,Int.tdiv_eq_ediv_of_nonneg ha,aV]
theorem qE{β:Type}[Inhabited α](f:β->α->β)(b:β)(l:List α)(hk:k<l.length):(l.take (k+1)).foldl f b=f ((l.take k).foldl f b) (l.getD k default):=by rw[aJ hk,Ao]; rfl
def aPZ(ks:List Int)(m:ZP):List (Int×Option (List aB)):=ks.foldl (fun m b=>mput m b none) (m.map fun p=>(p.1,some p.2))
theorem aCM(m:ZP)(b:Int):bG (m.map fun p=>(p.1,some p.2)) b=(bG m b).map some:=by
 induction m with
 | nil=>rfl
 | cons p m ih=>simp only[fY,bG,ih];split <;> rfl
theorem Ka(m:ZP):aY (m.map fun p=>(p.1,some p.2))=aY m:=by unfold aY;simp_all
theorem aDG(b:Int):∀ (ks:List Int) (m:ZP),bG (aPZ ks m) b=if b∈ks then some none else (bG m b).map some:=by
 have:∀ (ks:List Int) (m:List (Int×Option (List aB))),bG (ks.foldl (fun m b=>mput m b none) m) b=if b∈ks then some none else bG m b:=by
  intro ks
  induction ks with
  | nil=>intro m; simp
  | cons c ks ih=>intro m;rw[lU,ih,qK];grind
 intro ks m;unfold aPZ;rw[this,aCM]
def Gy(len step:Int)(l:List aB):List aO:=(jO len step l).map fun b=>⟨b,b+len,inB len step b l⟩
theorem nM(len step b:Int)(l:List aB):(inB len step b l).length<=l.length:=lM _ _
theorem wF{len step:Int}(hl:1<=len/\len<=10000)(hs:1<=step/\step<=10000)(D:0<=t):zP len step t<=10000:=by refine Zo (by omega) ?_ D;omega
theorem aQM(l:List aB)(len step:Int)(k:Nat)(hk:k<l.length)(m:ZP)(hl:1<=len/\len<=10000)(hs:1<=step/\step<=10000)(J:0<=(l.getD k default).Time/\(l.getD k default).Time<=2199023255552)(hm:∀ b,((bG m b).getD []).length<=1000000):
  bW (fun s=>(zK l len step (k:Int) s).den) (m,(l.getD k default).Time / step*step)=some (.inl (rM (l.getD k default) (mY len step (l.getD k default).Time) m)):=by
 have hn:=xT len step (l.getD k default).Time;have hb:=vR (len:=len) (t:=(l.getD k default).Time) (show 0<step by omega);have G:=wF hl hs J.1;have hc:=fun i=>mZ (len:=len) (t:=(l.getD k default).Time) (show 0<step by omega) i;have h0:(l.getD k default).Time / step*step<=(l.getD k default).Time:=wT _ (by omega);have h00:0<=(l.getD k default).Time / step*step:=wK (vX J.1 (by omega)) (by omega);have Q:∀ i,i<(mY len step (l.getD k default).Time).length->(mY len step (l.getD k default).Time).getD i default=(l.getD k default).Time / step*step-(i:Int)*step:=fun i hi=>by rw[bU hi]; simp[mY]
 have D:∀ i:Nat,i<=10000->0<=(i:Int)*step/\(i:Int)*step<=10000*10000:=fun i hi=>
  ⟨wK (by omega) (by omega),Int.mul_le_mul (by omega) hs.2 (by omega) (by omega)⟩
 have h1:=aP (bd:=fun s=>(zK l len step (k:Int) s).den) (fun i=>(rM (l.getD k default) ((mY len step (l.getD k default).Time).take i) m,(l.getD k default).Time / step*step-(i:Int)*step)) (zP len step (l.getD k default).Time) (r:=.inl (rM (l.getD k default) (mY len step (l.getD k default).Time) m)) (fun i hi=>?_) ?_
 ·rw[<-h1];simp[rM]
 ·have M:=D i (by omega);unfold zK;simp only[Tr.den,aL];rw[aV,aA (bL ((hc i).1 hi))];have Z:((bG (rM (l.getD k default) ((mY len step (l.getD k default).Time).take i) m) ((l.getD k default).Time / step*step-(i:Int)*step)).getD []).length<=1000001:=by rw[Aq _ _ _ _ (hb.sublist (List.take_sublist _ _))];grind
  rw[aA (by grind),aV]
  congr 3
  ·unfold rM;rw[qE _ _ _ (by omega),Q i (by omega)]
  grind
 ·have M:=D (zP len step (l.getD k default).Time) G;unfold zK;simp only[Tr.den,aL];rw[aV,aF (bQ (show ¬ (_>_) from fun h=>absurd ((hc _).2 h) (Kq _))),<-hn,cF]
theorem jE{len step:Int}(hs:0<step)(D:fZ l)(hb:inB len step b l≠[]):-len<b/\b<=2199023255552:=by obtain⟨d,G⟩:=List.exists_mem_of_ne_nil _ hb;obtain⟨h1,h2⟩:=iQ.1 G;obtain⟨h3,h4,J⟩:=(aIM hs).1 (fK h2);have:=D d h1;omega
theorem Dk{len step:Int}(hl:1<=len/\len<=10000)(hs:1<=step/\step<=10000)(M:fZ l)(hn:l.length<=1000):aCQ l len step=some (Gy len step l):=by
 have D:0<step:=by omega
 have hln:len<=step*(10000:Nat):=by omega
 have hML:=Ua D hln M;have hWL:=pN D hln M;unfold aCQ aXV;simp only[Tr.den];have h1:=aP (bd:=fun s=>(Dm l len step s).den) (fun k=>(rY len step (l.take k),(k:Int))) l.length (r:=.inl (rY len step l)) (fun k G=>?_) ?_
 ·refine(congrArg (fun x=>Option.bind x _) h1).trans ?_;simp only[aI,sel];have hz:aIW (aY ((rY len step l).map fun p=>(p.1,some p.2)))=true:=by rw[Ka];unfold aIW;rw[cQ,jX,fT];refine⟨by unfold aY; grind,fun k hk=>bL ?_⟩;have:=jE D M ((Rq D).1 hk);omega
  rw[aA hz];simp only[aI];rw[Ka];have Z:=Ga len step l;have Q:∀ b,b∈jO len step l->bG (rY len step l) b=some (inB len step b l) /\ -len<b/\b<=2199023255552:=fun b hb=>by have h0:=(lH D).1 hb;exact⟨by rw[Bl D,aF h0],jE D M h0⟩
  unfold Gy;change (bW (fun s=>(xQ len (jO len step l) s).den) ((rY len step l).map fun p=>(p.1,some p.2),[],jO len step l,0)).bind _=_;generalize jO len step l=ks at Z Q hWL ⊢;have h2:=aP (bd:=fun s=>(xQ len ks s).den) (fun k=>(aPZ (ks.take k) (rY len step l),(ks.take k).map fun b=>(⟨b,b+len,inB len step b l⟩:aO),ks,(k:Int))) ks.length (r:=.inl (ks.map fun b=>(⟨b,b+len,inB len step b l⟩:aO))) (fun k G=>?_) ?_
  ·exact(congrArg (fun x=>Option.bind x _) h2).trans rfl
  ·have hm:=Q _ (aM G);have hni:ks.getD k default∉ks.take k:=fun h=>by have h3:=Z;rw[<-gV k ks,dF G,zH]at h3;grind
   unfold xQ;simp only[Tr.den,aL];rw[aA bL,aA,aA G,aDG,aF hni,hm.1];simp only[tM];rw[aA (by grind),aK,aV]
   congr 3
   ·unfold aPZ;rw[qE _ _ _ G]
   ·rw[aJ G,eI]; rfl
  ·unfold xQ;simp only[Tr.den];rw[aF bQ,cF]
 ·have hm:=aM G;have J:=M _ hm;unfold Dm;simp only[Tr.den,aL];rw[aA bL,aA,aVF J.1 D (by omega)];simp only[aI];have hw:IntKind.i64.wrap ((l.getD k default).Time / step*step)=(l.getD k default).Time / step*step:=by have h0:(l.getD k default).Time / step*step<=(l.getD k default).Time:=wT _ (by omega);have h00:0<=(l.getD k default).Time / step*step:=wK (vX J.1 (by omega)) (by omega);exact aV
  rw[hw,aQM l len step k G _ hl hs J fun b=>by rw[aGC D]; have:=nM len step b (l.take k); grind];simp only[aI,sel];rw[aK]
  congr 3
  unfold rY;rw[qE _ _ _ G]
 ·unfold Dm;simp only[Tr.den];rw[aF bQ,cF]
theorem Ww:aFJ=aCQ:=rfl
def kF(a b:Int):Int:=if b<a then b else a
def Cy(step e:Int)(s:List aO)(last:Int)(x:aB):List aO:=
 if s=[]\/x.Time-last>=step then s++[⟨x.Time,kF (x.Time+step) e,[x]⟩]
 else s.set (s.length-1) ⟨(s.getD (s.length-1) default).begin_,kF (x.Time+step) e,(s.getD (s.length-1) default).rows_++[x]⟩
def kM(step e:Int)(l:List aB):List aO×Int:=l.foldl (fun p x=>(Cy step e p.1 p.2 x,x.Time)) ([],-step)
def ses(step e:Int)(l:List aB):List aO:=(kM step e l).1
theorem aOE{step:Int}{s:List aO}{last:Int}:Cy step e s last x≠[]:=by
 unfold Cy;split
 all_goals simp_all
theorem jH{step:Int}(hk:k<l.length):kM step e (l.take (k+1))=(Cy step e (kM step e (l.take k)).1 (kM step e (l.take k)).2 (l.getD k default),(l.getD k default).Time):=by unfold kM; rw[qE _ _ _ hk]
theorem Zs{step:Int}(hk:k<l.length):(kM step e (l.take (k+1))).1≠[]:=by rw[jH hk]; exact aOE
theorem aLI{step:Int}{s:List aO}{last:Int}:(Cy step e s last x).length<=s.length+1:=by unfold Cy;grind
theorem wY(step e:Int)(l:List aB):(ses step e l).length<=l.length:=by
 have:∀ k,k<=l.length->(ses step e (l.take k)).length<=k:=by
  intro k
  induction k with
  | zero=>intro _; simp[ses,kM]
  | succ k ih=>intro hk;have h1:=ih (by omega);unfold ses at h1 ⊢;rw[jH (by omega)];have:=aLI (step:=step) (e:=e) (s:=(kM step e (l.take k)).1) (last:=(kM step e (l.take k)).2) (x:=l.getD k default);grind
 have h:=this l.length (cM _)
 rwa [cF]at h
theorem xN(step e:Int)(l:List aB):∀ k,k<=l.length->∀ w,w∈ses step e (l.take k)->w.rows_.length<=k:=by
 intro k
 induction k with
 | zero=>intro _ w hw; simp[ses,kM]at hw
 | succ k ih=>
  intro hk w hw;have h1:=ih (by omega);unfold ses at h1 hw;rw[jH (by omega)]at hw;simp only at hw;unfold Cy at hw;split at hw
  ·grind
  ·rename_i D;rcases aIE hw with hw | hw
   ·grind
   ·subst hw;have G:0<(kM step e (l.take k)).1.length:=fM.2 fun h=>D (.inl h);grind
theorem Tn(O s:List α)(w:α)(h:s≠[]):(O++s).set ((O++s).length-1) w=O++s.set (s.length-1) w:=by have D:0<s.length:=fM.2 h;grind
theorem wU[Inhabited α](O s:List α)(h:s≠[]):(O++s).getD ((O++s).length-1) default=s.getD (s.length-1) default:=by have D:0<s.length:=fM.2 h;grind
theorem aUI(n:aG)(J:List aO)(k:Nat)(O:List aO)(hs:1<=n.Step/\n.Step<=10000)(ht:fZ (J.getD k default).rows_)(hl:(J.getD k default).rows_.length<=1000)(hO:O.length<=1000000000)(he:-10000<=(J.getD k default).end_/\(J.getD k default).end_<=4398046511104):
  bW (fun s=>(zI n J (k:Int) s).den) (O,-n.Step,0)=some (.inl (O++ses n.Step (J.getD k default).end_ (J.getD k default).rows_)):=by
 generalize hR:(J.getD k default).rows_=R at ht hl;generalize hE:(J.getD k default).end_=E at he;have h1:=aP (bd:=fun s=>(zI n J (k:Int) s).den) (fun i=>(O++(kM n.Step E (R.take i)).1,(kM n.Step E (R.take i)).2,(i:Int))) R.length (r:=.inl (O++ses n.Step E R)) (fun i hi=>?_) ?_
 ·rw[<-h1];simp[kM]
 ·have hm:=ht _ (aM hi);have hr:=xN n.Step E R i (by omega);have M:=wY n.Step E (R.take i);rw[dU]at M;have G:-10000<=(kM n.Step E (R.take i)).2/\(kM n.Step E (R.take i)).2<=2199023255552:=by
   cases i with
   | zero=>simp only[List.take_zero,kM,List.foldl_nil]; omega
   | succ i=>rw[jH (by omega)]; have:=ht _ (aM (show i<R.length by omega)); omega
  have Z:i=0\/(kM n.Step E (R.take i)).1≠[]:=by
   cases i with
   | zero=>omega
   | succ i=>exact .inr (Zs (by omega))
  have he0:i=0->(kM n.Step E (R.take i)).1=[]:=by rintro rfl; rfl
  unfold ses at hr M;rw[jH hi];generalize hF:kM n.Step E (R.take i)=F at hr M G Z he0 ⊢;obtain⟨s,last⟩:=F;simp only at hr M G Z he0 ⊢;unfold zI;simp only[Tr.den,aL,hR,hE];rw[aA bL,aA];rw[aV (n:=(R.getD i default).Time-last),aV (n:=(R.getD i default).Time+n.Step),aK];generalize R.getD i default=x at hm ⊢;have hmin:(if E<x.Time+n.Step then E else x.Time+n.Step)=kF (x.Time+n.Step) E:=rfl;have fin:∀ j:List aO,j≠[]->j.length<=1000001000->(j.getD (j.length-1) default).rows_.length<=1000 ->
    (if 0<=IntKind.i64.wrap ((j.length:Int)-1)/\IntKind.i64.wrap ((j.length:Int)-1)<(j.length:Int) then if (IntKind.i64.wrap ((j.length:Int)-1)).toNat<j.length then if (IntKind.i64.wrap ((j.length:Int)-1)).toNat<j.length/\True/\True then
     if ((j.getD (IntKind.i64.wrap ((j.length:Int)-1)).toNat default).rows_.length+1)*40<=140737488355328 then if (IntKind.i64.wrap ((j.length:Int)-1)).toNat<j.length then if (IntKind.i64.wrap ((j.length:Int)-1)).toNat<j.length then
      some (Sum.inl (α:=List aO×Int×Int) (β:=List aO⊕((List aO×Int)⊕(List aO⊕List aO))) (j.set (IntKind.i64.wrap ((j.length:Int)-1)).toNat ⟨(j.getD (IntKind.i64.wrap ((j.length:Int)-1)).toNat default).begin_,if E<x.Time+n.Step then E else x.Time+n.Step,(j.getD (IntKind.i64.wrap ((j.length:Int)-1)).toNat default).rows_++[x]⟩,x.Time,((i+1:Nat):Int))) else none else none else none else none else none else none) =
    some (.inl (j.set (j.length-1) ⟨(j.getD (j.length-1) default).begin_,kF (x.Time+n.Step) E,(j.getD (j.length-1) default).rows_++[x]⟩,x.Time,((i+1:Nat):Int))):=fun j hj hj1 hj2=>by
   have h0:0<j.length:=fM.2 hj;have w:IntKind.i64.wrap ((j.length:Int)-1)=((j.length-1:Nat):Int):=by rw[aV]; omega
   rw[w,aL,aA,aA,aA ⟨by omega,trivial,trivial⟩,aA,aA,aA];rfl
  have Q:((if ((i:Int)==0)=true then some (O++s,true) else some (O++s,decide (x.Time-last>=n.Step))):Option (List aO×Bool))=some (O++s,decide (s=[]\/x.Time-last>=n.Step)):=by grind
  rw[Q];simp only[aI];by_cases hc:s=[]\/x.Time-last>=n.Step
  ·rw[bL hc];simp only[gT];rw[aA (by grind)];simp only[aI];have hj:O++s++[(⟨x.Time,0,[]⟩:aO)]≠[]:=by simp
   rw[fin _ hj (by grind) (by simp_all)];rw[Tn _ _ _ (by simp),wU _ _ (by simp)];unfold Cy;simp_all
  ·rw[kU hc];simp only[eO,eH,aI];have D:s≠[]:=fun h=>hc (.inl h);have h0:0<s.length:=fM.2 D;have hrr:=hr _ (aM (show s.length-1<s.length by omega));rw[fin _ (by simp[D]) (by grind) (by rw[wU _ _ D]; omega)];rw[Tn _ _ _ D,wU _ _ D];unfold Cy;rw[aF hc]
 ·unfold zI;simp only[Tr.den,aL,hR];rw[aF bQ,cF];rfl
def Po(n:aG)(l:List aB):List aO:=(jO n.Size n.Size l).flatMap fun b=>ses n.Step (b+n.Size) (inB n.Size n.Size b l)
theorem aNF{n:aG}(Z:1<=n.Size/\n.Size<=10000)(hs:1<=n.Step/\n.Step<=10000)(J:fZ l)(hn:l.length<=1000):aUN n l=some (Po n l):=by
 unfold aUN bDG;simp only[Tr.den];rw[Dk Z Z J hn];simp only[aI];have D:0<n.Size:=by omega
 have M:=pN (len:=n.Size) (step:=n.Size) (c:=1) D (by omega) J;have G:∀ b,b∈jO n.Size n.Size l -> -n.Size<b/\b<=2199023255552:=fun b hb=>jE D J ((lH D).1 hb);unfold Gy Po;generalize jO n.Size n.Size l=ks at M G ⊢;have Q:∀ r:List Int,(r.flatMap fun b=>ses n.Step (b+n.Size) (inB n.Size n.Size b l)).length<=r.length*1000:=fun r=>by
  induction r with
  | nil=>simp
  | cons b r ih=>have h1:=wY n.Step (b+n.Size) (inB n.Size n.Size b l);have h2:=nM n.Size n.Size b l;grind
 have h1:=aP (bd:=fun s=>(Eh n (ks.map fun b=>(⟨b,b+n.Size,inB n.Size n.Size b l⟩:aO)) s).den) (fun k=>((ks.take k).flatMap fun b=>ses n.Step (b+n.Size) (inB n.Size n.Size b l),(k:Int))) ks.length (r:=.inl (ks.flatMap fun b=>ses n.Step (b+n.Size) (inB n.Size n.Size b l))) (fun k hk=>?_) ?_
 ·exact(congrArg (fun x=>Option.bind x _) h1).trans rfl
 ·unfold Eh;simp only[Tr.den,dH];have e0:(ks.map fun b=>(⟨b,b+n.Size,inB n.Size n.Size b l⟩:aO)).getD k default=⟨ks.getD k default,ks.getD k default+n.Size,inB n.Size n.Size (ks.getD k default) l⟩:=by rw[bU (by simp_all),mW,<-bU hk]
  have hb:=G _ (aM hk);have h2:=nM n.Size n.Size (ks.getD k default) l;have h3:=Q (ks.take k);rw[dU]at h3;rw[aA bL,aA,show IntKind.i64.wrap (0-n.Step) = -n.Step by rw[aV] <;> omega];rw[aUI n _ k _ hs (by rw[e0]; exact fun d hd=>J d (iQ.1 hd).1) (by grind) (by omega) (by grind),e0];simp only[aI,sel];rw[aK,aJ hk,jC,iT]
 ·unfold Eh;simp only[Tr.den,dH];rw[aF bQ,cF]
def kA(g:gO)(l:List aB):Nat->aE×Int
 | 0=>(⟨0,0,⟨#[]⟩⟩,0)
 | k+1=>
  if g.Kind=0 then ((kA g l k).1,W ((kA g l k).2+(l.getD k default).N))
  else (if k=0\/(g.Kind=2/\gC ((l.getD k default).Row.getD g.Col.toNat default) (kA g l k).1<0)\/(g.Kind=3/\gC ((l.getD k default).Row.getD g.Col.toNat default) (kA g l k).1>0) then (l.getD k default).Row.getD g.Col.toNat default else (kA g l k).1,
   W ((kA g l k).2+W ((l.getD k default).N*((l.getD k default).Row.getD g.Col.toNat default).N)))
def Cr(g:gO)(l:List aB):aE:=if g.Kind=0\/g.Kind=1 then vI (kA g l l.length).2 else (kA g l l.length).1
theorem aTT{g:gO}(hc:g.Kind=0\/∀ d,d∈l->0<=g.Col/\g.Col<d.Row.length)(hn:l.length<=1000000):aZI g l=some (Cr g l):=by
 unfold aZI bBA;simp only[Tr.den];have h1:=aP (bd:=fun s=>(Dj g l s).den) (fun k=>((kA g l k).1.Kind,(kA g l k).1.N,(kA g l k).1.S,(kA g l k).2,(k:Int))) l.length (r:=.inl ((kA g l l.length).1.Kind,(kA g l l.length).1.N,(kA g l l.length).1.S,(kA g l l.length).2)) (fun k hk=>?_) ?_
 ·refine(congrArg (fun x=>Option.bind x _) h1).trans ?_;simp only[aI,sel];unfold Cr;by_cases D:g.Kind=0
  ·rw[aA (fA D),aA (.inl D)];rfl
  ·rw[aF (dJ D)];simp only[aI];by_cases h2:g.Kind=1
   ·rw[aA (fA h2),aA (.inr h2)];rfl
   simp_all
 ·unfold Dj;simp only[Tr.den,aL];rw[aA bL,aA,aK];by_cases D:g.Kind=0
  ·rw[aA (fA D)];simp only[aI];rw[show kA g l (k+1)=((kA g l k).1,W ((kA g l k).2+(l.getD k default).N)) by rw[kA,aA D]]
  ·rw[aF (dJ D),aA ((hc.resolve_left D) _ (aM hk)),wX];simp only[aI];have Z:=show kA g l (k+1)=_ by rw[kA,aF D]
   rw[Z];generalize kA g l k=p at *
   generalize (l.getD k default).Row.getD g.Col.toNat default=v at *
   obtain⟨⟨M,J,G⟩,nn⟩:=p;simp only;have Q:((if ((k:Int)==0)=true then some true else if (g.Kind==2)=true then if decide (gC v ⟨M,J,G⟩<0)=true then some true else if (g.Kind==3)=true then some (decide (gC v ⟨M,J,G⟩>0)) else some false else if (g.Kind==3)=true then some (decide (gC v ⟨M,J,G⟩>0)) else some false):Option Bool) =
     some (decide (k=0\/(g.Kind=2/\gC v ⟨M,J,G⟩<0)\/(g.Kind=3/\gC v ⟨M,J,G⟩>0))):=by
    grind
   grind
 ·unfold Dj;simp only[Tr.den];rw[aF bQ]
structure wO (n:aG):Prop where
 size:1<=n.Size/\n.Size<=10000
 kind:n.Kind=0\/(n.Kind=1/\1<=n.Step/\n.Step<=10000)\/(n.Kind=2/\1<=n.Step/\n.Step<=10000)
 key:n.Key.length<=20
 aggs:n.Aggs.length<=20
def Ct(n:aG)(l:List aB):Prop:=∀ g,g∈n.Aggs->g.Kind=0\/∀ d,d∈l->0<=g.Col/\g.Col<d.Row.length
theorem Ct.sub{n:aG}{r:List aB}(h:Ct n l)(hs:∀ x,x∈r->x∈l):Ct n r:=fun g hg=>(h g hg).imp id fun h d D=>h d (hs d D)
def oY(n:aG)(l:List aB):List aO:=if n.Kind=0 then Gy n.Size n.Size l else if n.Kind=1 then Gy n.Size n.Step l else Po n l
def Ib(n:aG)(l:List aB)(w:aO):aB:=⟨w.end_-1,(gP n (l.getD 0 default).Row++[vI w.begin_])++n.Aggs.map fun g=>Cr g w.rows_,1⟩
def kB(n:aG)(ks:List ByteArray)(l:List aB):List aB:=ks.flatMap fun k=>(oY n (ofK n 0 k l)).map (Ib n (ofK n 0 k l))
structure bCZ (l:List aB)(w:aO):Prop where
 sub:∀ d,d∈w.rows_->d∈l
 len:w.rows_.length<=l.length
 e:-10000<=w.end_/\w.end_<=4398046511104
theorem Zl{len step:Int}(hl:1<=len/\len<=10000)(hs:0<step)(G:fZ l):∀ w,w∈Gy len step l->bCZ l w:=fun w D=>by obtain⟨b,hb,rfl⟩:=cU.1 D;have:=jE hs G ((lH hs).1 hb);exact⟨fun d J=>(iQ.1 J).1,nM _ _ _ _,by grind,by grind⟩
theorem aJH{step:Int}(hs:1<=step/\step<=10000)(J:fZ l)(he:-10000<=e/\e<=4398046511104):∀ k,k<=l.length->∀ w,w∈ses step e (l.take k)->(∀ d,d∈w.rows_->d∈l) /\ -10000<=w.end_/\w.end_<=4398046511104:=by
 intro k
 induction k with
 | zero=>intro _ w hw; simp[ses,kM]at hw
 | succ k ih=>
  intro hk w hw;have h1:=ih (by omega);have hm:=aM (show k<l.length by omega);have M:=J _ hm;have G:-10000<=kF ((l.getD k default).Time+step) e/\kF ((l.getD k default).Time+step) e<=4398046511104:=by unfold kF; split <;> omega
  unfold ses at h1 hw;rw[jH (by omega)]at hw;simp only at hw;unfold Cy at hw;split at hw
  ·grind
  ·rename_i D;rcases aIE hw with hw | hw
   ·exact h1 w hw
   ·subst hw;have Q:0<(kM step e (l.take k)).1.length:=fM.2 fun h=>D (.inl h);grind
theorem aUV{n:aG}(Q:1<=n.Size/\n.Size<=10000)(hs:1<=n.Step/\n.Step<=10000)(M:fZ l):∀ w,w∈Po n l->bCZ l w:=fun w J=>by obtain⟨b,hb,J⟩:=jR.1 J;have hr:=jE (show 0<n.Size by omega) M ((lH (show 0<n.Size by omega)).1 hb);have D:∀ d,d∈inB n.Size n.Size b l->d∈l:=fun d G=>(iQ.1 G).1;have h1:=aJH (l:=inB n.Size n.Size b l) (e:=b+n.Size) hs (fun d G=>M d (D d G)) (by omega) _ (cM _) w (by simp_all);have h2:=xN n.Step (b+n.Size) (inB n.Size n.Size b l) _ (cM _) w (by simp_all);have h3:=nM n.Size n.Size b l;exact⟨fun d G=>D d (h1.1 d G),by omega,h1.2⟩
theorem Ts{len step:Int}(hl:1<=len/\len<=10000)(hs:1<=step/\step<=10000)(D:fZ l):(Gy len step l).length<=l.length*10000:=by unfold Gy;rw[dH];refine pN (by omega) ?_ D;omega
theorem aFR{n:aG}(J:1<=n.Size/\n.Size<=10000)(G:fZ l)(hn:l.length<=1000):(Po n l).length<=l.length*1000:=by
 have D:=pN (len:=n.Size) (step:=n.Size) (c:=1) (show 0<n.Size by omega) (by omega) G;unfold Po;generalize jO n.Size n.Size l=ks at D;have:∀ r:List Int,(r.flatMap fun b=>ses n.Step (b+n.Size) (inB n.Size n.Size b l)).length<=r.length*1000:=fun r=>by
  induction r with
  | nil=>simp
  | cons b r ih=>have h1:=wY n.Step (b+n.Size) (inB n.Size n.Size b l);have h2:=nM n.Size n.Size b l;grind
 grind
theorem aCO{n:aG}(hn:wO n)(G:fZ l):∀ w,w∈oY n l->bCZ l w:=by
 have D:=hn.size;unfold oY;rcases hn.kind with h | ⟨h,hs⟩ | ⟨h,hs⟩
 ·rw[aA h]; exact Zl D (by omega) G
 ·rw[aF,aA h]; exact Zl D (by omega) G
 ·rw[aF,aF]; exact aUV D hs G
theorem wR{n:aG}(hn:wO n)(G:fZ l)(hl:l.length<=1000):(oY n l).length<=10000000:=by
 have D:=hn.size;unfold oY;rcases hn.kind with h | ⟨h,hs⟩ | ⟨h,hs⟩
 ·rw[aA h]; have:=Ts D D G; omega
 ·rw[aF,aA h]; have:=Ts D hs G; omega
 ·rw[aF,aF]; have:=aFR D G hl; omega
theorem aRP(n:aG)(D:List aO)(k:Nat)(v:List aB)(row:List aE)(ha:n.Aggs.length<=20)(hr:row.length<=1000)(G:(D.getD k default).rows_.length<=1000000)(hc:Ct n (D.getD k default).rows_):
  bW (fun s=>(xF n D (k:Int) s).den) (v,row,0)=some (.inl (v,row++n.Aggs.map fun g=>Cr g (D.getD k default).rows_)):=by
 have h1:=aP (bd:=fun s=>(xF n D (k:Int) s).den) (fun i=>(v,row++(n.Aggs.take i).map fun g=>Cr g (D.getD k default).rows_,(i:Int))) n.Aggs.length (r:=.inl (v,row++n.Aggs.map fun g=>Cr g (D.getD k default).rows_)) (fun i hi=>?_) ?_
 ·simp_all
 ·unfold xF;simp only[Tr.den,aL];rw[aA bL,aA,aTT (hc _ (aM hi)) G];simp only[aI];rw[aA (by grind),aK,aJ hi,eI,<-cR];rfl
 ·unfold xF;simp only[Tr.den];rw[aF bQ,cF]
theorem aRG{n:aG}(hn:wO n)(h:okI n 0 l)(ha:Ct n l)(hl:l.length<=1000):aZH n l=some (kB n (cK (aY (bO n 0 l))) l):=by
 have hz:=hn.size;have hkl:=hn.key;have hml:=jD n 0 l;have hks:(cK (aY (bO n 0 l))).length<=1000:=by rw[kI]; unfold aY; grind
 have Z:∀ k,k∈cK (aY (bO n 0 l))->ofK n 0 k l≠[]:=fun k hk=>nG.1 ((jB _).mem_iff.1 hk);have J:∀ k,∀ x,x∈ofK n 0 k l->x∈l:=fun k x hx=>(gW.1 hx).1;have D:∀ k,fZ (ofK n 0 k l):=fun k d hd=>h.t d (J k d hd);have G:∀ k,(ofK n 0 k l).length<=1000:=fun k=>by have:=iR n 0 k l; omega
 unfold aZH aXF;simp only[Tr.den];rw[Nj h hkl (by omega)];simp only[aI];generalize hKS:cK (aY (bO n 0 l))=ks at hks Z ⊢;have hFl:∀ r:List ByteArray,(kB n r l).length<=r.length*10000000:=fun r=>by
  induction r with
  | nil=>simp[kB]
  | cons k r ih=>have h1:=wR hn (D k) (G k);unfold kB at ih ⊢;grind
 have h1:=aP (bd:=fun s=>(Eb n (ks.map fun k=>ofK n 0 k l) s).den) (fun k=>(kB n (ks.take k) l,(k:Int))) ks.length (r:=.inl (kB n ks l)) (fun k hk=>?_) ?_
 ·exact(congrArg (fun x=>Option.bind x _) h1).trans rfl
 ·unfold Eb;simp only[Tr.den,aL,dH];have e0:(ks.map fun k=>ofK n 0 k l).getD k default=ofK n 0 (ks.getD k default) l:=by rw[bU (by simp_all),mW,<-bU hk]
  have h3:=hFl (ks.take k);rw[dU]at h3;have hR:=Z _ (aM hk);rw[aA bL,aA];have hW:((if (n.Kind==0)=true then (aCQ ((ks.map fun k=>ofK n 0 k l).getD k default) n.Size n.Size).bind fun r=>some (kB n (ks.take k) l,r) else
    (if (n.Kind==1)=true then (aCQ ((ks.map fun k=>ofK n 0 k l).getD k default) n.Size n.Step).bind fun r=>some (kB n (ks.take k) l,r) else
     (if (n.Kind==2)=true then (aUN n ((ks.map fun k=>ofK n 0 k l).getD k default)).bind fun r=>some (kB n (ks.take k) l,r) else some (kB n (ks.take k) l,[])).bind fun v=>some (v.1,v.2)).bind fun v=>some (v.1,v.2)):Option (List aB×List aO))=some (kB n (ks.take k) l,oY n (ofK n 0 (ks.getD k default) l)):=by
   rw[e0];unfold oY;rcases hn.kind with h | ⟨h,hs⟩ | ⟨h,hs⟩
   ·rw[aA (fA h),aA h,Dk hz hz (D _) (G _)]; rfl
   ·rw[aF dJ,aA (fA h),aF,aA h,Dk hz hs (D _) (G _)]; rfl
   ·rw[aF dJ,aF dJ,aA (fA h),aF,aF,aNF hz hs (D _) (G _)]; rfl
  refine(congrArg (fun x=>Option.bind x _) hW).trans ?_;simp only[aI];have Q:=aCO hn (D (ks.getD k default));have hwl:=wR hn (D (ks.getD k default)) (G _);have e1:kB n (ks.take (k+1)) l=kB n (ks.take k) l++(oY n (ofK n 0 (ks.getD k default) l)).map (Ib n (ofK n 0 (ks.getD k default) l)):=by unfold kB;rw[aJ hk,jC,iT]
  rw[e1];generalize kB n (ks.take k) l=out at h3 ⊢;generalize hw:oY n (ofK n 0 (ks.getD k default) l)=ws at Q hwl ⊢;have h2:=aP (bd:=fun s=>(Dt n (ks.map fun k=>ofK n 0 k l) (k:Int) ws s).den) (fun i=>(out++(ws.take i).map (Ib n (ofK n 0 (ks.getD k default) l)),(i:Int))) ws.length (r:=.inl (out++ws.map (Ib n (ofK n 0 (ks.getD k default) l)))) (fun i hi=>?_) ?_
  ·rw[show (out,(0:Int))=(out++(ws.take 0).map (Ib n (ofK n 0 (ks.getD k default) l)),((0:Nat):Int)) by simp,h2];simp only[aI,sel];rw[aK]
  ·unfold Dt;simp only[Tr.den,aL];have hm:=aM hi;have h0:0<(ofK n 0 (ks.getD k default) l).length:=fM.2 hR;have hr0:=aM h0;have M:=Q _ hm;have holl:=M.len;have hkk:=G (ks.getD k default);rw[aA bL,aA,aA (by simp_all),e0];rw[show (0:Int).toNat=0 from rfl,Jp _ n (h.c _ (J _ _ hr0)) (by omega)];simp only[aI,Np];have hkp:=pV n ((ofK n 0 (ks.getD k default) l).getD 0 default).Row;rw[aA];rw[aRP n ws i _ _ hn.aggs (by grind) (by omega) (ha.sub fun d hd=>J _ d (M.sub d hd))];simp only[aI,sel];have hoe:=M.e;rw[aA (by grind),aK,aV,aJ hi,eI,<-cR];rfl
  ·unfold Dt;simp only[Tr.den];rw[aF bQ,cF]
 ·unfold Eb;simp only[Tr.den,dH];rw[aF bQ,cF]
theorem rU{K:Type}(p:Pl->Bool)(f:K->List aB):∀ ks:List K,wt p (ks.flatMap f)=Xu (fun k=>wt p (f k)) ks
 | []=>rfl
 | k::ks=>by rw[fL,jV,rU p f ks]; rfl
theorem nV{K:Type}{f g:K->Int}:∀ {ks:List K},(∀ k,k∈ks->f k=g k)->Xu f ks=Xu g ks
 | [],_=>rfl
 | k::ks,h=>by simp only[Xu];rw[h k cS,nV fun k hk=>h k (cO _ hk)]
section
variable (n:aG) (len step:Int) (g:Int->List aB->List aB)
def Qs(ks:List ByteArray)(l:List aB):List aB:=ks.flatMap fun k=>(jO len step (ofK n 0 k l)).flatMap fun b=>g b (inB len step b (ofK n 0 k l))
theorem aTH(p:Pl->Bool)(ks:List ByteArray)(l:List aB):wt p (Qs n len step g ks l)=Xu (fun k=>Xu (fun b=>wt p (g b (inB len step b (ofK n 0 k l)))) (jO len step (ofK n 0 k l))) ks:=by unfold Qs;rw[rU];exact nV fun k _=>rU _ _ _
variable {n len step g}
end
theorem Wf:aKW=aND:=rfl
def pA(tm:Int):Int->List aB->List aB
 | _,[]=>[]
 | left,x::l=>⟨tm,x.Row,kF left x.N⟩::pA tm (left-kF left x.N) l
def tF:Int->List aB->Int
 | left,[]=>left
 | left,x::l=>tF (left-kF left x.N) l
theorem Re(tm:Int):∀ (l r:List aB) (left:Int),pA tm left (l++r)=pA tm left l++pA tm (tF left l) r
 | [],_,_=>rfl
 | x::l,r,left=>by rw[vM,pA,pA,Re tm l r]; rfl
theorem Qy:∀ (l r:List aB) (left:Int),tF left (l++r)=tF (tF left l) r
 | [],_,_=>rfl
 | x::l,r,left=>by rw[vM,tF,tF,Qy l r]
theorem xX(tm:Int):∀ (l:List aB) (left:Int),(pA tm left l).length=l.length
 | [],_=>rfl
 | x::l,left=>by rw[pA,fX,xX tm l,fX]
theorem aAI:∀ (l:List aB) (left:Int),(∀ d,d∈l->0<=d.N)->0<=left->0<=tF left l/\tF left l<=left
 | [],left,_,h=>⟨h,Int.le_refl _⟩
 | x::l,left,h,h0=>by
  have hx:=h x cS;have hm:0<=kF left x.N/\kF left x.N<=left:=by unfold kF; split <;> omega
  have:=aAI l (left-kF left x.N) (fun d hd=>h d (cO _ hd)) (by omega);rw[tF]; omega
structure Tf (n:aG):Prop where
 size:1<=n.Size/\n.Size<=10000
 keep:1<=n.Keep/\n.Keep<=100
 key:n.Key.length<=20
def Ja(n:aG)(S:List aB->List aB)(b:Int)(l:List aB):List aB:=pA (b+n.Size-1) n.Keep (S l)
def mN(n:aG)(S:List aB->List aB)(ks:List ByteArray)(l:List aB):List aB:=Qs n n.Size n.Size (Ja n S) ks l
theorem aQT(D:List aO)(i:Nat)(hi:i<D.length)(r out:List aB)(v8:List (List aB))(keep:Int)(hk:1<=keep/\keep<=100)(J:∀ d,d∈r->0<=d.N/\d.N<=1000)(hr:r.length<=1000)(ho:out.length<=10000000000)(he:-10000<=(D.getD i default).end_/\(D.getD i default).end_<=4398046511104):
  bW (fun s=>(xS D (i:Int) r s).den) (out,keep,v8,0)=some (.inl (out++pA ((D.getD i default).end_-1) keep r,v8,D.set i ⟨(D.getD i default).begin_,(D.getD i default).end_,r⟩)):=by
 have h1:=aP (bd:=fun s=>(xS D (i:Int) r s).den) (fun k=>(out++pA ((D.getD i default).end_-1) keep (r.take k),tF keep (r.take k),v8,(k:Int))) r.length (r:=.inl (out++pA ((D.getD i default).end_-1) keep r,v8,D.set i ⟨(D.getD i default).begin_,(D.getD i default).end_,r⟩)) (fun k G=>?_) ?_
 ·rw[<-h1]; simp[pA,tF]
 ·have hs:=aAI (r.take k) keep (fun d M=>(J d (oK M)).1) (by omega);have hx:=J _ (aM G);have hm:0<=kF (tF keep (r.take k)) (r.getD k default).N/\kF (tF keep (r.take k)) (r.getD k default).N<=tF keep (r.take k):=by unfold kF; split <;> omega
  unfold xS;simp only[Tr.den,aL];rw[aA bL,aA,aA G,aV (n:=(D.getD i default).end_-1)];rw[aA (by simp only[dR,xX,dU,oA]; omega),aK];change some (Sum.inl (_,IntKind.i64.wrap (tF keep (r.take k)-kF (tF keep (r.take k)) (r.getD k default).N),_,_))=_;rw[aV,aJ G,Re,Qy,<-cR];rfl
 ·unfold xS;simp only[Tr.den,aL];rw[aF bQ,cF]
theorem aQA{n:aG}(hn:Tf n)(h:okI n 0 l)(hN:∀ d,d∈l->0<=d.N/\d.N<=1000)(hl:l.length<=1000){S:List aB->List aB}(hS:∀ r,r.Sublist l->Hy r n=some (S r)/\(S r).Perm r):
  bCY n l=some (mN n S (cK (aY (bO n 0 l))) l):=by
 have hz:=hn.size;have G:0<n.Size:=by omega
 have hkp:=hn.keep;have hkl:=hn.key;have hml:=jD n 0 l;have hks:(cK (aY (bO n 0 l))).length<=1000:=by rw[kI]; unfold aY; grind
 have Z:∀ k,(ofK n 0 k l).Sublist l:=fun k=>oQ;have hsub:∀ k,∀ x,x∈ofK n 0 k l->x∈l:=fun k x hx=>(Z k).subset hx;have J:∀ k,fZ (ofK n 0 k l):=fun k d hd=>h.t d (hsub k d hd);have hkn:∀ k,(ofK n 0 k l).length<=1000:=fun k=>by grind
 have hSl:∀ r,r.Sublist l->(S r).length<=1000:=fun r hr=>by rw[(hS r hr).2.length_eq]; grind
 have Q:∀ k,(jO n.Size n.Size (ofK n 0 k l)).length<=1000:=fun k=>by have:=pN (len:=n.Size) (step:=n.Size) (c:=1) G (by omega) (J k);grind
 unfold bCY bCK;simp only[Tr.den];rw[Wf,Nj h hkl (by omega)];simp only[aI];generalize hKS:cK (aY (bO n 0 l))=ks at hks ⊢;have hil:∀ k b,(inB n.Size n.Size b (ofK n 0 k l)).Sublist l:=fun k b=>List.Sublist.trans oQ (Z k);have hFk:∀ k (r:List Int),(r.flatMap fun b=>Ja n S b (inB n.Size n.Size b (ofK n 0 k l))).length<=r.length*1000:=fun k r=>by
  induction r with
  | nil=>simp
  | cons b r ih=>have:=hSl _ (hil k b);unfold Ja at ih ⊢;rw[fL,dR,xX,fX]; omega
 have hFl:∀ r:List ByteArray,(mN n S r l).length<=r.length*1000000:=fun r=>by
  induction r with
  | nil=>simp[mN,Qs]
  | cons k r ih=>have h1:=hFk k (jO n.Size n.Size (ofK n 0 k l));have h2:=Q k;unfold mN Qs at ih ⊢;grind
 have h1:=aP (bd:=fun s=>(De n (ks.map fun k=>ofK n 0 k l) s).den) (fun k=>(mN n S (ks.take k) l,ks.map fun k=>ofK n 0 k l,(k:Int))) ks.length (r:=.inl (mN n S ks l)) (fun k hk=>?_) ?_
 ·exact(congrArg (fun x=>Option.bind x _) h1).trans rfl
 ·unfold De;simp only[Tr.den,aL,dH];have e0:(ks.map fun k=>ofK n 0 k l).getD k default=ofK n 0 (ks.getD k default) l:=by rw[bU (by simp_all),mW,<-bU hk]
  have h3:=hFl (ks.take k);rw[dU]at h3;rw[aA bL,aA,aA hk,e0,Ww,Dk hz hz (J _) (hkn _)];simp only[aI];have e1:mN n S (ks.take (k+1)) l=mN n S (ks.take k) l++(jO n.Size n.Size (ofK n 0 (ks.getD k default) l)).flatMap fun b=>Ja n S b (inB n.Size n.Size b (ofK n 0 (ks.getD k default) l)):=by unfold mN Qs;rw[aJ hk,jC,iT]
  have hF2:=hFk (ks.getD k default);have D:=hil (ks.getD k default);have M:∀ b,b∈jO n.Size n.Size (ofK n 0 (ks.getD k default) l) -> -n.Size<b/\b<=2199023255552:=fun b hb=>jE G (J _) ((lH G).1 hb);have hb2:=Q (ks.getD k default);rw[e1];unfold Gy;generalize mN n S (ks.take k) l=out at h3 ⊢;generalize jO n.Size n.Size (ofK n 0 (ks.getD k default) l)=bs at M hb2 ⊢;generalize ofK n 0 (ks.getD k default) l=L at hF2 D ⊢;have h2:=aP (bd:=fun s=>(Df n (ks.map fun k=>ofK n 0 k l) (k:Int) (bs.map fun b=>(⟨b,b+n.Size,inB n.Size n.Size b L⟩:aO)) s).den)
   (fun i=>(out++(bs.take i).flatMap (fun b=>Ja n S b (inB n.Size n.Size b L)),ks.map fun k=>ofK n 0 k l,(bs.take i).map (fun b=>(⟨b,b+n.Size,S (inB n.Size n.Size b L)⟩:aO))++(bs.drop i).map (fun b=>(⟨b,b+n.Size,inB n.Size n.Size b L⟩:aO)),(i:Int))) bs.length
   (r:=.inl (out++bs.flatMap (fun b=>Ja n S b (inB n.Size n.Size b L)),ks.map fun k=>ofK n 0 k l)) (fun i hi=>?_) ?_
  ·simp only[List.take_zero,Fw,eQ,Ce,kK,Hf]at h2;refine(congrArg (fun x=>Option.bind x _) h2).trans ?_;simp only[aI,sel];rw[aK]
  ·have hm:=M _ (aM hi);have hSi:=hS _ (D (bs.getD i default));have hSl2:=hSl _ (D (bs.getD i default));have hFi:=hF2 (bs.take i);rw[dU]at hFi;have hla:((bs.take i).map (fun b=>(⟨b,b+n.Size,S (inB n.Size n.Size b L)⟩:aO))).length=i:=by grind
   have hlb:((bs.take i).map (fun b=>(⟨b,b+n.Size,S (inB n.Size n.Size b L)⟩:aO))++(bs.drop i).map (fun b=>(⟨b,b+n.Size,inB n.Size n.Size b L⟩:aO))).length=bs.length:=by grind
   have hg:((bs.take i).map (fun b=>(⟨b,b+n.Size,S (inB n.Size n.Size b L)⟩:aO))++(bs.drop i).map (fun b=>(⟨b,b+n.Size,inB n.Size n.Size b L⟩:aO))).getD i default=⟨bs.getD i default,bs.getD i default+n.Size,inB n.Size n.Size (bs.getD i default) L⟩:=by simp_all
   unfold Df;simp only[Tr.den,aL,dH];rw[aA bL,aA,aA,aA ⟨by omega,by simp⟩,hg,hSi.1];simp only[aI];rw[aQT _ i (by omega) _ _ _ _ hkp (fun d hd=>hN d ((D _).subset (hSi.2.mem_iff.1 hd))) hSl2 (by grind) (by grind)];simp only[aI,sel];rw[aK,hg]
   congr 3
   ·rw[aJ hi,jC,iT,<-cR]; rfl
   ·congr 2
    rw[List.set_append,aF,hla,Nat.sub_self,dF hi,fY,List.set_cons_zero,aJ hi,eI,cR];rfl
  ·unfold Df;simp only[Tr.den,dH];rw[aF bQ,cF]
 ·unfold De;simp only[Tr.den,dH];rw[aF bQ,cF]
end Go.PL
namespace Go.PL.St
open Go Go.PL
set_option linter.unusedVariables false
set_option maxRecDepth 20000
variable {a i j k w:Nat} {l:List aB}
def vT(nd:aG)(d:aB):aE:=d.Row.getD nd.Step.toNat default
abbrev kT (nd:aG)(d:aB):aE×Pl:=(vT nd d,pl d)
def cmpK(a b:aE×Pl):Int:=eR (gC b.1 a.1) (Ux a.2 b.2)
theorem TO.flip{α:Type}{c:α->α->Int}(h:TO c):TO (fun x y=>c y x):=⟨fun a b=>by rw[h.eq]; exact eq_comm,fun a b=>h.sw b a,fun a b d h1 h2=>h.tr d b a h2 h1⟩
theorem TO.key:TO cmpK:=TO.lex (f:=fun x:aE×Pl=>x.1) (g:=fun x=>x.2) (TO.flip TO.val) TO.place (fun _ _ h1 h2=>Prod.ext h1 h2)
def ltL(nd:aG)(a b:aB):Bool:=decide (cmpK (kT nd a) (kT nd b)<0)
theorem iM(nd:aG):Sort.SWO (ltL nd):=by
 constructor
 ·intro x; simp[ltL,(TO.key.eq (kT nd x) (kT nd x)).2 rfl]
 ·intro x y z h1 h2;simp only[ltL,decide_eq_true_eq]at *
  exact TO.key.tr _ _ _ h1 h2
 ·intro x y z h1 h2;simp only[ltL]at h1 h2 ⊢;have h1:=of_decide_eq_false h1;have h2:=of_decide_eq_false h2;refine decide_eq_false fun h3=>?_;have s1:=TO.key.sw (kT nd x) (kT nd y);have Z:=TO.key.sw (kT nd y) (kT nd z);have Q:=TO.key.sw (kT nd y) (kT nd x);have M:=TO.key.sw (kT nd z) (kT nd y);have J:=TO.key.sw (kT nd x) (kT nd z);have G:=TO.key.sw (kT nd z) (kT nd x);by_cases h4:cmpK (kT nd x) (kT nd y)=0
  ·rw[(TO.key.eq _ _).1 h4]at h3; omega
  ·by_cases D:cmpK (kT nd y) (kT nd z)=0
   ·rw[<-(TO.key.eq _ _).1 D]at h3; omega
   ·have:=TO.key.tr (kT nd z) (kT nd y) (kT nd x) (by omega) (by omega);omega
theorem Av{nd:aG}{x y:aB}(h:ltL nd x y=true):ltL nd y x=false:=by
 cases hh:ltL nd y x with
 | false=>rfl
 | true=>have:=(iM nd).trans _ _ _ h hh;rw[(iM nd).irrefl]at this; cases this
theorem Se{nd:aG}{a b:aB}(h:dC b a<0):decide (gC (vT nd b) (vT nd a)<0)=ltL nd a b:=by
 unfold ltL cmpK eR;by_cases D:gC (vT nd b) (vT nd a)=0
 ·rw[if_pos D,D];have h1:0<Ux (kT nd a).2 (kT nd b).2:=by
   have:=yS.2 h
   rwa [qI]at this
  rw[decide_eq_false (by omega),decide_eq_false (by omega)]
 simp_all
abbrev okT (nd:aG)(d:aB):Prop:=0<=nd.Step/\nd.Step<d.Row.length
def okTs(nd:aG)(l:List aB):Prop:=∀ x,x∈l->okT nd x
theorem okTs.get{nd:aG}(h:okTs nd l)(hk:k<l.length):okT nd (l.getD k default):=h _ (aM hk)
theorem okTs.perm{nd:aG}{r:List aB}(h:okTs nd l)(hp:l.Perm r):okTs nd r:=fun x hx=>h x (hp.mem_iff.2 hx)
theorem pP{a b:aB}{nd:aG}(ha:okT nd a)(hb:okT nd b):Xm a b nd=some (gC (vT nd b) (vT nd a)):=by unfold Xm Wo;simp only[Tr.den];rw[if_pos hb,if_pos ha,wX]; rfl
def Bef(A B:List aB):Prop:=∀ x,x∈A->∀ y,y∈B->dC x y<0
section
variable {nd:aG}
theorem aMN(nd:aG)(a a2 v2:Int)(J:Nat)(ha:a=J):∀ (j:Nat) (l:List aB),okTs nd l->(∀ k,J<=k->k<j->dC (l.getD k default) (l.getD j default)<0)->j<l.length->l.length<=1000000000000000 ->
  bW (fun s=>(mK a a2 nd v2 s).den) (l,(j:Int))=some (.inl (Sort.insInner (ltL nd) J j l.toArray).toList):=by
 intro j
 induction j with
 | zero=>intro l hl M G hn;refine fQ ?_;unfold mK;simp only[Tr.den];rw[if_neg (by simp; omega)];rfl
 | succ j ih=>
  intro l hl M G hn;have Q:IntKind.i64.wrap (((j+1:Nat):Int)-1)=(j:Int):=sO (by omega);by_cases hc:J<j+1
  ·have D:=M j (by omega) (by omega);cases hd:(ltL nd) (l.getD (j+1) default) (l.getD j default) with
   | false=>refine fQ ?_;unfold mK;simp only[Tr.den];rw[Q];rw[if_pos (by simp; omega),if_pos (by omega),if_pos (by omega),if_pos (by omega),if_pos (by omega)];simp only[Int.toNat_natCast];rw[pP (hl.get (k:=j+1) G) (hl.get (k:=j) (by omega))];simp only[Option.bind_some];rw[Se D,hd];simp only[Bool.false_eq_true,if_false];unfold Sort.insInner;simp_all
   | true=>
    rw[lJ (s':=(pG l (j+1) j,(j:Int)))]
    ·have h2:=ih (pG l (j+1) j) (hl.perm (uB l G (by omega)).symm) (fun k k1 k2=>by have h4:=M k k1 (by omega);unfold pG;grind) (by rw[sS]; omega) (by rw[sS]; exact hn);rw[h2,sN]
     conv=>rhs; unfold Sort.insInner
     simp_all
    ·unfold mK;simp only[Tr.den];rw[Q];rw[if_pos (by simp; omega),if_pos (by omega),if_pos (by omega),if_pos (by omega),if_pos (by omega)];simp only[Int.toNat_natCast];rw[pP (hl.get (k:=j+1) G) (hl.get (k:=j) (by omega))];simp only[Option.bind_some];rw[Se D,hd];simp only[if_true];rw[if_pos (by omega),if_pos (by omega),if_pos (by omega),if_pos (by omega),if_pos (by omega),if_pos (by omega),if_pos (by omega),if_pos (by omega),if_pos (by simp; omega)];rfl
  ·refine fQ ?_;unfold mK;simp only[Tr.den];rw[if_neg (by simp; omega)];simp only[Option.bind_some,Bool.false_eq_true,if_false];unfold Sort.insInner;simp[hc]
theorem bCB(nd:aG)(a:Nat):∀ (j:Nat) (l:List aB),j<l.length->∀ k,(j<k\/k<a->(Sort.insInner (ltL nd) a j l.toArray).toList.getD k default=l.getD k default) /\
  (a<=k->k<=j->∃ k',a<=k'/\k'<=j/\(Sort.insInner (ltL nd) a j l.toArray).toList.getD k default=l.getD k' default):=by
 intro j
 induction j with
 | zero=>intro l _ k; exact⟨fun _=>rfl,fun h1 h2=>⟨k,h1,h2,rfl⟩⟩
 | succ j ih=>
  intro l hj k;unfold Sort.insInner;split
  ·rename_i hc;simp only[Bool.and_eq_true,decide_eq_true_eq]at hc;rw[<-sN];obtain⟨h1,h2⟩:=ih (pG l (j+1) j) (by rw[sS]; omega) k;have g:∀ q,(pG l (j+1) j).getD q default=if q=j then l.getD (j+1) default else if q=j+1 then l.getD j default else l.getD q default:=fun q=>by
    unfold pG;rw[iW];by_cases D:q=j
    ·subst D; rw[if_pos ⟨rfl,by simp; omega⟩,if_pos rfl]
    ·rw[if_neg (by omega),if_neg D,iW];simp_all
   refine⟨fun h=>?_,fun D q2=>?_⟩
   ·rw[h1 (by omega),g,if_neg (by omega),if_neg (by omega)]
   ·by_cases Z:k=j+1
    ·grind
    ·obtain⟨k',M,J,G⟩:=h2 D (by omega);rw[g]at G;by_cases Q:k'=j
     all_goals grind
  grind
theorem Xa(nd:aG)(a b:Nat)(n:Nat):∀ (i:Nat) (l:List aB),b-i=n->a<i->b<=l.length->l.length<=1000000000000000->okTs nd l->(∀ k m,a<=k->k<m->i<=m->m<b->dC (l.getD k default) (l.getD m default)<0) ->
  bW (fun s=>(uO (a:Int) (b:Int) nd s).den) (l,(i:Int))=some (.inl (Sort.insOuter (ltL nd) a b i l.toArray).toList):=by
 induction n with
 | zero=>intro i l hi ha hb hn hl G;refine fQ ?_;unfold uO;simp only[Tr.den];rw[if_neg (by simp; omega),Sort.insOuter,if_neg (by omega)]
 | succ n ih=>
  intro i l hi ha hb hn hl G;have h1:=aMN nd (a:Int) (b:Int) (i:Int) a rfl i l hl (fun k k1 k2=>G k i k1 k2 (Nat.le_refl _) (by omega)) (by omega) hn;have hp:=(Sort.insInner_spec (iM nd) Sort.swp_permIn Sort.permIn_refl Sort.permIn_trans 0 b i (by omega));have J:(Sort.insInner (ltL nd) a i l.toArray).size=l.length:=by
   have:∀ (j:Nat) (d:Array aB),(Sort.insInner (ltL nd) a j d).size=d.size:=by
    intro j
    induction j with
    | zero=>intro d; rfl
    | succ j ih=>intro d; unfold Sort.insInner; split <;> simp[ih,Sort.swp_size]
   simp_all
  have D:(Sort.insInner (ltL nd) a i l.toArray).toList.Perm l:=by
   have:∀ (j:Nat) (d:Array aB),j<d.size->(Sort.insInner (ltL nd) a j d).toList.Perm d.toList:=by
    intro j
    induction j with
    | zero=>intro d _; rfl
    | succ j ih=>
     intro d hd;unfold Sort.insInner;split
     ·refine(ih _ (by rw[Sort.swp_size]; omega)).trans ?_;have e:=sN d.toList (j+1) j;rw[Array.toArray_toList]at e;rw[<-e];exact uB d.toList (i:=j+1) (j:=j) (by omega) (by simp; omega)
     rfl
   grind
  rw[lJ (s':=((Sort.insInner (ltL nd) a i l.toArray).toList,((i+1:Nat):Int)))]
  ·rw[ih (i+1) _ (by omega) (by omega) (by simp_all) (by simp_all) (hl.perm D.symm) (fun k m m1 Z Q M=>by have hm:=fun q=>bCB nd a i l (by omega) q;grind)]
   conv=>rhs; rw[Sort.insOuter,if_pos (by omega)]
  ·unfold uO;simp only[Tr.den];rw[if_pos (by simp; omega),h1];simp only[Option.bind_some,sel];rw[aK]
theorem aCS(nd:aG)(a b:Nat)(l:List aB)(hb:b<=l.length)(J:a<=b)(hn:l.length<=1000000000000000)(hl:okTs nd l)(G:∀ k m,a<=k->k<m->m<b->dC (l.getD k default) (l.getD m default)<0):My (a:Int) (b:Int) l nd=some (Sort.insertionSort (ltL nd) l.toArray a b).toList:=by unfold My Wv;simp only[Tr.den];rw[aK,Xa nd a b _ (a+1) l rfl (by omega) hb hn hl (fun k m k1 k2 _ D=>G k m k1 k2 D)];rfl
theorem aTP(nd:aG)(G a2 D:Int)(l:List aB):aLY G a2 D l nd=zV G a2 D l:=by rfl
theorem bDT(b:Int)(s:List aB×Int):(Kk b s).den=(mC b s).den:=by rfl
theorem bAR(b:Int)(s:List aB×Int):(Ke b s).den=(mG b s).den:=by rfl
def Srt(nd:aG)(l:List aB):Prop:=l.Pairwise (fun x y=>(ltL nd) y x=false)
theorem Srt.app{r:List aB}:Srt nd (l++r)↔Srt nd l/\Srt nd r/\∀ x,x∈l->∀ y,y∈r->(ltL nd) y x=false:=by unfold Srt; rw[List.pairwise_append]
theorem Srt.get(h:Srt nd l)(D:i<=j)(G:j<l.length):(ltL nd) (l.getD j default) (l.getD i default)=false:=by
 rcases Nat.lt_or_eq_of_le D with h1 | h1
 ·rw[bU G,bU (show i<l.length by omega)];exact List.pairwise_iff_getElem.1 h i j (by omega) G h1
 ·subst h1; exact(iM nd).irrefl _
theorem qJ(h:∀ i j,i<j->j<l.length->(ltL nd) (l.getD j default) (l.getD i default)=false):Srt nd l:=by
 unfold Srt;rw[List.pairwise_iff_getElem];intro i j hi G D;have:=h i j D G
 rwa [bU G,bU hi]at this
def gI(nd:aG)(P A B Q:List aB):Int×Int×Int×List aB×aG:=((P.length:Int),((P.length+A.length:Nat):Int),((P.length+A.length+B.length:Nat):Int),P++(A++(B++Q)),nd)
def aXI(nd:aG)(a:Int×Int×Int×List aB×aG):Prop:=∃ P A B Q,a=gI nd P A B Q/\Bef A B/\A≠[]/\B≠[]/\Srt nd A/\Srt nd B/\okTs nd (P++(A++(B++Q)))/\(P++(A++(B++Q))).length<=1000000000000000
def aYZ(nd:aG)(a:Int×Int×Int×List aB×aG)(d:List aB):Prop:=∀ P A B Q,a=gI nd P A B Q->∃ C,d=P++(C++Q)/\C.Perm (A++B)/\Srt nd C
theorem Bk{P A B Q D J G Q':List aB}(h:gI nd P A B Q=gI nd D J G Q'):P=D/\A=J/\B=G/\Q=Q':=by unfold gI at h;simp only[Prod.mk.injEq]at h;obtain⟨h1,h2,h3,h4,_⟩:=h;obtain⟨e1,Z⟩:=List.append_inj h4 (by omega);obtain⟨e2,M⟩:=List.append_inj Z (by omega);obtain⟨e3,e4⟩:=List.append_inj M (by omega);simp_all
theorem Ve{A:List aB}(h:Srt nd A){D:Nat}(hk:k<=D)(G:D < A.length)(x:aB)(hp:(ltL nd) (A.getD D default) x=true):(ltL nd) (A.getD k default) x=true:=by
 have:=h.get hk G;cases hc:(ltL nd) (A.getD k default) x with
 | true=>rfl
 | false=>rw[<-hp];exact((iM nd).ntrans _ _ _ this hc).symm
theorem Nc{A:List aB}(h:Srt nd A){D:Nat}(hk:k<=D)(G:D < A.length)(x:aB)(hp:(ltL nd) x (A.getD D default)=false):(ltL nd) x (A.getD k default)=false:=by exact(iM nd).ntrans _ _ _ hp (h.get hk G)
section
variable (b:Bool) (P A B Q:List aB)
theorem Hu(x:aB)(hb:Bef [x] B)(hB:Srt nd B)(ho:okTs nd (P++x::(B++Q)))(hn:(P++x::(B++Q)).length<=1000000000000000):
  Sq b (bW (fun s=>(uH (P.length:Int) (P++x::(B++Q)) nd s).den) (((P.length+1:Nat):Int),((P.length+1+B.length:Nat):Int)))
   (sel (fun r:Int=>∃ n:Nat,r=((P.length+1+n:Nat):Int)/\n<=B.length/\(∀ k,k<n->(ltL nd) (B.getD k default) x=true)/\(∀ k,n<=k->k<B.length->(ltL nd) (B.getD k default) x=false)) (fun _=>False)):=by
 simp only[List.length_append,List.length_cons]at hn;have Z:(P++x::(B++Q)).length=P.length+1+B.length+Q.length:=by simp; omega
 have e1:(P++x::(B++Q)).getD P.length default=x:=by grind
 have M:∀ k,k<B.length->(P++x::(B++Q)).getD (P.length+1+k) default=B.getD k default:=by intro k hk;rw[cE,if_neg (by omega),show P.length+1+k-P.length=k+1 by omega,List.getD_cons_succ,cE,if_pos hk]
 refine(Km b _ (fun h=>(ltL nd) ((P++x::(B++Q)).getD h default) x) (P.length+1) (P.length+1+B.length) (by omega) (fun i j h1 h2 h3=>?_) (fun i h1 h2=>?_) (fun h k h1 h2 h3 h4=>?_)).imp ?_
 ·unfold uH;simp only[Tr.den];rw[oX (by omega)];simp only[Int.toNat_natCast];rw[Z];rw[if_pos (by simp; omega),if_pos (by omega),if_pos (by omega),if_pos (by omega),if_pos (by omega)];rw[pP (ho.get (k:=(i+j) / 2) (by omega)) (ho.get (k:=P.length) (by omega)),e1];simp only[Option.bind_some];rw[Se (nd:=nd) (a:=(P++x::(B++Q)).getD ((i+j) / 2) default) (b:=x) (by rw[show (i+j) / 2=P.length+1+((i+j) / 2-(P.length+1)) by omega,M _ (by omega)];exact hb x (by simp) _ (aM (by omega)))];cases (ltL nd) ((P++x::(B++Q)).getD ((i+j) / 2) default) x with
  | true=>simp only[if_true,Option.bind_some]; rw[aK]
  | false=>rfl
 ·unfold uH;simp only[Tr.den];rw[if_neg (by simp)]
 ·obtain⟨D,rfl⟩:∃ D,k=P.length+1+D:=⟨k-(P.length+1),by omega⟩;obtain⟨J,rfl⟩:∃ J,h=P.length+1+J:=⟨h-(P.length+1),by omega⟩;rw[M _ (by omega)]at h4 ⊢;exact Ve hB (by omega) (by omega) x h4
 ·intro z G;cases z with
  | inr z=>exact G
  | inl z=>
   obtain⟨n,rfl,h1,h2,h3,h4⟩:=G;refine⟨n-(P.length+1),by omega,by omega,fun k hk=>?_,fun k hk1 hk2=>?_⟩
   all_goals grind
theorem Az(y:aB)(hb:Bef A [y])(hA:Srt nd A)(ho:okTs nd (P++(A++y::Q)))(hn:(P++(A++y::Q)).length<=1000000000000000):
  Sq b (bW (fun s=>(uL ((P.length+A.length:Nat):Int) (P++(A++y::Q)) nd s).den) ((P.length:Int),((P.length+A.length:Nat):Int)))
   (sel (fun r:Int=>∃ n:Nat,r=((P.length+n:Nat):Int)/\n<=A.length/\(∀ k,k<n->(ltL nd) y (A.getD k default)=false)/\(∀ k,n<=k->k<A.length->(ltL nd) y (A.getD k default)=true)) (fun _=>False)):=by
 simp only[List.length_append,List.length_cons]at hn;have Z:(P++(A++y::Q)).length=P.length+A.length+1+Q.length:=by simp; omega
 have e1:(P++(A++y::Q)).getD (P.length+A.length) default=y:=by grind
 have M:∀ k,k<A.length->(P++(A++y::Q)).getD (P.length+k) default=A.getD k default:=by intro k hk;rw[cE,if_neg (by omega),show P.length+k-P.length=k by omega,cE,if_pos hk]
 refine(Km b _ (fun h=>!(ltL nd) y ((P++(A++y::Q)).getD h default)) P.length (P.length+A.length) (by omega) (fun i j h1 h2 h3=>?_) (fun i h1 h2=>?_) (fun h k h1 h2 h3 h4=>?_)).imp ?_
 ·unfold uL;simp only[Tr.den];rw[oX (by omega)];simp only[Int.toNat_natCast];rw[Z];rw[if_pos (by simp; omega),if_pos (by omega),if_pos (by omega),if_pos (by omega),if_pos (by omega)];rw[pP (ho.get (k:=P.length+A.length) (by omega)) (ho.get (k:=(i+j) / 2) (by omega)),e1];simp only[Option.bind_some];rw[Se (nd:=nd) (a:=y) (b:=(P++(A++y::Q)).getD ((i+j) / 2) default) (by rw[show (i+j) / 2=P.length+((i+j) / 2-P.length) by omega,M _ (by omega)];exact hb _ (aM (by omega)) y (by simp))];cases (ltL nd) y ((P++(A++y::Q)).getD ((i+j) / 2) default) with
  | true=>simp
  | false=>simp; rw[aV] <;> omega
 ·unfold uL;simp only[Tr.den];rw[if_neg (by simp)]
 ·obtain⟨D,rfl⟩:∃ D,k=P.length+D:=⟨k-P.length,by omega⟩;obtain⟨J,rfl⟩:∃ J,h=P.length+J:=⟨h-P.length,by omega⟩;rw[M _ (by omega)]at h4 ⊢;simp only[Bool.not_eq_true']at h4 ⊢;exact Nc hA (by omega) (by omega) y h4
 ·intro z G;cases z with
  | inr z=>exact G
  | inl z=>
   obtain⟨n,rfl,h1,h2,h3,h4⟩:=G;refine⟨n-P.length,by omega,by omega,fun k hk=>?_,fun k hk1 hk2=>?_⟩
   all_goals grind
end
theorem Srt.take{l:List aB}(h:Srt nd l)(n:Nat):Srt nd (l.take n):=List.Pairwise.sublist (List.take_sublist _ _) h
theorem Srt.drop{l:List aB}(h:Srt nd l)(n:Nat):Srt nd (l.drop n):=List.Pairwise.sublist (List.drop_sublist _ _) h
theorem yQ{x:aB}{n:Nat}(h:Srt nd l)(h1:∀ k,k<n->k<l.length->(ltL nd) x (l.getD k default)=false)(h2:∀ k,n<=k->k<l.length->(ltL nd) (l.getD k default) x=false):Srt nd (l.take n++x::l.drop n):=by
 rw[show x::l.drop n=[x]++l.drop n from rfl,Srt.app,Srt.app];refine⟨h.take n,⟨List.pairwise_singleton _ _,h.drop n,fun a ha y hy=>?_⟩,fun a ha y hy=>?_⟩
 ·simp only[List.mem_singleton]at ha;subst ha;obtain⟨k,h3,h4,rfl⟩:=dI hy;simp_all
 ·obtain⟨k,h3,h4,rfl⟩:=dQ ha;simp only[List.mem_append,List.mem_singleton]at hy;rcases hy with rfl | hy
  ·simp_all
  ·obtain⟨G,J,D,rfl⟩:=dI hy;exact h.get (by omega) D
theorem aMT{A B:List aB}(hA:Srt nd A)(M:Srt nd B){u v:Nat}(hu:u<=A.length)(hv:v<=B.length)
  (h1:0<u->v<B.length->(ltL nd) (B.getD v default) (A.getD (u-1) default)=false)(h2:0<v->u<A.length->(ltL nd) (A.getD u default) (B.getD (v-1) default)=false)
  {C D:List aB}(Z:C.Perm (A.take u++B.take v))(Q:D.Perm (A.drop u++B.drop v))(sC:Srt nd C)(sD:Srt nd D):Srt nd (C++D)/\(C++D).Perm (A++B):=by
 constructor
 ·rw[Srt.app];refine⟨sC,sD,fun x hx y hy=>?_⟩;have hx:=Z.mem_iff.1 hx;have hy:=Q.mem_iff.1 hy;rw[List.mem_append]at hx hy;rcases hx with hx | hx
  ·obtain⟨i,i1,i2,rfl⟩:=dQ hx;rcases hy with hy | hy
   ·obtain⟨j,J,G,rfl⟩:=dI hy;exact hA.get (by omega) G
   ·obtain⟨j,J,G,rfl⟩:=dI hy;exact(iM nd).ntrans _ _ _ (M.get J G) ((iM nd).ntrans _ _ _ (h1 (by omega) (by omega)) (hA.get (i:=i) (j:=u-1) (by omega) (by omega)))
  ·obtain⟨i,i1,i2,rfl⟩:=dQ hx;rcases hy with hy | hy
   ·obtain⟨j,J,G,rfl⟩:=dI hy;exact(iM nd).ntrans _ _ _ (hA.get J G) ((iM nd).ntrans _ _ _ (h2 (by omega) (by omega)) (M.get (i:=i) (j:=v-1) (by omega) (by omega)))
   ·obtain⟨j,J,G,rfl⟩:=dI hy;exact M.get (by omega) G
 ·refine(Z.append Q).trans ?_;have e:(A++B).Perm (A.take u++(A.drop u++(B.take v++B.drop v))):=by rw[List.take_append_drop,<-List.append_assoc,List.take_append_drop]
  refine List.Perm.trans ?_ e.symm;rw[List.append_assoc];refine List.Perm.append_left _ ?_;rw[<-List.append_assoc,<-List.append_assoc];exact List.Perm.append_right _ List.perm_append_comm
section
variable (b:Bool) (P A B Q:List aB)
theorem Ic(J:Bef A B)(hA:Srt nd A)(hB:Srt nd B)(ho:okTs nd (P++(A++(B++Q))))(hn:(P++(A++(B++Q))).length<=1000000000000000)(i0 j0:Nat)(D:Nat)(G:D=(P.length+(P.length+A.length+B.length)) / 2)
  (h1:P.length<=i0)(h2:i0<=j0)(h3:j0<=P.length+A.length)(h4:j0<=D)(h5:D<=B.length+i0):
  Sq b (bW (fun s=>(pM (P.length:Int) ((P.length+A.length:Nat):Int) ((P.length+A.length+B.length:Nat):Int) (P++(A++(B++Q))) nd s).den) ((i0:Int),(j0:Int)))
   (sel (fun r:Int=>∃ n:Nat,r=(n:Int)/\i0<=n/\n<=j0/\(∀ c,i0<=c->c<n->(ltL nd) (B.getD (D-1-c) default) (A.getD (c-P.length) default)=false)/\(∀ c,n<=c->c<j0->(ltL nd) (B.getD (D-1-c) default) (A.getD (c-P.length) default)=true)) (fun _=>False)):=by
 simp only[List.length_append]at hn;have hL:(P++(A++(B++Q))).length=P.length+A.length+B.length+Q.length:=by simp; omega
 have e1:∀ k,P.length<=k->k<P.length+A.length->(P++(A++(B++Q))).getD k default=A.getD (k-P.length) default:=by intro k k1 k2;rw[cE,if_neg (by omega),cE,if_pos (by omega)]
 have e2:∀ k,P.length+A.length<=k->k<P.length+A.length+B.length->(P++(A++(B++Q))).getD k default=B.getD (k-(P.length+A.length)) default:=by grind
 refine(Km b _ (fun c=>!(ltL nd) (B.getD (D-1-c) default) (A.getD (c-P.length) default)) i0 j0 h2 (fun i j q1 Z q3=>?_) (fun i q1 Z=>?_) (fun h k q1 Z q3 M=>?_)).imp ?_
 ·unfold pM;simp only[Tr.den];rw[oX (i:=P.length) (j:=P.length+A.length+B.length) (by omega),<-G,oX (i:=i) (j:=j) (by omega)];have w1:IntKind.i64.wrap (IntKind.i64.wrap (IntKind.i64.wrap ((D:Int)+((P.length+A.length:Nat):Int))-1)-(((i+j) / 2:Nat):Int))=((D+(P.length+A.length)-1-(i+j) / 2:Nat):Int):=by rw[dM (by omega),aV (n:=((D+(P.length+A.length):Nat):Int)-1),aV];omega
  rw[w1];simp only[Int.toNat_natCast];rw[hL];rw[if_pos (by simp; omega),if_pos (by omega),if_pos (by omega),if_pos (by omega),if_pos (by omega)];rw[pP (ho.get (k:=D+(P.length+A.length)-1-(i+j) / 2) (by omega)) (ho.get (k:=(i+j) / 2) (by omega))];simp only[Option.bind_some];rw[e1 ((i+j) / 2) (by omega) (by omega),e2 (D+(P.length+A.length)-1-(i+j) / 2) (by omega) (by omega),show D+(P.length+A.length)-1-(i+j) / 2-(P.length+A.length)=D-1-(i+j) / 2 by omega];rw[Se (nd:=nd) (a:=B.getD (D-1-(i+j) / 2) default) (b:=A.getD ((i+j) / 2-P.length) default) (J _ (aM (by omega)) _ (aM (by omega)))];cases (ltL nd) (B.getD (D-1-(i+j) / 2) default) (A.getD ((i+j) / 2-P.length) default) with
  | true=>simp
  | false=>simp; rw[aV] <;> omega
 ·unfold pM;simp only[Tr.den];rw[if_neg (by simp)]
 ·simp only[Bool.not_eq_true']at M ⊢;exact(iM nd).ntrans _ _ _ (hB.get (i:=D-1-h) (j:=D-1-k) (by omega) (by omega)) ((iM nd).ntrans _ _ _ M (hA.get (i:=k-P.length) (j:=h-P.length) (by omega) (by omega)))
 simp_all
end
theorem aXN(b:Bool)(f:Xt)(P A B Q:List aB)(J:Bef A B)(hA0:A≠[])(hB0:B≠[])(hA:Srt nd A)(hB:Srt nd B)(ho:okTs nd (P++(A++(B++Q))))(hn:(P++(A++(B++Q))).length<=1000000000000000)
  (hrec:∀ P' A' B' Q',Bef A' B'->A'≠[]->B'≠[]->Srt nd A'->Srt nd B'->okTs nd (P'++(A'++(B'++Q')))->(P'++(A'++(B'++Q'))).length<=1000000000000000->A'.length+B'.length<A.length+B.length ->
   Sq b (f.1 (gI nd P' A' B' Q')) (fun d=>∃ C,d=P'++(C++Q')/\C.Perm (A'++B')/\Srt nd C)):
  Sq b (Ay f (P.length:Int) ((P.length+A.length:Nat):Int) ((P.length+A.length+B.length:Nat):Int) (P++(A++(B++Q))) nd).den (fun d=>∃ C,d=P++(C++Q)/\C.Perm (A++B)/\Srt nd C):=by
 have hA1:0<A.length:=List.length_pos_iff.2 hA0;have hB1:0<B.length:=List.length_pos_iff.2 hB0;have G:=hn;simp only[List.length_append]at hn;have hL:(P++(A++(B++Q))).length=P.length+A.length+B.length+Q.length:=by simp; omega
 unfold Ay;simp only[Tr.den,bDT,bAR,aTP];rw[eN (n:=P.length+A.length) (m:=P.length) (by omega) (by omega),eN (n:=P.length+A.length+B.length) (m:=P.length+A.length) (by omega) (by omega)];by_cases c1:A.length=1
 ·obtain⟨x,rfl⟩:=List.length_eq_one_iff.1 c1;rw[if_pos (by simp)];simp only[List.singleton_append,List.length_singleton]at *
  refine Sq.bind _ (Hu b P B Q x J hB ho G) (fun z hz=>?_);cases z with
  | inr z=>exact hz.elim
  | inl z=>
   obtain⟨n,rfl,h1,h2,h3⟩:=hz;simp only[sel];have hb:B++Q=B.take n++(B.drop n++Q):=by rw[<-List.append_assoc,List.take_append_drop]
   rw[hb,aHZ P (B.take n) (B.drop n++Q) x _ (by simp; omega) (by simp_all)];simp only[Option.bind_some,sel];refine aC.2 ⟨B.take n++x::B.drop n,by simp,?_,yQ hB (fun k k1 k2=>Av (h2 k k1)) h3⟩;rw[List.perm_middle.congr_left,List.take_append_drop]
 ·rw[if_neg (by simp; omega)];by_cases c2:B.length=1
  ·obtain⟨y,rfl⟩:=List.length_eq_one_iff.1 c2;rw[if_pos (fA (by simp))];simp only[List.singleton_append,List.length_singleton]at *
   refine Sq.bind _ (Az b P A Q y J hA ho G) (fun z hz=>?_);cases z with
   | inr z=>exact hz.elim
   | inl z=>
    obtain⟨n,rfl,h1,h2,h3⟩:=hz;simp only[sel];have hb:P++(A++y::Q)=(P++A.take n)++(A.drop n++y::Q):=by rw[List.append_assoc,<-List.append_assoc (A.take n),List.take_append_drop]
    rw[hb,Sa (P++A.take n) (A.drop n) Q y _ _ (by simp; omega) (by simp; omega) (by simp_all)];simp only[Option.bind_some,sel];refine aC.2 ⟨A.take n++y::A.drop n,by simp,?_,yQ hA (fun k k1 k2=>h2 k k1) (fun k k1 k2=>Av (h3 k k1 k2))⟩;refine List.perm_middle.trans ?_;rw[List.take_append_drop];exact(List.perm_append_singleton y A).symm
  ·rw[if_neg (by simp; omega)];rw[oX (i:=P.length) (j:=P.length+A.length+B.length) (by omega)];generalize hmid:(P.length+(P.length+A.length+B.length)) / 2=mid;have key:∀ (Z M:Nat),P.length<=Z->Z<=M->M<=P.length+A.length->M<=mid->mid<=B.length+Z->(Z=P.length\/mid=B.length+Z)->(M=P.length+A.length\/M=mid) ->
     ∀ K:Int->Option (List aB),(∀ u v:Nat,u<=A.length->v<=B.length->u+v+P.length=mid->(0<u->v<B.length->(ltL nd) (B.getD v default) (A.getD (u-1) default)=false)->(0<v->u<A.length->(ltL nd) (A.getD u default) (B.getD (v-1) default)=false) ->
      Sq b (K ((P.length+u:Nat):Int)) (fun d=>∃ C,d=P++(C++Q)/\C.Perm (A++B)/\Srt nd C)) ->
     Sq b ((bW (fun s=>(pM (P.length:Int) ((P.length+A.length:Nat):Int) ((P.length+A.length+B.length:Nat):Int) (P++(A++(B++Q))) nd s).den) ((Z:Int),(M:Int))).bind (sel K some)) (fun d=>∃ C,d=P++(C++Q)/\C.Perm (A++B)/\Srt nd C):=by
    intro Z M h1 h2 h3 h4 h5 h6 h7 K hK;refine Sq.bind _ (Ic b P A B Q J hA hB ho G Z M mid hmid.symm h1 h2 h3 h4 h5) (fun z hz=>?_);cases z with
    | inr z=>exact hz.elim
    | inl z=>
     obtain⟨n,rfl,q1,q2,q3,q4⟩:=hz;simp only[sel];have:=hK (n-P.length) (mid-n) (by omega) (by omega) (by omega) (fun u1 u2=>?_) (fun u1 u2=>?_)
     ·rwa [show P.length+(n-P.length)=n by omega]at this
     ·have:=q3 (n-1) (by omega) (by omega)
      rwa [show mid-1-(n-1)=mid-n by omega,show n-1-P.length=n-P.length-1 by omega]at this
     ·have:=q4 n (by omega) (by omega);rw[show mid-1-n=mid-n-1 by omega]at this;exact Av this
   have body:∀ u v:Nat,u<=A.length->v<=B.length->u+v+P.length=mid->(0<u->v<B.length->(ltL nd) (B.getD v default) (A.getD (u-1) default)=false)->(0<v->u<A.length->(ltL nd) (A.getD u default) (B.getD (v-1) default)=false) ->
     Sq b ((if decide (((P.length+u:Nat):Int)<((P.length+A.length:Nat):Int))=true then some (decide (((P.length+A.length:Nat):Int)<IntKind.i64.wrap (IntKind.i64.wrap ((mid:Int)+((P.length+A.length:Nat):Int))-((P.length+u:Nat):Int)))) else some false).bind fun j27=>
      (if j27=true then (zV ((P.length+u:Nat):Int) ((P.length+A.length:Nat):Int) (IntKind.i64.wrap (IntKind.i64.wrap ((mid:Int)+((P.length+A.length:Nat):Int))-((P.length+u:Nat):Int))) (P++(A++(B++Q)))).bind (fun r=>some r) else some (P++(A++(B++Q)))).bind fun j28=>
      (if decide ((P.length:Int)<((P.length+u:Nat):Int))=true then some (decide (((P.length+u:Nat):Int)<(mid:Int))) else some false).bind fun j30=>
      (if j30=true then (f.1 ((P.length:Int),((P.length+u:Nat):Int),(mid:Int),j28,nd)).bind (fun r=>some r) else some j28).bind fun j31=>
      (if decide ((mid:Int)<IntKind.i64.wrap (IntKind.i64.wrap ((mid:Int)+((P.length+A.length:Nat):Int))-((P.length+u:Nat):Int)))=true then some (decide (IntKind.i64.wrap (IntKind.i64.wrap ((mid:Int)+((P.length+A.length:Nat):Int))-((P.length+u:Nat):Int))<((P.length+A.length+B.length:Nat):Int))) else some false).bind fun j33=>
      (if j33=true then (f.1 ((mid:Int),IntKind.i64.wrap (IntKind.i64.wrap ((mid:Int)+((P.length+A.length:Nat):Int))-((P.length+u:Nat):Int)),((P.length+A.length+B.length:Nat):Int),j31,nd)).bind (fun r=>some r) else some j31).bind fun j34=>some j34)
      (fun d=>∃ C,d=P++(C++Q)/\C.Perm (A++B)/\Srt nd C):=by
    intro u v hu hv huv f1 f2;have w2:IntKind.i64.wrap (IntKind.i64.wrap ((mid:Int)+((P.length+A.length:Nat):Int))-((P.length+u:Nat):Int))=((P.length+A.length+v:Nat):Int):=by rw[dM (by omega),eN]; omega
    rw[w2];simp only[nT,Option.bind_some];have eA:=List.take_append_drop u A;have eB:=List.take_append_drop v B;have lA1:(A.take u).length=u:=by simp; omega
    have lB1:(B.take v).length=v:=by simp; omega
    have lA2:(A.drop u).length=A.length-u:=by simp
    have lB2:(B.drop v).length=B.length-v:=by simp
    have hs:P++(A++(B++Q))=(P++A.take u)++(A.drop u++(B.take v++(B.drop v++Q))):=by grind
    refine Sq.bind (fun d=>d=P++(A.take u++(B.take v++(A.drop u++(B.drop v++Q))))) ?_ (fun j28 h28=>?_)
    ·by_cases hc:(((P.length+u:Nat):Int)<((P.length+A.length:Nat):Int))/\(((P.length+A.length:Nat):Int)<((P.length+A.length+v:Nat):Int))
     ·rw[if_pos (by simpa using hc)];rw[hs]at G ⊢;have h:=Mb b (P++A.take u) (A.drop u) (B.take v) (B.drop v++Q) (fun h0=>by grind) (fun h0=>by grind)
       ((P.length+u:Nat):Int) ((P.length+A.length:Nat):Int) ((P.length+A.length+v:Nat):Int) (by simp; omega) (by simp; omega) (by simp; omega) G
      refine Sq.bind _ h (fun d hd=>aC.2 ?_);grind
     ·rw[if_neg (by simpa using hc)];refine aC.2 ?_;rw[hs];by_cases hu':u=A.length
      ·grind
      ·have:v=0:=by omega
       grind
    subst h28;have oD:okTs nd (P++(A.take u++(B.take v++(A.drop u++(B.drop v++Q))))):=by refine ho.perm ?_;rw[hs];simp only[List.append_assoc];exact List.Perm.append_left _ (List.Perm.append_left _ (List.perm_append_comm_assoc _ _ _))
    refine Sq.bind (fun d=>∃ C,d=P++(C++(A.drop u++(B.drop v++Q)))/\C.Perm (A.take u++B.take v)/\Srt nd C) ?_ (fun j31 h31=>?_)
    ·by_cases hc:((P.length:Int)<((P.length+u:Nat):Int))/\(((P.length+u:Nat):Int)<(mid:Int))
     ·rw[if_pos (by simpa using hc)];have e:((P.length:Int),((P.length+u:Nat):Int),(mid:Int),P++(A.take u++(B.take v++(A.drop u++(B.drop v++Q)))),nd)=gI nd P (A.take u) (B.take v) (A.drop u++(B.drop v++Q)):=by unfold gI; rw[lA1,lB1,<-huv]; simp; omega
      rw[e];refine Sq.bind _ (hrec _ _ _ _ (fun x hx y hy=>J x (List.mem_of_mem_take hx) y (List.mem_of_mem_take hy)) (fun h0=>by grind) (fun h0=>by grind) (hA.take u) (hB.take v) oD (by simp; omega) (by omega)) (fun d hd=>aC.2 hd)
     ·rw[if_neg (by simpa using hc)];refine aC.2 ⟨A.take u++B.take v,by simp,.refl _,?_⟩;by_cases hu':u=0
      ·subst hu'; simpa using hB.take v
      ·have:v=0:=by omega
       subst this; simpa using hA.take u
    obtain⟨C,rfl,pC,sC⟩:=h31;have lC:C.length=u+v:=by rw[pC.length_eq]; simp; omega
    have fin:∀ D:List aB,D.Perm (A.drop u++B.drop v)->Srt nd D->Srt nd (C++D)/\(C++D).Perm (A++B):=fun D pD sD=>aMT hA hB hu hv f1 f2 pC pD sC sD;refine Sq.bind (fun d=>∃ C,d=P++(C++Q)/\C.Perm (A++B)/\Srt nd C) ?_ (fun j34 h34=>aC.2 h34);by_cases hc:((mid:Int)<((P.length+A.length+v:Nat):Int))/\(((P.length+A.length+v:Nat):Int)<((P.length+A.length+B.length:Nat):Int))
    ·rw[if_pos (by simpa using hc)];have e:((mid:Int),((P.length+A.length+v:Nat):Int),((P.length+A.length+B.length:Nat):Int),P++(C++(A.drop u++(B.drop v++Q))),nd)=gI nd (P++C) (A.drop u) (B.drop v) Q:=by unfold gI; rw[lA2,lB2,<-huv]; simp; omega
     rw[e];refine Sq.bind _ (hrec _ _ _ _ (fun x hx y hy=>J x (List.mem_of_mem_drop hx) y (List.mem_of_mem_drop hy)) (fun h0=>by grind) (fun h0=>by grind) (hA.drop u) (hB.drop v) ?_ (by simp; omega) (by omega)) (fun d hd=>?_)
     ·refine oD.perm ?_;rw[List.append_assoc];refine List.Perm.append_left _ ?_;rw[<-List.append_assoc];exact List.Perm.append_right _ pC.symm
     ·obtain⟨D,rfl,pD,sD⟩:=hd;exact aC.2 ⟨C++D,by simp,(fin D pD sD).2,(fin D pD sD).1⟩
    ·rw[if_neg (by simpa using hc)];have:=fin (A.drop u++B.drop v) (.refl _) (by
      by_cases hu':u=A.length
      ·have:A.drop u=[]:=by grind
       rw[this]; simpa using hB.drop v
      ·have:B.drop v=[]:=by rw[show v=B.length by omega]; simp
       rw[this]; simpa using hA.drop u)
     exact aC.2 ⟨C++(A.drop u++B.drop v),by simp,this.2,this.1⟩
   by_cases hm:mid<P.length+A.length
   ·rw[if_pos (by simp; omega)];simp only[Option.bind_some];rw[dM (n:=mid) (m:=P.length+A.length) (by omega),eN (n:=mid+(P.length+A.length)),<-dM (n:=mid) (m:=P.length+A.length) (by omega)];exact key (mid+(P.length+A.length)-(P.length+A.length+B.length)) mid (by omega) (by omega) (by omega) (by omega) (by omega) (by omega) (by omega) _ body
   ·rw[if_neg (by simp; omega)];simp only[Option.bind_some];exact key P.length (P.length+A.length) (by omega) (by omega) (by omega) (by omega) (by omega) (by omega) (by omega) _ body
theorem Ol(nd:aG)(P A B Q:List aB)(J:Bef A B)(M:A≠[])(G:B≠[])(hA:Srt nd A)(hB:Srt nd B)(ho:okTs nd (P++(A++(B++Q))))(hn:(P++(A++(B++Q))).length<=1000000000000000):
  Sp (Uo (P.length:Int) ((P.length+A.length:Nat):Int) ((P.length+A.length+B.length:Nat):Int) (P++(A++(B++Q))) nd) (fun d=>∃ C,d=P++(C++Q)/\C.Perm (A++B)/\Srt nd C):=by
 have h:=lX (C:=fun (a:Int×Int×Int×List aB×aG) (x:Option (List aB))=>eT Proofs.Tryz.prog 272 [.own 30000,.t (.int .i64 (a.1)),.t (.int .i64 (a.2.1)),.t (.int .i64 (a.2.2.1)),.fn (.func 176) 0 [.ptr 30001 0]] [(30000,.arr 50 3 (a.2.2.2.1.length) (eF aH a.2.2.2.1)),(30001,bN a.2.2.2.2)] [30000,30001] x (fun (y:List aB)=>.tup []) (fun (y:List aB)=>[(30000,aD y),(30001,bN a.2.2.2.2)]))
  (fun a=>⟨bM Proofs.Tryz.func272 (by rfl),fun _ h=>nomatch h⟩) (fun D a=>Ay D a.1 a.2.1 a.2.2.1 a.2.2.2.1 a.2.2.2.2) (fun D a=>Ls D a.1 a.2.1 a.2.2.1 a.2.2.2.1 a.2.2.2.2)
  (aXI nd) (fun a=>(a.2.2.1-a.1).toNat) (aYZ nd) (fun b f a ha hrec=>?_) true (gI nd P A B Q) ⟨P,A,B,Q,rfl,J,M,G,hA,hB,ho,hn⟩
 ·exact h.imp fun d Z=>Z P A B Q rfl
 ·obtain⟨P,A,B,Q,rfl,J,M,G,hA,hB,ho,hn⟩:=ha;refine(aXN b f P A B Q J M G hA hB ho hn (fun P' A' B' Q' a0 a1 a2 a3 a4 a5 a6 a7=>?_)).imp fun d Z P' A' B' Q' he=>?_
  ·exact(hrec (gI nd P' A' B' Q') ⟨P',A',B',Q',rfl,a0,a1,a2,a3,a4,a5,a6⟩ (by simp only[gI]; omega)).imp fun d Z=>Z P' A' B' Q' rfl
  ·obtain⟨rfl,rfl,rfl,rfl⟩:=Bk he;exact Z
def eU(nd:aG)(a b:Nat)(l:List aB):Prop:=∀ i j,a<=i->i<j->j<b->(ltL nd) (l.getD j default) (l.getD i default)=false
structure PI (a b:Nat)(l d:List aB):Prop where
 len:d.length=l.length
 out:∀ k,k<a\/b<=k->d.getD k default=l.getD k default
 perm:d.Perm l
 mem:∀ k,a<=k->k<b->∃ k',a<=k'/\k' < b/\d.getD k default=l.getD k' default
theorem eU.congr{b:Nat}{d:List aB}(h:eU nd a b l)(he:∀ k,a<=k->k<b->d.getD k default=l.getD k default):eU nd a b d:=by intro i j h1 h2 h3;rw[he i h1 (by omega),he j (by omega) h3];exact h i j h1 h2 h3
theorem eU.sub{b G D:Nat}(h:eU nd a b l)(h1:a<=G)(h2:D<=b):eU nd G D l:=fun i j Q J M=>h i j (by omega) J (by omega)
theorem sM(nd:aG)(a m b:Nat)(l:List aB)(h1:a<m)(h2:m<b)(h3:b<=l.length)(ha:eU nd a m l)(hb:eU nd m b l)(hD:∀ i j,a<=i->i<m->m<=j->j<b->dC (l.getD i default) (l.getD j default)<0)(ho:okTs nd l)(hn:l.length<=1000000000000000):
  Sp (Uo (a:Int) (m:Int) (b:Int) l nd) (fun d=>PI a b l d/\eU nd a b d):=by
 have e:l=l.take a++((l.drop a).take (m-a)++((l.drop m).take (b-m)++l.drop b)):=by
  have e1:l.drop m=(l.drop m).take (b-m)++l.drop b:=by
   conv=>lhs; rw[<-List.take_append_drop (b-m) (l.drop m)]
   rw[List.drop_drop,show m+(b-m)=b by omega]
  have e2:l.drop a=(l.drop a).take (m-a)++l.drop m:=by
   conv=>lhs; rw[<-List.take_append_drop (m-a) (l.drop a)]
   rw[List.drop_drop,show a+(m-a)=m by omega]
  rw[<-e1,<-e2,List.take_append_drop]
 have Q:(l.take a).length=a:=by simp; omega
 have lA:((l.drop a).take (m-a)).length=m-a:=by simp; omega
 have lB:((l.drop m).take (b-m)).length=b-m:=by simp; omega
 have gA:∀ k,k<m-a->((l.drop a).take (m-a)).getD k default=l.getD (a+k) default:=by grind
 have J:∀ k,k<b-m->((l.drop m).take (b-m)).getD k default=l.getD (m+k) default:=by grind
 have G:Bef ((l.drop a).take (m-a)) ((l.drop m).take (b-m)):=fun x hx y hy=>by obtain⟨i,i1,i2,rfl⟩:=dQ hx;obtain⟨j,j1,Z,rfl⟩:=dQ hy;have e3:=gA i i1;have D:=J j j1;rw[bU (by omega),List.getElem_take,<-bU i2]at e3;rw[bU (by omega),List.getElem_take,<-bU Z]at D;rw[e3,D];exact hD _ _ (by omega) (by omega) (by omega) (by omega)
 have h:=Ol nd (l.take a) ((l.drop a).take (m-a)) ((l.drop m).take (b-m)) (l.drop b) G (fun h0=>by grind) (fun h0=>by grind)
  (qJ fun i j hij hj=>by rw[gA i (by omega),gA j (by omega)]; exact ha _ _ (by omega) (by omega) (by omega))
  (qJ fun i j hij hj=>by rw[J i (by omega),J j (by omega)]; exact hb _ _ (by omega) (by omega) (by omega)) (by grind) (by grind)
 rw[Q,lA,lB,<-e,show a+(m-a)=m by omega,show m+(b-m)=b by omega]at h;refine h.imp fun d hd=>?_;obtain⟨C,rfl,M,sC⟩:=hd;have lC:C.length=b-a:=by rw[M.length_eq,List.length_append,lA,lB]; omega
 have lD:(l.drop b).length=l.length-b:=by simp
 refine⟨⟨by grind,fun k hk=>?_,?_,?_⟩,?_⟩
 ·rcases hk with hk | hk
  ·grind
  ·rw[cE,if_neg (by omega),cE,if_neg (by omega),Q,lC];by_cases hl:k<l.length
   ·rw[bU (by omega),bU hl]; simp; congr 1; omega
   ·rw[List.getD_eq_getElem?_getD,List.getElem?_eq_none (by omega),List.getD_eq_getElem?_getD,List.getElem?_eq_none (by omega)]
 ·conv=>rhs; rw[e]
  refine List.Perm.append_left _ ?_;rw[<-List.append_assoc];exact List.Perm.append_right _ M
 ·intro k k1 k2;rw[cE,if_neg (by omega),cE,if_pos (by omega),Q];rcases List.mem_append.1 (M.mem_iff.1 (aM (show k-a<C.length by omega))) with hx | hx
  ·obtain⟨i,i1,i2,h5⟩:=dQ hx;grind
  ·obtain⟨j,j1,Z,h5⟩:=dQ hx;rw[h5];have D:=J j j1;rw[bU (by omega),List.getElem_take,<-bU Z]at D;exact⟨m+j,by omega,by omega,D⟩
 ·intro i j q1 q2 q3;rw[cE,if_neg (by omega),cE,if_pos (by omega),cE,if_neg (by omega),cE,if_pos (by omega)];exact sC.get (by omega) (by omega)
theorem xW(nd:aG)(a b:Nat)(l:List aB)(G:a<=b)(hb:b<=l.length)(hD:∀ k m,a<=k->k<m->m<b->dC (l.getD k default) (l.getD m default)<0)(ho:okTs nd l)(hn:l.length<=1000000000000000):Sp (My (a:Int) (b:Int) l nd) (fun d=>PI a b l d/\eU nd a b d):=by
 refine Sq.of_eq (aCS nd a b l hb G hn ho hD) ?_;have h:=Sort.insertionSort_holds (iM nd) l.toArray a b G (by omega);obtain⟨⟨h1,h2,h3⟩,h4⟩:=h;have g:∀ (k:Nat),(Sort.insertionSort (ltL nd) l.toArray a b).toList.getD k default=(Sort.insertionSort (ltL nd) l.toArray a b)[k]!:=fun k=>by rw[<-pX]
 refine⟨⟨by omega,fun k hk=>by rw[g,h2 k hk,pX],?_,fun k k1 k2=>?_⟩,fun i j Z Q M=>by rw[g,g]; exact h4 i j Z Q M⟩;have h5:=Sort.permIn_mono _ _ a b 0 l.length (by omega) (by omega) (by simp) (show Sort.PermIn a b l.toArray (Sort.insertionSort (ltL nd) l.toArray a b) from ⟨h1,h2,h3⟩);have J:=h5.2.2;rw[show l.length=l.toArray.size by simp]at J;rw[show (Sort.insertionSort (ltL nd) l.toArray a b).extract 0 l.toArray.size=Sort.insertionSort (ltL nd) l.toArray a b by simp_all]at J;simpa using J;have hm:(Sort.insertionSort (ltL nd) l.toArray a b)[k]! ∈ ((Sort.insertionSort (ltL nd) l.toArray a b).extract a b).toList:=by
  have hs:k<(Sort.insertionSort (ltL nd) l.toArray a b).size:=by grind
  rw[getElem!_pos (Sort.insertionSort (ltL nd) l.toArray a b) k hs];rw[Array.toList_extract];rw[List.extract_eq_take_drop];refine List.mem_iff_getElem.2 ⟨k-a,by simp; omega,?_⟩;simp_all
 have D:=h3.mem_iff.1 hm;rw[Array.toList_extract,List.extract_eq_take_drop]at D;obtain⟨j,j1,j2,h7⟩:=dQ D;grind
theorem aLD(D:0<w)(h:i / (2*w)<j / (2*w)):i / w<j / w:=by refine Nat.lt_of_not_le fun h1=>?_;rw[Nat.mul_comm,<-Nat.div_div_eq_div_mul,<-Nat.div_div_eq_div_mul]at h;omega
theorem aDW(D:0<w)(ha:w∣a)(h1:a<=i)(h2:i<a+w)(h3:a+w<=j):i / w<j / w:=by obtain⟨c,rfl⟩:=ha;have J:i / w=c:=Nat.div_eq_of_lt_le (by grind) (by grind);have G:c+1<=j / w:=(Nat.le_div_iff_mul_le D).2 (by grind);omega
theorem Uf(J:0<w)(ha:w∣a)(h1:a<=i)(h2:i<a+w)(h3:a<=j)(h4:j<a+w):i / w=j / w:=by obtain⟨c,rfl⟩:=ha;have e:∀ q,w*c<=q->q<w*c+w->q / w=c:=fun q G D=>Nat.div_eq_of_lt_le (by grind) (by grind);rw[e i h1 h2,e j h3 h4]
theorem aVR{n:Nat}{d J:List aB}(ha:w∣a)(hn:a+w<=n)(hp:PI a (a+w) d J)(h:∀ i j,j<n->i / w<j / w->dC (d.getD i default) (d.getD j default)<0):∀ i j,j<n->i / w<j / w->dC (J.getD i default) (J.getD j default)<0:=by
 intro i j j1 j2;by_cases hw:w=0
 ·simp_all
 have src:∀ q,q<n->∃ D,D < n/\D / w=q / w/\J.getD q default=d.getD D default:=fun q hq=>by
  by_cases G:a<=q/\q<a+w
  ·obtain⟨D,Z,Q,M⟩:=hp.mem q G.1 G.2;exact⟨D,by omega,Uf (by omega) ha Z Q G.1 G.2,M⟩
  ·exact⟨q,hq,rfl,hp.out q (by omega)⟩
 have hij:i<j:=Nat.lt_of_not_le fun h=>by have:=Nat.div_le_div_right (c:=w) h; omega
 grind
theorem aDC(nd:aG)(l:List aB)(hP:l.Pairwise (fun x y=>dC x y<0))(ho:okTs nd l)(hn:l.length<=100000000000000):Sp (Ws (l.length:Int) l nd) (fun d=>d.Perm l/\Srt nd d):=by
 have hL:∀ i j,i<j->j<l.length->dC (l.getD i default) (l.getD j default)<0:=fun i j h1 h2=>by rw[bU h2,bU (show i<l.length by omega)];exact List.pairwise_iff_getElem.1 hP i j (by omega) h2 h1
 unfold Ws Vq;simp only[Tr.den,bR];refine Sq.while (fun s:List aB×Int×Int=>∃ a:Nat,s.2.1=a/\s.2.2=((a+20:Nat):Int)/\20∣a/\a<=l.length/\s.1.Perm l/\(∀ c,20∣c->c+20<=a->eU nd c (c+20) s.1)/\(∀ k,a<=k->s.1.getD k default=l.getD k default)/\∀ i j,j<l.length->i / 20<j / 20->dC (s.1.getD i default) (s.1.getD j default)<0) (fun s=>(l.length-s.2.1).toNat) (fun s hs=>?_)
  ⟨0,rfl,rfl,by simp,by omega,.refl _,fun c h1 h2=>by omega,fun _ _=>rfl,fun i j h1 h2=>hL i j (by omega) h1⟩
 obtain⟨d,i,j⟩:=s;obtain⟨a,h1,h2,h3,h4,h5,h6,h7,h8⟩:=hs;simp only at h1 h2 h5 h6 h7 h8;subst h1 h2;have hlen:=h5.length_eq;unfold La;simp only[Tr.den];by_cases hc:a+20<=l.length
 ·rw[if_pos (by simp; omega)];refine bR.2 ((xW nd a (a+20) d (by omega) (by omega) (fun k m k1 k2 k3=>by grind) (ho.perm h5.symm) (by omega)).imp fun d' D=>?_);rw[aV];refine aC.2 ⟨⟨a+20,rfl,by simp,?_,hc,D.1.perm.trans h5,fun c J q2=>?_,fun k hk=>by rw[D.1.out k (.inr (by omega))]; grind,aVR h3 (by omega) D.1 h8⟩,by grind⟩
  ·omega
  ·by_cases G:c<a
   ·exact(h6 c J (lG h3 J G)).congr fun k k1 k2=>D.1.out k (.inl (by omega))
   grind
 ·rw[if_neg (by simp; omega)];refine aC.2 ?_;simp only[sel];refine bR.2 ((xW nd a l.length d h4 (by omega) (fun k m k1 k2 k3=>by grind) (ho.perm h5.symm) (by omega)).imp fun d2 hd2=>?_);obtain⟨p2,s2⟩:=hd2;have hp2:d2.Perm l:=p2.perm.trans h5;have b2:∀ c,20∣c->eU nd c (min (c+20) l.length) d2:=by
   intro c M;by_cases G:c<a
   ·have:=lG h3 M G;exact((h6 c M this).congr fun k k1 k2=>p2.out k (.inl (by omega))).sub (by omega) (by omega)
   ·exact s2.sub (by omega) (by omega)
  have x2:∀ i j,j<l.length->i / 20<j / 20->dC (d2.getD i default) (d2.getD j default)<0:=fun i j j1 j2=>by
   obtain⟨a',rfl⟩:=h3;have src:∀ q,q<l.length->∃ Z,Z < l.length/\Z / 20=q / 20/\d2.getD q default=d.getD Z default:=fun q hq=>by
    by_cases J:q<20*a'
    ·exact⟨q,hq,rfl,p2.out q (.inl J)⟩
    ·obtain⟨Z,r1,r2,r3⟩:=p2.mem q (by omega) hq;grind
   obtain⟨i',i1,i2,i3⟩:=src i (by omega);grind
  clear h6 p2 s2 h7 h8;refine bR.2 ?_;refine Sq.while (fun s:List aB×Int=>∃ w:Nat,s.2=w/\0<w/\w<=400000000000000/\s.1.Perm l/\(∀ c,w∣c->eU nd c (min (c+w) l.length) s.1)/\∀ i j,j<l.length->i / w<j / w->dC (s.1.getD i default) (s.1.getD j default)<0) (fun s=>(l.length-s.2).toNat) (fun s hs=>?_) ⟨20,rfl,by omega,by omega,hp2,b2,x2⟩;obtain⟨d,i⟩:=s;obtain⟨w,k1,k2,k3,k4,k5,k6⟩:=hs;simp only at k1 k4 k5 k6;subst k1;unfold Md;simp only[Tr.den];by_cases hw:w<l.length
  ·rw[if_pos (by simp; omega)];have e2w:IntKind.i64.wrap (2*(w:Int))=((2*w:Nat):Int):=by rw[aV] <;> omega
   rw[e2w];refine bR.2 ?_;refine Sq.while (fun s:List aB×Int×Int=>∃ a:Nat,s.2.1=a/\s.2.2=((a+2*w:Nat):Int)/\(2*w)∣a/\a<=l.length/\s.1.Perm l/\(∀ c,(2*w)∣c->c+2*w<=a->eU nd c (c+2*w) s.1)/\(∀ c,w∣c->a<=c->eU nd c (min (c+w) l.length) s.1)/\(∀ k,a<=k->s.1.getD k default=d.getD k default)/\∀ i j,j<l.length->i / (2*w)<j / (2*w)->dC (s.1.getD i default) (s.1.getD j default)<0) (fun s=>(l.length-s.2.1).toNat) (fun s hs=>?_)
    ⟨0,rfl,by simp,by simp,by omega,k4,fun c J q2=>by omega,fun c J q2=>k5 c J,fun _ _=>rfl,fun i j j1 j2=>k6 i j j1 (aLD k2 j2)⟩
   have hd0:=k4.length_eq;obtain⟨d1,i,j⟩:=s;obtain⟨a,g1,g2,g3,g4,g5,g6,g7,g8,g9⟩:=hs;simp only at g1 g2 g5 g6 g7 g8 g9;have Q:∀ i j,a<=i->i<a+w->a+w<=j->j<l.length->dC (d1.getD i default) (d1.getD j default)<0:=fun i j i1 i2 j1 j2=>by rw[g8 i i1,g8 j (by omega)];exact k6 i j j2 (aDW k2 (Nat.dvd_trans ⟨2,by omega⟩ g3) i1 i2 j1)
   subst g1 g2;have hlen:=g5.length_eq;have gw:w∣a:=Nat.dvd_trans ⟨2,by omega⟩ g3;have gw':w∣a+w:=Nat.dvd_add gw (Nat.dvd_refl w);unfold Lw;simp only[Tr.den];by_cases hb:a+2*w<=l.length
   ·rw[if_pos (by simp; omega),dM (by omega),e2w,dM (by omega)];refine bR.2 ((sM nd a (a+w) (a+2*w) d1 (by omega) (by omega) (by omega) ((g7 a gw (by omega)).sub (by omega) (by omega)) ((g7 (a+w) gw' (by omega)).sub (by omega) (by omega)) (fun i j i1 i2 j1 j2=>Q i j i1 i2 j1 (by omega)) (ho.perm g5.symm) (by omega)).imp fun d' D=>?_);refine aC.2 ⟨⟨a+2*w,rfl,rfl,Nat.dvd_add g3 (Nat.dvd_refl _),hb,D.1.perm.trans g5,fun c J q2=>?_,fun c J q2=>?_,fun k hk=>?_,?_⟩,by grind⟩
    ·by_cases G:c<a
     ·have:=lG g3 J G;exact(g6 c J this).congr fun k k1 k2=>D.1.out k (.inl (by omega))
     grind
    ·exact(g7 c J (by omega)).congr fun k k1 k2=>D.1.out k (.inr (by omega))
    ·rw[D.1.out k (.inr (by omega))]; grind
    ·exact aVR g3 (by omega) D.1 g9
   ·rw[if_neg (by simp; omega)];refine aC.2 ?_;simp only[sel];rw[dM (by omega)];refine Sq.bind (fun d'=>d'.Perm l/\eU nd a l.length d'/\(∀ k,k<a->d'.getD k default=d1.getD k default)/\∀ k,a<=k->k<l.length->∃ k',a<=k'/\k' < l.length/\d'.getD k default=d1.getD k' default) ?_ (fun d' D=>?_)
    ·by_cases hm:a+w<l.length
     ·rw[if_pos (by simp; omega)];refine bR.2 ((sM nd a (a+w) l.length d1 (by omega) (by omega) (by omega) ((g7 a gw (by omega)).sub (by omega) (by omega)) ((g7 (a+w) gw' (by omega)).sub (by omega) (by omega)) (fun i j i1 i2 j1 j2=>Q i j i1 i2 j1 (by omega)) (ho.perm g5.symm) (by omega)).imp fun d' D=>?_);exact aC.2 ⟨D.1.perm.trans g5,D.2,fun k hk=>D.1.out k (.inl hk),D.1.mem⟩
     ·rw[if_neg (by simp; omega)];exact aC.2 ⟨g5,(g7 a gw (by omega)).sub (by omega) (by omega),fun _ _=>rfl,fun k k1 k2=>⟨k,k1,k2,rfl⟩⟩
    ·obtain⟨J,q2,q3,q4⟩:=D;rw[show IntKind.i64.wrap ((w:Int)*2)=((2*w:Nat):Int) by rw[aV] <;> omega];refine aC.2 ⟨⟨2*w,rfl,by omega,by omega,J,fun c M=>?_,fun i j j1 j2=>?_⟩,by omega⟩;by_cases G:c<a
     ·have:=lG g3 M G;exact((g6 c M this).congr fun k k1 k2=>q3 k (by omega)).sub (by omega) (by omega)
     ·exact q2.sub (by omega) (by omega)
     ·have src:∀ q,q<l.length->∃ Z,Z < l.length/\Z / (2*w)=q / (2*w)/\d'.getD q default=d1.getD Z default:=fun q hq=>by
       by_cases r0:q<a
       ·grind
       ·obtain⟨Z,r1,r2,r3⟩:=q4 q (by omega) hq;exact⟨Z,r2,Uf (by omega) g3 r1 (by omega) (by omega) (by omega),r3⟩
      have hij:i<j:=Nat.lt_of_not_le fun h=>by have:=Nat.div_le_div_right (c:=2*w) h; omega
      obtain⟨i',i1,i2,i3⟩:=src i (by omega);obtain⟨j',m1,m2,m3⟩:=src j j1;grind
  ·rw[if_neg (by simp; omega)];refine aC.2 ?_;simp only[sel];refine aC.2 ⟨k4,qJ fun i j hij hj=>?_⟩;have:=k5 0 (by simp);rw[k4.length_eq]at hj;exact this i j (by omega) hij (by omega)
theorem G63s1_sp(nd:aG)(l:List aB)(G:l.Pairwise (fun x y=>dC x y<0))(ho:okTs nd l)(hn:l.length<=100000000000000):Sp (Hy l nd) (fun d=>d.Perm l/\Srt nd d):=by unfold Hy aIJ;simp only[Tr.den,bR];exact(aDC nd l G ho hn).imp fun d D=>aC.2 D
end
end Go.PL.St
namespace Go.PL
open Go
set_option linter.unusedVariables false
set_option maxRecDepth 20000
variable {A B a l:List aB} {cs ta ts:List Int} {d:aB} {e:bF} {fs:List aS} {n:aG} {nc np:Nat} {ps row:List aE} {t tm:Int}
theorem aQD{R:List aB}(D:okW R){a:aB}(ha:a.Row.length<=1000)(hn:oW a.N):okD (sP n R a):=by
 unfold sP;split
 ·have:=aFW (n:=n) (i:=0) (l:=[a]) (r:=R) (fun d G=>by simp_all) D;simpa[aVZ] using this
 ·have:=aJI (n:=n) (l:=[a]) (r:=R) (fun d G=>by simp_all) D (fun d G=>by simp_all);simpa[aVV] using this
theorem Qt(n:aG)(R:List aB)(a:aB):(sP n R a).length<=R.length+1:=by
 unfold sP;split
 ·exact fW (aDT n 0 R a) (by omega)
 ·exact fW (Ac n R a) (by omega)
theorem Og(hA:okI n 0 A)(G:okI n 1 B):okD (mA n A B):=by unfold mA;refine Ha fun a ha=>aQD (fun d D=>G.r d (gW.1 D).1) (hA.r a ha) (hA.n a ha)
theorem yB{c:Nat}(D:B.length<=c):(mA n A B).length<=A.length*(c+1):=by unfold mA;refine lI (fun a=>?_) A;have h1:=Qt n (ofK n 1 (kd n 0 a) B) a;have h2:=iR n 1 (kd n 0 a) B;omega
def nz(d:aB):Bool:=!(d.N==0)
theorem aBV(d:aB):bDB d=some (!nz d):=by unfold bDB aYS nz;simp only[Tr.den,Bool.not_not]
theorem aDQ(l:List aB)(hn:l.length<=1000000000000):
  Sp (Wh l) (fun r=>(r = -1/\∀ x,x∈l->nz x=true)\/∃ k:Nat,r=k/\k<l.length/\(∀ x,x∈l.take k->nz x=true)/\nz (l.getD k default)=false):=by
 unfold Wh Uw;simp only[Tr.den,bR];refine Sq.while (fun s:Int=>∃ k:Nat,s=k/\k<=l.length/\∀ x,x∈l.take k->nz x=true) (fun s=>(l.length-s).toNat) (fun s hs=>?_) ⟨0,rfl,by omega,by simp⟩;obtain⟨k,rfl,h1,h2⟩:=hs;unfold Lo;simp only[Tr.den,aL];by_cases hk:k<l.length
 ·rw[aA bL,aA,aA hk,aBV];simp only[aI];cases ha:nz (l.getD k default) with
  | true=>rw[aF (by simp),aK];refine aC.2 ⟨⟨k+1,rfl,by omega,fun x hx=>?_⟩,by omega⟩;rw[aJ hk,dW,cZ]at hx;grind
  | false=>rw[aA (by simp)];exact aC.2 (aC.2 (.inr ⟨k,rfl,hk,h2,ha⟩))
 ·rw[aF bQ];refine aC.2 (aC.2 (.inl ⟨rfl,?_⟩))
  rwa [iU (by omega)]at h2
theorem aGR(l:List aB)(hn:l.length<=1000000000000):Sp (aIH l) (fun d=>d=l.filter nz):=by
 unfold aIH aMQ;simp only[Tr.den];refine Sq.bind _ (aDQ l hn) (fun r hr=>?_);rcases hr with⟨rfl,h⟩ | ⟨k,rfl,h1,h2,h3⟩
 ·rw[aA (fA rfl)];refine aC.2 ?_;exact(Tq.2 h).symm
 ·rw[aF dJ,aK];simp only[bR];refine Sq.while (fun s:List aB×Int×Int=>∃ i j:Nat,s.2.1=i/\s.2.2=j/\i<j/\j<=l.length/\s.1.length=l.length/\s.1.take i=(l.take j).filter nz/\s.1.drop j=l.drop j) (fun s=>(l.length-s.2.2).toNat) (fun s hs=>?_)
   ⟨k,k+1,rfl,rfl,by omega,by omega,rfl,?_,rfl⟩
  ·obtain⟨d,i,j⟩:=s;obtain⟨i,j,Z,Q,q1,q2,J,G,D⟩:=hs;simp only at Z Q J G D;subst Z Q;unfold Ul;simp only[Tr.den,aL];by_cases M:j<l.length
   ·have gj:d.getD j default=l.getD j default:=by have:=congrArg (fun x:List aB=>x.getD 0 default) D;grind
    rw[aA bL,aA,aA,gj,aBV];simp only[aI,Bool.not_not];cases ha:nz (l.getD j default) with
    | true=>
     rw[aA rfl,aA,aA];refine bR.2 (oN (by simp; omega) (aC.2 ?_));rw[aK,aK];refine aC.2 ⟨⟨i+1,j+1,rfl,rfl,by omega,by omega,by simp; omega,?_,?_⟩,by grind⟩
     ·rw[aJ (show i<(d.set i (l.getD j default)).length by simp; omega),aJ M,oU,iW,aA ⟨rfl,by omega⟩];rw[List.take_set_of_le (cM i),G,Ju ha,wD]
     ·rw[List.drop_set_of_lt (by omega)];have:=congrArg (List.drop 1) D;rw[wG,wG]at this;omega
    | false=>
     rw[aF (by simp)];simp only[aI];rw[aK];refine aC.2 ⟨⟨i,j+1,rfl,rfl,by omega,by omega,J,?_,?_⟩,by grind⟩
     ·rw[aJ M,oU,G,Fd (by rw[ha]; simp),wD,eQ]
     ·have:=congrArg (List.drop 1) D;rw[wG,wG]at this;omega
   ·rw[aF bQ];refine aC.2 ?_;simp only[sel,aL];have e:(d.take i++List.replicate (d.length-i) default).take i=d.take i:=by rw[Oo (by simp; omega),List.take_take,Nat.min_self]
    rw[aA,aA (by simp; omega),e,G,iU (by omega)];exact aC.2 rfl
  ·rw[aJ h1,oU,Tq.2 h2,Fd (by rw[h3]; simp),wD,eQ]
structure Id (d out:List aB)(k:Nat):Prop where
 lt:out.Pairwise (fun x y=>dC x y<0)
 n64:∀ x,x∈out->oW x.N
 ok:jQ out
 len:out.length<=k
 last:0<k->out≠[]/\pl (out.getD (out.length-1) default)=pl (d.getD (k-1) default)
 wt:∀ p,W (wt p out)=W (wt p (d.take k))
theorem Lm{α:Type}[Inhabited α]{l:List α}(h:l≠[]):∃ r x,l=r++[x]/\l.getD (l.length-1) default=x/\r.length=l.length-1:=by refine⟨l.dropLast,l.getLast h,(List.dropLast_concat_getLast h).symm,?_,by simp⟩;have D:0<l.length:=fM.2 h;rw[bU (by omega),List.getLast_eq_getElem]
theorem bBL{out:List aB}(h1:out.Pairwise (fun x y=>dC x y<0))(h2:∀ x,x∈out->oW x.N):Can (out.filter nz) where
 lt:=Hj oQ h1
 nz:=fun x hx=>by have:=(iQ.1 hx).2;unfold nz at this;simp_all
 n64:=fun x hx=>h2 x (iQ.1 hx).1
theorem aVI(p:Pl->Bool):∀ l:List aB,wt p (l.filter nz)=wt p l
 | []=>rfl
 | x::l=>by
  have ih:=aVI p l;by_cases h:x.N=0
  ·rw[Fd (by unfold nz; rw[h]; simp),ih];simp only[wt,h];split <;> omega
  ·rw[Ju (by unfold nz; simp_all)];simp only[wt,ih]
theorem aNK{d out:List aB}{k:Nat}(hk:k<d.length)(hs:Srt d)(ho:jQ d)(hN:okN d)(h:Id d out k):
  (0<k->pl (out.getD (out.length-1) default)=pl (d.getD k default)->Id d (out.set (out.length-1) ⟨(out.getD (out.length-1) default).Time,(out.getD (out.length-1) default).Row,W ((out.getD (out.length-1) default).N+(d.getD k default).N)⟩) (k+1)) /\
  ((k=0\/pl (out.getD (out.length-1) default)≠pl (d.getD k default))->Id d (out++[⟨(d.getD k default).Time,(d.getD k default).Row,(d.getD k default).N⟩]) (k+1)):=by
 have D:=aM hk;constructor
 ·intro M he;obtain⟨J,hl⟩:=h.last M;obtain⟨r,x,G,e2,e3⟩:=Lm J;rw[e2]at he hl ⊢;have Z:out.set (out.length-1) ⟨x.Time,x.Row,W (x.N+(d.getD k default).N)⟩=r++[⟨x.Time,x.Row,W (x.N+(d.getD k default).N)⟩]:=by grind
  have e4:pl (⟨x.Time,x.Row,W (x.N+(d.getD k default).N)⟩:aB)=pl x:=rfl;have hp:=h.lt;rw[G]at hp;obtain⟨p1,_,p3⟩:=wN.1 hp;rw[Z];have hlen:=h.len;have hrl:r.length+1=out.length:=by rw[G]; simp
  refine⟨wN.2 ⟨p1,sZ _ _,fun a ha b hb=>?_⟩,fun y hy=>?_,fun y hy=>?_,by simp; omega,fun _=>⟨by simp,?_⟩,fun p=>?_⟩
  ·rw[cZ.1 hb,nB (x':=a) (y':=x) rfl e4];grind
  ·rcases dW.1 hy with hy | hy
   ·exact h.n64 y (by grind)
   ·rw[cZ.1 hy]; exact aRL _
  ·rcases dW.1 hy with hy | hy
   ·exact h.ok y (by grind)
   ·rw[cZ.1 hy]; exact h.ok x (by rw[G]; simp)
  ·grind
  ·have hw:=h.wt p;rw[G,jV]at hw;rw[jV,aJ hk,jV];have hw':W (wt p r+wt p [x]+wt p [d.getD k default])=W (wt p (d.take k)+wt p [d.getD k default]):=vK hw rfl;rw[<-hw'];simp only[wt,e4,he];split
   ·have:=vK (a:=wt p r) (c:=wt p r) (b:=W (x.N+(d.getD k default).N)) (d:=x.N+(d.getD k default).N) rfl (W_W _);grind
   grind
 ·intro hc;have hgt:∀ a,a∈out->dC a (d.getD k default)<0:=by
   intro a ha;have hk0:0<k:=by refine Nat.pos_of_ne_zero fun M=>?_;have:=h.len;simp_all
   obtain⟨J,hl⟩:=h.last hk0;have Q:=hc.resolve_left (by omega);obtain⟨r,x,G,e2,e3⟩:=Lm J;rw[e2]at hl Q;have hx:dC x (d.getD k default)<0:=by
    have hle:=hs.get (i:=k-1) (j:=k) (by omega) hk;have h1:¬ dC (d.getD k default) x<0:=by rw[nB (x':=d.getD k default) (y':=d.getD (k-1) default) rfl hl];exact aEG hle
    have h2:dC x (d.getD k default)≠0:=fun M=>Q (kL.1 M);have h3:¬ 0<dC x (d.getD k default):=fun M=>h1 (yS.1 M);omega
   rw[G]at ha;rcases dW.1 ha with ha | ha
   ·have hp:=h.lt;rw[G]at hp;exact TO.place.tr (pl a) (pl x) (pl _) ((wN.1 hp).2.2 a ha x (cZ.2 rfl)) hx
   grind
  have hlen:=h.len;refine⟨wN.2 ⟨h.lt,sZ _ _,fun a ha b hb=>?_⟩,fun y hy=>?_,fun y hy=>?_,by simp; omega,fun _=>⟨by simp,?_⟩,fun p=>?_⟩
  ·simp_all
  ·rcases dW.1 hy with hy | hy
   ·exact h.n64 y hy
   ·rw[cZ.1 hy]; exact hN _ D
  ·rcases dW.1 hy with hy | hy
   ·exact h.ok y hy
   ·rw[cZ.1 hy]; exact ho _ D
  ·simp_all
  ·rw[jV,aJ hk,jV];exact vK (h.wt p) rfl
theorem aRR(l d:List aB)(Z:d.Perm l)(hs:Srt d)(ho:jQ l)(hN:okN l)(hn:l.length<=1000000000000):
  Sp (bW (fun s=>(Mw d s).den) (([]:List aB),d,0)) (sel (fun r=>Id d r d.length) (fun _=>False)):=by
 have M:jQ d:=fun x hx=>ho x (Z.mem_iff.1 hx);have hN':okN d:=fun x hx=>hN x (Z.mem_iff.1 hx);have hlen:=Z.length_eq;refine dB (fun s:List aB×List aB×Int=>s.2.2) d.length (by omega) (fun s=>s.2.1=d/\Id d s.1 s.2.2.toNat) (fun s k hI hk hkN=>?_) ⟨rfl,⟨List.Pairwise.nil,(fun x h=>by simp at h),(fun x h=>by simp at h),cM _,fun h=>absurd h (Kq 0),fun p=>rfl⟩⟩ rfl;obtain⟨out,v,i⟩:=s;obtain⟨h1,h2⟩:=hI;simp only at hk h1 h2;subst hk h1;rw[aL]at h2;unfold Mw;simp only[Tr.den,aL];by_cases D:k<v.length
 ·obtain⟨q1,q2⟩:=aNK D hs M hN' h2;have hol:=h2.len;have J:=aM D;rw[aA bL,aA,aA D];have fin:∀ o:List aB,Id v o (k+1)->Sp (some (Sum.inl (o,v,IntKind.i64.wrap ((k:Int)+1))):Option ((List aB×List aB×Int)⊕(List aB⊕List aB)))
    (sel (fun G:List aB×List aB×Int=>G.2.2=IntKind.i64.wrap ((k:Int)+1)/\k<v.length/\G.2.1=v/\Id v G.1 G.2.2.toNat) (sel (fun r=>Id v r v.length) (fun _:List aB=>False))):=by
   intro o ho;refine aC.2 ⟨rfl,D,rfl,?_⟩;simp only;rw[show (IntKind.i64.wrap ((k:Int)+1)).toNat=k+1 by rw[aK,aL]];exact ho
  have app:(k=0\/pl (out.getD (out.length-1) default)≠pl (v.getD k default)) ->
    Sp (((aBT (v.getD k default).Row).bind fun Q=>if (out.length+([(⟨(v.getD k default).Time,Q,(v.getD k default).N⟩:aB)]:List aB).length)*40<=140737488355328 then some (out++[⟨(v.getD k default).Time,Q,(v.getD k default).N⟩],v) else none).bind fun r=>some (Sum.inl (r.1,r.2,IntKind.i64.wrap ((k:Int)+1))):Option ((List aB×List aB×Int)⊕(List aB⊕List aB)))
     (sel (fun G:List aB×List aB×Int=>G.2.2=IntKind.i64.wrap ((k:Int)+1)/\k<v.length/\G.2.1=v/\Id v G.1 G.2.2.toNat) (sel (fun r=>Id v r v.length) (fun _:List aB=>False))):=by
   intro hc;rw[aKI _ (by have:=M _ J; unfold okR at this; omega)];grind
  by_cases hk0:k=0
  ·simp_all
  ·obtain⟨hne,hl⟩:=h2.last (by omega);have hpos:=fM.2 hne;have e1:IntKind.i64.wrap ((out.length:Int)-1)=((out.length-1:Nat):Int):=by have:=eN (n:=out.length) (m:=1) (by omega) (by omega);omega
   rw[e1];simp only[aL];rw[aA bL,aA,aA,uN _ _ (h2.ok _ (aM (by omega))) (M _ J)];simp only[aI];by_cases he:pl (out.getD (out.length-1) default)=pl (v.getD k default)
   ·rw[aA (fA (kL.2 he)),aA,aA,aA,aA];grind
   ·rw[aF (dJ fun h0=>he (kL.1 h0))];simp_all
 ·rw[aF bQ];refine aC.2 ?_;have:k=v.length:=by omega
  subst this;exact h2
theorem nN(l:List aB)(ho:jQ l)(M:okN l)(hn:l.length<=1000000000000):aYM l=some (PL.cons l):=by
 refine Sp.eq ?_;unfold aYM aWI;simp only[Tr.den];rw[aFX l hn];simp only[aI];refine Sq.bind _ (aGS l ho (by omega)) (fun d G=>?_);refine Sq.bind _ (aRR l d G.1 G.2 ho M hn) (fun z J=>?_);cases z with
 | inr z=>exact J.elim
 | inl z=>have D:Id d z d.length:=J;have h1:=D.len;have h2:=G.1.length_eq;simp only[sel];refine Sq.bind _ (aGR z (by omega)) (fun r hr=>?_);subst hr;refine aC.2 (aBO (bBL D.lt D.n64) M fun p=>?_).symm;rw[aVI,D.wt p,cF,Pj p G.1]
theorem aKM(row:List aE)(cols:List Int)(hc:oL cols row)(hl:cols.length<=1000):aDB row cols=some (cols.map fun c=>row.getD c.toNat default):=by
 have w:IntKind.i64.wrap ((cols.length:Int)+2)=((cols.length+2:Nat):Int):=aV;unfold aDB aOR;simp only[Tr.den];rw[w,aL,aA];have h1:=aP (bd:=fun s=>(qT row cols s).den) (fun k=>((cols.take k).map fun c=>row.getD c.toNat default,(k:Int))) cols.length (r:=.inl (cols.map fun c=>row.getD c.toNat default)) (fun k hk=>?_) ?_
 ·refine(congrArg (fun x=>Option.bind x _) h1).trans ?_;rfl
 ·unfold qT;simp only[Tr.den,aL];have h2:=hc _ (aM hk);rw[aA bL,aA,aA h2,aA (by simp; omega),aK,aJ hk,eI];rfl
 ·unfold qT;simp only[Tr.den];rw[aF bQ,cF]
theorem Fm{i:Int}(hv:Hw row)(hc:oL (eC n i) row)(hl:(eC n i).length<=1000):(aDB row (eC n i)).bind aPN=some (Oi n i row):=by rw[aKM row _ hc hl,aI,Zk _ (fun v D=>by obtain⟨c,_,rfl⟩:=cU.1 D;exact hv.get _) (by simp_all)];rfl
theorem Lr(n:aG)(l:List aB)(hk:okI n 1 l)(hc:(eC n 1).length<=1000)(hn:l.length<=1000000000000):Wk l n.Key2=some (bO n 1 l):=by
 unfold Wk Wn;simp only[Tr.den];have h1:=aP (bd:=fun s=>(uJ l n.Key2 s).den) (fun k=>(bO n 1 (l.take k),(k:Int))) l.length (r:=.inl (bO n 1 l)) (fun k D=>?_) ?_
 ·refine(congrArg (fun x=>Option.bind x _) h1).trans ?_;rfl
 ·unfold uJ;simp only[Tr.den,aL];have hm:=aM D;have G:=Fm (n:=n) (i:=1) (hk.v _ hm) (hk.c _ hm) hc;rw[aA bL,aA,<-Option.bind_assoc,show n.Key2=eC n 1 from rfl];refine(congrArg (fun x=>Option.bind x _) G).trans ?_;simp only[aI];have h2:=iR n 1 (Oi n 1 (l.getD k default).Row) (l.take k);simp only[dU]at h2;rw[aA (by rw[qD]; grind),aK]
  congr 3
  unfold bO;rw[aJ D,Ao];rfl
 ·unfold uJ;simp only[Tr.den];rw[aF bQ,cF]
theorem aAJ(a b:aB)(t n:Int)(ha:a.Row.length<=1000)(hb:b.Row.length<=1000):bDC a b t n=some (pI a b t n):=by unfold bDC aYG;simp only[Tr.den];rw[aQQ [a.Row,b.Row] (by simp; omega) (by simp)];simp[pI]
theorem aPW(a b:aB):jL 0 a b=pI a b (if b.Time>a.Time then b.Time else a.Time) (W (a.N*b.N)):=by unfold jL;rw[aF (by decide)]
theorem Gu{p:Nat}(hp:p<l.length)(a b:Int):fJ (l.take (p+1)) a b=fJ (l.take p) a b++(if (decide (a<=(l.getD p default).Time)&&decide ((l.getD p default).Time<=b))=true then [l.getD p default] else []):=by unfold fJ;rw[aJ hp,oU,List.filter_cons,wD]
theorem aRI(hN:sU n)(h6:n.Op=6)(hB:okB n)(hA:okI n 0 A)(J:okI n 1 B)(lA:A.length<=100000)(lB:B.length<=100000):bAN n A B=some (mA n A B):=by
 have hb:=hB.b;have ha:=hB.a;have tA:=hA.tm;have tB:=J.tm;have wA:=hA.w;have wB:=J.w;have M:∀ l,(l:List aB).length<=100000->(l.flatMap fun a=>sP n (ofK n 1 (kd n 0 a) B) a).length<=100000*100001:=fun l hl=>
  fW (lI (c:=100001) (fun a=>fW (Qt _ _ _) (by have:=iR n 1 (kd n 0 a) B; omega)) l) (qW hl (cM _))
 unfold bAN bCU;simp only[Tr.den];rw[Lr n B J (hN.cols 1) (by omega)];simp only[aI];have h1:=aP (bd:=fun z=>(Ek n A (bO n 1 B) z).den) (fun q=>((A.take q).flatMap fun a=>sP n (ofK n 1 (kd n 0 a) B) a,(q:Int))) A.length (r:=.inl (mA n A B)) (fun q hq=>?_) ?_
 ·refine(congrArg (fun x=>Option.bind x _) h1).trans ?_;rfl
 ·have hm:=aM hq;have tq:=tA.get q;have hl0:=M (A.take q) (by grind);have Z:=Fm (n:=n) (i:=0) (hA.v _ hm) (hA.c _ hm) (hN.cols 0);unfold Ek;simp only[Tr.den,aL];rw[aA bL,aA,<-Option.bind_assoc,show n.Key=eC n 0 from rfl];refine(congrArg (fun x=>Option.bind x _) Z).trans ?_;simp only[aI];have D:=qD n 1 (Oi n 0 (A.getD q default).Row) B;have hcl:=iR n 1 (kd n 0 (A.getD q default)) B;have tc:fZ (ofK n 1 (kd n 0 (A.getD q default)) B):=fun d hd=>tB d (iQ.1 hd).1;have wc':okW (ofK n 1 (kd n 0 (A.getD q default)) B):=fun d hd=>wB d (iQ.1 hd).1;have Q:sP n (ofK n 1 (kd n 0 (A.getD q default)) B) (A.getD q default)=vL n 0 (ofK n 1 (kd n 0 (A.getD q default)) B) (A.getD q default):=by unfold sP; rw[aA h6]
  rw[aJ hq,jC,iT,Q];generalize (A.take q).flatMap (fun a=>sP n (ofK n 1 (kd n 0 a) B) a)=out at *
  change _=ofK n 1 (kd n 0 (A.getD q default)) B at D;generalize ofK n 1 (kd n 0 (A.getD q default)) B=c at *
  have w1:IntKind.i64.wrap ((A.getD q default).Time-n.Before)=(A.getD q default).Time-n.Before:=aV;have w2:IntKind.i64.wrap ((A.getD q default).Time+n.After)=(A.getD q default).Time+n.After:=aV;have e0:vL n 0 c (A.getD q default)=(fJ c ((A.getD q default).Time-n.Before) ((A.getD q default).Time+n.After)).map (jL 0 (A.getD q default)):=by unfold vL;rw[aF (by decide),aF (by decide)]
  rw[e0];have G:bW (fun z=>(xC n A (bO n 1 B) (q:Int) c (c.length:Int) z).den) (out,0)=some (.inl (out++(fJ c ((A.getD q default).Time-n.Before) ((A.getD q default).Time+n.After)).map (jL 0 (A.getD q default)))):=by
   have h2:=aP (bd:=fun z=>(xC n A (bO n 1 B) (q:Int) c (c.length:Int) z).den) (fun p=>(out++(fJ (c.take p) ((A.getD q default).Time-n.Before) ((A.getD q default).Time+n.After)).map (jL 0 (A.getD q default)),(p:Int))) c.length (r:=.inl (out++(fJ c ((A.getD q default).Time-n.Before) ((A.getD q default).Time+n.After)).map (jL 0 (A.getD q default)))) (fun p hp=>?_) ?_
   ·rw[<-h2]; simp[fJ]
   ·have tp:=tc.get p;have f1:=Kb (c.take p) ((A.getD q default).Time-n.Before) ((A.getD q default).Time+n.After);rw[dU]at f1;unfold xC;simp only[Tr.den,aL];rw[aA bL,aA];simp only[w1,w2];rw[Gu hp,eI,<-cR,aK];have f2:(out++(fJ (c.take p) ((A.getD q default).Time-n.Before) ((A.getD q default).Time+n.After)).map (jL 0 (A.getD q default))).length<=100000*100001+100000:=by grind
    generalize out++(fJ (c.take p) ((A.getD q default).Time-n.Before) ((A.getD q default).Time+n.After)).map (jL 0 (A.getD q default))=o at *
    by_cases c1:(A.getD q default).Time-n.Before<=(c.getD p default).Time
    ·rw[aA (bL c1)];simp only[aI];by_cases c2:(c.getD p default).Time<=(A.getD q default).Time+n.After
     ·rw[bL c1,bL c2];simp only[gT,Bool.and_self];rw[aAJ _ _ _ _ (wA.get q) (wc'.get p)];simp only[aI,oA];rw[aA];simp only[aI,fY,Ce];rw[aPW]
     grind
    grind
   ·unfold xC;simp only[Tr.den];rw[aF bQ,cF]
  generalize bG (bO n 1 B) (Oi n 0 (A.getD q default).Row)=o at *
  cases o with
  | none=>simp only[Option.getD_none]at D;subst D;refine(congrArg (fun x=>Option.bind x _) G).trans ?_;simp only[aI,sel];rw[aK]
  | some o=>simp only[sH]at D;subst D;refine(congrArg (fun x=>Option.bind x _) G).trans ?_;simp only[aI,sel];rw[aK]
 ·unfold Ek;simp only[Tr.den];rw[aF bQ,cF];rfl
theorem Jx{c:List aB}{p:Nat}{lo hi:Int}(hp:p<=c.length)(h:∀ j,p<=j->j<c.length->hi<(c.getD j default).Time):fJ c lo hi=fJ (c.take p) lo hi:=by
 have e:fJ (c.drop p) lo hi=[]:=by
  unfold fJ;refine List.filter_eq_nil_iff.2 fun d G=>?_;obtain⟨j,D,rfl⟩:=Cq.1 G;have M:j<c.length-p:=by simpa using D
  simp_all
 have J:fJ c lo hi=fJ (c.take p) lo hi++fJ (c.drop p) lo hi:=by unfold fJ;rw[<-oU,gV]
 rw[J,e,eQ]
theorem aTL(n:aG)(A:List aB)(M:List (ByteArray×List aB))(q:Nat)(hq:q<A.length)(c out:List aB)(hK:1<=n.Keep/\n.Keep<=10000)(tq:0<=(A.getD q default).Time/\(A.getD q default).Time<=2199023255552)
  (Q:(A.getD q default).Row.length<=1000)(Z:fZ c)(G:okW c)(ts:TS c)(lc:c.length<=100000)(lo:out.length<=1000000):
  Sp (bW (fun z=>(Qm n A M (q:Int) c z).den) (out,(c.length:Int)-1)) (fun z=>z = .inl (out++gY n c (A.getD q default))):=by
 have w1:IntKind.i64.wrap ((A.getD q default).Time-n.Keep)=(A.getD q default).Time-n.Keep:=aV;refine Sq.while (fun s:List aB×Int=>∃ p:Nat,s=(out,(p:Int)-1)/\p<=c.length/\∀ j,p<=j->j<c.length->(A.getD q default).Time<(c.getD j default).Time) (fun s=>(s.2+1).toNat) (fun s hs=>?_) ⟨c.length,rfl,cM _,fun j h1 h2=>by omega⟩;obtain⟨p,rfl,hp,hl⟩:=hs;unfold Qm;simp only[Tr.den,aL];by_cases h0:p=0
 ·subst h0;rw[aF bQ];refine aC.2 ?_;have e:gY n c (A.getD q default)=[]:=by unfold gY;rw[Jx (p:=0) (by omega) hl];rfl
  rw[e,eQ];rfl
 ·have e1:((p:Int)-1).toNat=p-1:=by omega
  have D:p-1<c.length:=by omega
  have tp:=Z.get (p-1);rw[aA bL,aA,e1];by_cases h1:(c.getD (p-1) default).Time<=(A.getD q default).Time
  ·rw[aA (bL h1)];have e2:=Jx (lo:=(A.getD q default).Time-n.Keep+1) (hi:=(A.getD q default).Time) hp hl;have J:=Gu D ((A.getD q default).Time-n.Keep+1) (A.getD q default).Time;rw[show p-1+1=p by omega]at J;by_cases h2:(c.getD (p-1) default).Time>(A.getD q default).Time-n.Keep
   ·rw[aA bL,aAJ _ _ _ _ Q (G.get _)];simp only[aI,oA];rw[aA];refine aC.2 ?_;rw[aA (by grind)]at J;have e:gY n c (A.getD q default)=[pI (A.getD q default) (c.getD (p-1) default) (A.getD q default).Time (A.getD q default).N]:=by unfold gY;simp_all
    rw[e];rfl
   ·rw[aF bQ];refine aC.2 ?_;have e:gY n c (A.getD q default)=[]:=by
     unfold gY;rw[if_pos];rw[e2];unfold fJ;refine List.filter_eq_nil_iff.2 fun d hd=>?_;obtain⟨j,hj,rfl⟩:=Cq.1 hd;have hj':j<p:=by grind
     have:=ts.get (i:=j) (j:=p-1) (by omega) D;grind
    rw[e,eQ];rfl
  ·rw[aF (bQ h1),aV];refine aC.2 ⟨⟨p-1,by rw[show ((p-1:Nat):Int)=(p:Int)-1 by omega],by omega,fun j q1 q2=>?_⟩,by omega⟩;grind
theorem aSR(hN:sU n)(h6:¬ n.Op=6)(hK:1<=n.Keep/\n.Keep<=10000)(hA:okI n 0 A)(J:okI n 1 B)(tsB:TS B)(lA:A.length<=1000)(lB:B.length<=1000):aXO n A B=some (mA n A B):=by
 have tA:=hA.tm;have tB:=J.tm;have wA:=hA.w;have wB:=J.w;have hr:∀ R a,sP n R a=gY n R a:=fun R a=>by unfold sP; rw[aF h6]
 have M:∀ l,(l:List aB).length<=1000->(l.flatMap fun a=>sP n (ofK n 1 (kd n 0 a) B) a).length<=1000*1:=fun l hl=>
  fW (lI (c:=1) (fun a=>by rw[hr]; exact Ac _ _ _) l) (qW hl (cM _))
 unfold aXO bCN;simp only[Tr.den];rw[Lr n B J (hN.cols 1) (by omega)];simp only[aI];have h1:=aP (bd:=fun z=>(Dz n A (bO n 1 B) z).den) (fun q=>((A.take q).flatMap fun a=>sP n (ofK n 1 (kd n 0 a) B) a,(q:Int))) A.length (r:=.inl (mA n A B)) (fun q Z=>?_) ?_
 ·refine(congrArg (fun x=>Option.bind x _) h1).trans ?_;rfl
 ·have hm:=aM Z;have hl0:=M (A.take q) (by grind);have Q:=Fm (n:=n) (i:=0) (hA.v _ hm) (hA.c _ hm) (hN.cols 0);unfold Dz;simp only[Tr.den,aL];rw[aA bL,aA,<-Option.bind_assoc,show n.Key=eC n 0 from rfl];refine(congrArg (fun x=>Option.bind x _) Q).trans ?_;simp only[aI];have G:=qD n 1 (Oi n 0 (A.getD q default).Row) B;change _=ofK n 1 (kd n 0 (A.getD q default)) B at G;have hcl:=iR n 1 (kd n 0 (A.getD q default)) B;have tc:fZ (ofK n 1 (kd n 0 (A.getD q default)) B):=fun d hd=>tB d (iQ.1 hd).1;have wc':okW (ofK n 1 (kd n 0 (A.getD q default)) B):=fun d hd=>wB d (iQ.1 hd).1;have ts':TS (ofK n 1 (kd n 0 (A.getD q default)) B):=Hj oQ tsB;rw[aJ Z,jC,iT,hr];generalize (A.take q).flatMap (fun a=>sP n (ofK n 1 (kd n 0 a) B) a)=out at *
  generalize ofK n 1 (kd n 0 (A.getD q default)) B=c at *
  have D:=(aTL n A (bO n 1 B) q Z c out hK (tA.get q) (wA.get q) tc wc' ts' (by omega) (by omega)).eq;have wl:IntKind.i64.wrap ((c.length:Int)-1)=(c.length:Int)-1:=aV;rw[<-wl]at D;generalize bG (bO n 1 B) (Oi n 0 (A.getD q default).Row)=o at *
  cases o with
  | none=>simp only[Option.getD_none]at G;subst G;refine(congrArg (fun x=>Option.bind x _) D).trans ?_;simp only[aI,sel];rw[aK]
  | some o=>simp only[sH]at G;subst G;refine(congrArg (fun x=>Option.bind x _) D).trans ?_;simp only[aI,sel];rw[aK]
 ·unfold Dz;simp only[Tr.den];rw[aF bQ,cF];rfl
noncomputable def rK (n:aG)(l:List aB):List aB:=(Hy l n).getD []
abbrev DS (l:List aB):Prop:=l.Pairwise (fun x y=>dC x y<0)
theorem Ov(D:DS l)(ho:St.okTs n l)(hl:l.length<=1000000):Hy l n=some (rK n l)/\(rK n l).Perm l/\St.Srt n (rK n l):=by obtain⟨d,h1,h2⟩:=(St.G63s1_sp n l D ho (by omega)).get;unfold rK;simp_all
theorem aSB{x y:aB}(h1:St.ltL n x y=false)(h2:St.ltL n y x=false):pl x=pl y:=by have h1:=vY h1;have h2:=vY h2;have s:=St.TO.key.sw (St.kT n y) (St.kT n x);have:=(St.TO.key.eq (St.kT n x) (St.kT n y)).1 (by omega);simp_all
theorem Zi{d:List aB}(M:DS l)(hp:d.Perm l)(hs:St.Srt n d){e:List aB}(D:e.Perm l)(G:St.Srt n e):d=e:=by
 have inj:∀ x,x∈l->∀ y,y∈l->pl x=pl y->x=y:=by
  intro x hx y hy h;obtain⟨i,hi,rfl⟩:=Cq.1 hx;obtain⟨j,J,rfl⟩:=Cq.1 hy;rcases Nat.lt_trichotomy i j with h1 | h1 | h1
  ·exact absurd h (yL (Bu.1 M i j hi J h1))
  ·subst h1; rfl
  ·exact absurd h.symm (yL (Bu.1 M j i J hi h1))
 refine List.Perm.eq_of_pairwise (le:=fun x y=>St.ltL n y x=false) (fun a b ha hb h1 h2=>inj a (hp.mem_iff.1 ha) b (D.mem_iff.1 hb) (aSB h2 h1)) hs G (hp.trans D.symm)
theorem Ba{r:List aB}(h:l.Perm r)(hn:okN l):cons l=cons r:=by have D:okN r:=fun x hx=>hn x (h.mem_iff.2 hx);exact(iX hn).ext (iX D) ((jJ l).trans ((jZ.of_perm h).trans (jJ r).symm))
theorem xU(hn:wO n)(ks:List ByteArray)(l:List aB):okD (kB n ks l):=⟨fun x hx=>by
  obtain⟨k,hk,hx⟩:=jR.1 hx;obtain⟨w,D,rfl⟩:=cU.1 hx;have:=hn.key;have:=hn.aggs;unfold okR Ib;simp only[dR,pV,dH,oA]; omega,fun x hx=>by
  obtain⟨k,hk,hx⟩:=jR.1 hx;obtain⟨w,D,rfl⟩:=cU.1 hx;exact⟨by show -9223372036854775808<=(1:Int); decide,by show (1:Int)<=9223372036854775807; decide⟩⟩
theorem Gr{n:aG}(hn:wO n){l:List aB}(ht:fZ l)(hl:l.length<=1000):∀ ks:List ByteArray,(kB n ks l).length<=ks.length*10000000
 | []=>by simp[kB]
 | k::ks=>by have h1:=wR hn (l:=ofK n 0 k l) (fun d hd=>ht d (gW.1 hd).1) (by have:=iR n 0 k l; omega);have h2:=Gr hn ht hl ks;unfold kB at h2 ⊢;grind
theorem aVW(n:aG)(hl:l.length<=1000):(cK (aY (bO n 0 l))).length<=1000:=by have:=jD n 0 l;rw[kI]; unfold aY; grind
theorem Xb(h4:n.Op=4)(hn:wO n)(h:okI n 0 l)(ha:Ct n l)(hl:l.length<=1000)(r:List (List aB)):oO fs n (l::r)=some (cons (kB n (cK (aY (bO n 0 l))) l)):=by have G:(l::r).getD (0:Int).toNat default=l:=rfl;have D:=xU hn (cK (aY (bO n 0 l))) l;have h1:=Gr hn h.t hl (cK (aY (bO n 0 l)));have h2:=aVW n hl;unfold oO Jk;simp only[Tr.den,G];rw[aF dJ,aF dJ,aF dJ,aA (fA h4),aA (by simp),aRG hn h ha hl];simp only[aI];rw[nN _ D.r D.n (by omega)]; rfl
theorem Ui{S:List aB->List aB}{ks:List ByteArray}(M:∀ d,d∈l->0<=d.N)(hk:0<=n.Keep)(J:∀ r,r.Sublist l->(S r).Perm r):∀ x,x∈mN n S ks l->(∃ d,d∈l/\x.Row=d.Row)/\0<=x.N/\x.N<=n.Keep:=fun x hx=>by
 obtain⟨k,Q,hx⟩:=jR.1 hx;obtain⟨b,hb,hx⟩:=jR.1 hx;have D:(inB n.Size n.Size b (ofK n 0 k l)).Sublist l:=List.Sublist.trans oQ oQ;have hp:=J _ D;have:∀ (tm left:Int) (r:List aB),(∀ d,d∈r->0<=d.N)->0<=left->∀ x,x∈pA tm left r->(∃ d,d∈r/\x.Row=d.Row)/\0<=x.N/\x.N<=left:=by
  intro tm left r
  induction r generalizing left with
  | nil=>intro _ _ x hx; cases hx
  | cons d r ih=>
   intro hr hl x hx;have hm:0<=kF left d.N/\kF left d.N<=left:=by unfold kF; have:=hr d cS; split <;> omega
   rw[pA]at hx;rcases bE.1 hx with rfl | hx
   ·simp_all
   ·obtain⟨⟨e,he,h1⟩,h2,h3⟩:=ih (left-kF left d.N) (fun d G=>hr d (cO _ G)) (by omega) x hx;grind
 obtain⟨⟨d,G,h1⟩,h2⟩:=this _ _ _ (fun d G=>M d (D.subset (hp.mem_iff.1 G))) hk x hx;grind
theorem Gz{n:aG}(hn:Tf n){S:List aB->List aB}{l:List aB}(ht:fZ l)(hl:l.length<=1000)(hS:∀ r,r.Sublist l->(S r).Perm r):∀ ks:List ByteArray,(mN n S ks l).length<=ks.length*1000000
 | []=>by simp[mN,Qs]
 | k::ks=>by
  have hz:=hn.size;have h0:=iR n 0 k l;have hwb:(jO n.Size n.Size (ofK n 0 k l)).length<=1000:=by have:=pN (len:=n.Size) (step:=n.Size) (c:=1) (show 0<n.Size by omega) (by omega) (l:=ofK n 0 k l) (fun d hd=>ht d (gW.1 hd).1);omega
  have hF:∀ r:List Int,(r.flatMap fun b=>Ja n S b (inB n.Size n.Size b (ofK n 0 k l))).length<=r.length*1000:=fun r=>by
   induction r with
   | nil=>simp
   | cons b r ih=>have:=(hS (inB n.Size n.Size b (ofK n 0 k l)) (List.Sublist.trans oQ oQ)).length_eq;have h3:=nM n.Size n.Size b (ofK n 0 k l);unfold Ja at ih ⊢;rw[fL,dR,xX,fX]; omega
  have h1:=hF (jO n.Size n.Size (ofK n 0 k l));have h2:=Gz hn ht hl hS ks;unfold mN Qs at h2 ⊢;grind
theorem aAC(hc:DS l)(ho:St.okTs n l)(hl:l.length<=1000):∀ r,r.Sublist l->Hy r n=some (rK n r)/\(rK n r).Perm r:=fun r hr=>by have:=Ov (n:=n) (l:=r) (Hj hr hc) (fun x hx=>ho x (hr.subset hx)) (by grind);simp_all
theorem aJC(Z:n.Op=5)(hn:Tf n)(h:okI n 0 l)(M:∀ d,d∈l->0<=d.N/\d.N<=1000)(hc:DS l)(ho:St.okTs n l)(hl:l.length<=1000)(r:List (List aB)):
  oO fs n (l::r)=some (cons (mN n (rK n) (cK (aY (bO n 0 l))) l)):=by
 have Q:(l::r).getD (0:Int).toNat default=l:=rfl;have J:=aAC hc ho hl;have D:∀ r,r.Sublist l->(rK n r).Perm r:=fun r hr=>(J r hr).2;have hkp:=hn.keep;have hm:=Ui (n:=n) (S:=rK n) (ks:=cK (aY (bO n 0 l))) (fun d G=>(M d G).1) (by omega) D;have h1:=Gz hn h.t hl D (cK (aY (bO n 0 l)));have h2:=aVW n hl;unfold oO Jk;simp only[Tr.den,Q];rw[aF dJ,aF dJ,aF dJ,aF dJ,aA (fA Z),aA (by simp),aQA hn h M hl J];simp only[aI];rw[nN _ (fun x hx=>by
  obtain⟨⟨d,G,e⟩,_⟩:=hm x hx;have:=h.r d G;unfold okR; rw[e]; omega) (fun x hx=>by
  have:=(hm x hx).2;exact⟨by omega,by omega⟩) (by omega)]; rfl
def sR(a b:Int):List aE:=[vI a,vI b]
def sL:List aB:=[⟨3,sR 7 5,1⟩,⟨8,sR 7 6,1⟩,⟨12,sR 7 1,1⟩]
def sAg:List gO:=[⟨0,0,⟨#[110]⟩⟩,⟨1,1,⟨#[115]⟩⟩]
def sA:aG:=⟨4,[],⟨#[]⟩,0,[],0,10,0,[0],[],0,0,0,sAg,[],[]⟩
def sB:aG:=⟨4,[],⟨#[]⟩,0,[],2,100,5,[0],[],0,0,0,sAg,[],[]⟩
def sC:aG:=⟨5,[],⟨#[]⟩,0,[],0,10,1,[],[],0,0,1,[],[],[]⟩
theorem aVM{x:Int}(h:oW x):okV (vI x):=⟨⟨by show -9223372036854775808<=(0:Int); decide,by show (0:Int)<=9223372036854775807; decide⟩,h,yM _⟩
theorem bFD{a b:Int}(ha:oW a)(hb:oW b):Hw (sR a b):=fun v hv=>by
 rcases bE.1 hv with rfl | hv
 ·exact aVM ha
 ·rw[cZ.1 hv]; exact aVM hb
theorem sW(h:d∈sL):d=⟨3,sR 7 5,1⟩\/d=⟨8,sR 7 6,1⟩\/d=⟨12,sR 7 1,1⟩:=by unfold sL at h;simpa using h
theorem aIG(n:aG)(hk:∀ c,c∈eC n 0->0<=c/\c<2)(hl:∀ d,d∈l->d∈sL):okI n 0 l:=by
 refine⟨fun d D=>?_,fun d D=>?_,fun d D=>?_,fun d D=>?_,fun d D=>?_⟩ <;> rcases sW (hl d D) with rfl | rfl | rfl
 all_goals first
  | exact bFD ⟨by decide,by decide⟩ ⟨by decide,by decide⟩
  | exact fun c hc=>hk c hc
  | (simp only[sR,fX,rV]; omega)
  | exact⟨by decide,by decide⟩
theorem bEH(h:n.Key=[0]):∀ c,c∈eC n 0->0<=c/\c<2:=by intro c hc;have h1:eC n 0=[0]:=h;simp_all
theorem ks1{k0:ByteArray}(h:∀ d,d∈l->kd n 0 d=k0)(G:l≠[]):cK (aY (bO n 0 l))=[k0]/\ofK n 0 k0 l=l:=by
 have e:ofK n 0 k0 l=l:=Tq.2 fun d D=>bL (h d D);refine⟨List.perm_singleton.1 ((Xg ((jB _).nodup_iff.2 ((Bn n 0 l).nodup LO.bytes)) (by simp)).2 fun k=>?_),e⟩;rw[(jB _).mem_iff,nG,cZ];constructor
 ·intro hk;obtain⟨d,D⟩:=List.exists_mem_of_ne_nil _ hk;obtain⟨h1,h2⟩:=gW.1 D;simp_all
 simp_all
theorem Be{len step:Int}{bs:List Int}(h:aY (rY len step l)=bs):(jO len step l).Perm bs:=by unfold jO; rw[h]; exact qM _
theorem bGG:oO [] sA [sL]=some [⟨9,[vI 7,vI 0,vI 2,vI 11],1⟩,⟨19,[vI 7,vI 10,vI 1,vI 1],1⟩]:=by
 have hn:wO sA:=⟨by decide,.inl rfl,by decide,by decide⟩;have M:okI sA 0 sL:=aIG sA (bEH (n:=sA) rfl) fun d D=>D;have G:Ct sA sL:=fun g hg=>by
  rcases bE.1 hg with rfl | hg
  ·simp_all
  ·rw[cZ.1 hg];exact .inr fun d D=>by rcases sW D with rfl | rfl | rfl <;> exact⟨by decide,by decide⟩
 rw[Xb rfl hn M G (by decide)];obtain⟨Z,Q⟩:=ks1 (n:=sA) (l:=sL) (k0:=kd sA 0 ⟨3,sR 7 5,1⟩) (fun d D=>by rcases sW D with rfl | rfl | rfl <;> rfl) (by decide);rw[Z];have hp:=Be (len:=10) (step:=10) (l:=sL) (bs:=[0,10]) (by rfl);have J:(kB sA [kd sA 0 ⟨3,sR 7 5,1⟩] sL).Perm (([0,10].map fun b=>(⟨b,b+10,inB 10 10 b sL⟩:aO)).map (Ib sA sL)):=by unfold kB;rw[iT,Q];exact(hp.map _).map _
 rw[Ba J (xU hn _ _).n];rfl
theorem bGI:oO [] sB [sL]=some [⟨7,[vI 7,vI 3,vI 1,vI 5],1⟩,⟨16,[vI 7,vI 8,vI 2,vI 7],1⟩]:=by
 have hn:wO sB:=⟨by decide,.inr (.inr ⟨rfl,by decide⟩),by decide,by decide⟩;have M:okI sB 0 sL:=aIG sB (bEH (n:=sB) rfl) fun d D=>D;have G:Ct sB sL:=fun g hg=>by
  rcases bE.1 hg with rfl | hg
  ·simp_all
  ·rw[cZ.1 hg];exact .inr fun d D=>by rcases sW D with rfl | rfl | rfl <;> exact⟨by decide,by decide⟩
 rw[Xb rfl hn M G (by decide)];obtain⟨Z,Q⟩:=ks1 (n:=sB) (l:=sL) (k0:=kd sB 0 ⟨3,sR 7 5,1⟩) (fun d D=>by rcases sW D with rfl | rfl | rfl <;> rfl) (by decide);rw[Z];have hp:=Be (len:=100) (step:=100) (l:=sL) (bs:=[0]) (by rfl);have J:kB sB [kd sB 0 ⟨3,sR 7 5,1⟩] sL=(ses 5 (0+100) (inB 100 100 0 sL)).map (Ib sB sL):=by unfold kB;rw[iT,Q];show (Po sB sL).map _=_;unfold Po;rw[show jO sB.Size sB.Size sL=[0] from List.perm_singleton.1 hp,iT];rfl
 rw[J];rfl
theorem bGD:oO [] sC [sL.take 2]=some [⟨9,sR 7 6,1⟩]:=by
 have hn:Tf sC:=⟨by decide,by decide,by decide⟩;have D:∀ d,d∈sL.take 2->d∈sL:=fun d G=>oK G;have Q:okI sC 0 (sL.take 2):=aIG sC (fun c hc=>by simp[eC,sC]at hc) D;have J:DS (sL.take 2):=by have:sL.take 2=[⟨3,sR 7 5,1⟩,⟨8,sR 7 6,1⟩]:=rfl;rw[this];exact lQ.2 ⟨fun y hy=>by rw[cZ.1 hy]; decide,sZ _ _⟩
 have ho:St.okTs sC (sL.take 2):=fun d G=>by rcases sW (D d G) with rfl | rfl | rfl <;> exact⟨by decide,by decide⟩
 rw[aJC rfl hn Q (fun d G=>by rcases sW (D d G) with rfl | rfl | rfl <;> exact⟨by decide,by decide⟩) J ho (by decide)];obtain⟨e1,Z⟩:=ks1 (n:=sC) (l:=sL.take 2) (k0:=kd sC 0 ⟨3,sR 7 5,1⟩) (fun d G=>by rcases sW (D d G) with rfl | rfl | rfl <;> rfl) (by decide);rw[e1];have hp:=Be (len:=10) (step:=10) (l:=sL.take 2) (bs:=[0]) (by rfl);have hs:rK sC (sL.take 2)=[⟨8,sR 7 6,1⟩,⟨3,sR 7 5,1⟩]:=by obtain⟨_,h2,h3⟩:=Ov J ho (by decide);refine Zi J h2 h3 (List.Perm.swap _ _ _) ?_;exact lQ.2 ⟨fun y hy=>by rw[cZ.1 hy]; rfl,sZ _ _⟩
 have M:mN sC (rK sC) [kd sC 0 ⟨3,sR 7 5,1⟩] (sL.take 2)=pA 9 1 [⟨8,sR 7 6,1⟩,⟨3,sR 7 5,1⟩]:=by unfold mN Qs;rw[iT,Z,show jO sC.Size sC.Size (sL.take 2)=[0] from List.perm_singleton.1 hp,iT];unfold Ja;rw[show inB sC.Size sC.Size 0 (sL.take 2)=sL.take 2 from by rfl,hs];rfl
 rw[M];rfl
theorem aPU:bDK=some true:=by
 have g:∀ a b,bET a b=some (sR a b):=fun a b=>rfl;have g1:∀ a b,aGZ a b=some (sR a b):=fun a b=>rfl;have Z:∀ a b,(sR a b).length=2:=fun a b=>rfl;unfold bDK aZS;simp only[Tr.den,g,aI];refine(congrArg (fun x=>Option.bind x _) bGG).trans ?_;simp only[aI];refine(congrArg (fun x=>Option.bind x _) bGI).trans ?_;simp only[aI];rw[aA (by decide)];refine(congrArg (fun x=>Option.bind x _) bGD).trans ?_;have Q:Oz [vI 7,vI 0,vI 2,vI 11] (sR 7 0++sR 2 11)=some true:=by rw[nY _ _ (by decide) (by decide)]; rfl
 have M:Oz [vI 7,vI 10,vI 1,vI 1] (sR 7 10++sR 1 1)=some true:=by rw[nY _ _ (by decide) (by decide)]; rfl
 have J:Oz [vI 7,vI 3,vI 1,vI 5] (sR 7 3++sR 1 5)=some true:=by rw[nY _ _ (by decide) (by decide)]; rfl
 have G:Oz [vI 7,vI 8,vI 2,vI 7] (sR 7 8++sR 2 7)=some true:=by rw[nY _ _ (by decide) (by decide)]; rfl
 have D:Oz (sR 7 6) (sR 7 6)=some true:=by rw[nY _ _ (by decide) (by decide)]; rfl
 simp_all
structure NIn (ts:List Int)(A:List aB):Prop where
 can:Can A
 len:A.length<=200
 v:∀ d,d∈A->Hw d.Row
 t:fZ A
 row:∀ d,d∈A->d.Row.length=ts.length/\TyR ts d.Row
 n:∀ d,d∈A->1<=d.N/\d.N<=1000
theorem bEK(h:∀ d,d∈a->1<=d.N/\d.N<=5)(p:Pl->Bool):0<=wt p a/\wt p a<=5*a.length:=by
 induction a with
 | nil=>exact⟨Int.le_refl _,by simp[wt]⟩
 | cons x a ih=>have h1:=h x cS;have h2:=ih fun d D=>h d (cO _ D);simp only[wt,fX];split <;> omega
theorem aPF(h:∀ d,d∈a->1<=d.N/\d.N<=5)(hl:a.length<=200):∀ x,x∈cons a->1<=x.N/\x.N<=1000:=fun x hx=>by
 have hn:okN a:=fun d D=>by have:=h d D; exact⟨by omega,by omega⟩
 have hc:=iX hn;have h1:=jJ a (at1 (pl x));rw[hc.wt_mem hx,aGH (hc.n64 x hx)]at h1;have h2:=bEK h (at1 (pl x));rw[aGH ⟨by omega,by omega⟩]at h1;have:=hc.nz x hx;omega
theorem bGH{v:aE}(h:yK v):okV v:=⟨h.1,h.2.1,by have:v.S.size<=1048576:=h.2.2; omega⟩
theorem Qh.nin{m:Nat}(h:Qh ts a m)(hm:m<=200)(ho:okL 40 dX a):NIn ts (cons a):=by
 have hl:=h.len;have e:∀ d,d∈PL.cons a->∃ z,z∈a/\d.Time=z.Time/\d.Row=z.Row:=fun d G=>by obtain⟨z,D,he⟩:=Gl G;exact⟨z,D,congrArg (·.1) he,congrArg (·.2) he⟩
 refine⟨iX (dX.okd ho).n,by have:=xG a; omega,fun d G=>?_,fun d G=>?_,fun d G=>?_,aPF h.n (by omega)⟩ <;> obtain⟨z,D,h1,h2⟩:=e d G
 ·rw[h2]; exact fun v hv=>bGH ((ho.2 z D).2.1.2 v hv)
 ·rw[h1]; exact h.t z D
 ·rw[h2]; exact h.r z D
theorem NIn.okD{ts:List Int}{A:List aB}(h:NIn ts A)(G:ts.length<=12):okD A:=⟨fun d D=>by have:=(h.row d D).1; unfold okR; omega,h.can.n64⟩
theorem NIn.okI{ts:List Int}{A:List aB}(h:NIn ts A)(G:ts.length<=12){n:aG}{i:Int}(hk:okC (eC n i) ts.length):okI n i A:=
 ⟨h.v,fun d D c hc=>by rw[(h.row d D).1]; exact hk c hc,fun d D=>by have:=(h.row d D).1; omega,h.t,h.can.n64⟩
theorem NIn.sm(h:NIn ts A)(D:d∈A):∀ v,v∈d.Row->Sm v:=fun v hv=>(h.v d D v hv).s
theorem NIn.nil(ts:List Int):NIn ts []:=⟨.nil,by simp,by simp,by simp[fZ],by simp,by simp⟩
theorem evE(hl:okL 104 dK fs)(hf:G82 fs=some true)(h:NIn ts A)(he:dE e)(G:nJ fs ts [] e=some (t,true))(D:d∈A):
  vZ fs e d.Time d.Row=some (evV fs e d)/\TyV t (evV fs e d)/\Sm (evV fs e d):=by
 obtain⟨v,h1,h2⟩:=(aNW hl hf he G d.Time (h.row d D).1 (h.sm D)).get;have e:evV fs e d=v:=by unfold evV; rw[h1]; rfl
 rw[e];exact⟨h1,aOG hl hf he G d.Time (h.row d D).2 h1,h2⟩
noncomputable def rR (fs:List aS)(n:aG)(r:Pl):Bool:=((evV fs (n.Exprs.getD 0 default) ⟨r.1,r.2,0⟩).Kind==(vB true).Kind)&&(((evV fs (n.Exprs.getD 0 default) ⟨r.1,r.2,0⟩).N==(vB true).N)&&(((evV fs (n.Exprs.getD 0 default) ⟨r.1,r.2,0⟩).S.toList==(vB true).S.toList)&&true))
theorem bCM(h1:n.Op=1)(hl:okL 104 dK fs)(hf:G82 fs=some true)(he:okL 56 dE n.Exprs)(hx:n.Exprs.length=1/\nJ fs ta [] (n.Exprs.getD 0 default)=some (2,true))(D:ta.length<=12)(h:NIn ta A)(r:List (List aB)):
  oO fs n (A::r)=some (cons (A.filter fun d=>rR fs n (pl d))):=by
 have J:(A::r).getD (0:Int).toNat default=A:=rfl;have Q:=h.len;have ho:okD (A.filter fun d=>rR fs n (pl d)):=(h.okD D).sub fun x hx=>(iQ.1 hx).1;have M:=lM (fun d=>rR fs n (pl d)) A;unfold oO Jk;simp only[Tr.den];rw[aA (fA h1),aA (by simp)];have h2:=aP (bd:=fun s=>(En fs n (A::r) s).den) (fun k=>((A.take k).filter fun d=>rR fs n (pl d),(k:Int))) A.length (r:=.inl (A.filter fun d=>rR fs n (pl d))) (fun k hk=>?_) ?_
 ·rw[show (([]:List aB),(0:Int))=(fun k:Nat=>((A.take k).filter fun d=>rR fs n (pl d),(k:Int))) 0 from rfl,h2];simp only[aI,sel];rw[nN _ ho.r ho.n (by omega)]; rfl
 ·have hm:=aM hk;have hv:=(evE hl hf h (okEs.get he (show 0<n.Exprs.length by omega)) hx.2 hm).1;have G:=lM (fun d=>rR fs n (pl d)) (A.take k);rw[dU]at G;unfold En;simp only[Tr.den,aL];rw[aA (by simp_all),aA (by simp_all),aA,J,show (0:Int).toNat=0 from rfl,hv];simp only[aI];rw[aAE];simp only[aI];rw[aJ hk,oU,aK];have hc:(((evV fs (n.Exprs.getD 0 default) (A.getD k default)).Kind==(vB true).Kind)&&(((evV fs (n.Exprs.getD 0 default) (A.getD k default)).N==(vB true).N)&&(((evV fs (n.Exprs.getD 0 default) (A.getD k default)).S.toList==(vB true).S.toList)&&true)))=rR fs n (pl (A.getD k default)):=rfl;grind
 ·unfold En;simp only[Tr.den];rw[aF (by simp_all),cF]
noncomputable def Qw (fs:List aS)(n:aG)(r:Pl):List aE:=n.Exprs.map fun e=>evV fs e ⟨r.1,r.2,0⟩
noncomputable def rQ (fs:List aS)(n:aG)(d:aB):aB:=⟨d.Time,Qw fs n (pl d),d.N⟩
theorem aQC(k:Nat)(hk:k<A.length)(v:List aB)(he:n.Exprs.length<=12)(hv:∀ i,i<n.Exprs.length->vZ fs (n.Exprs.getD i default) (A.getD k default).Time (A.getD k default).Row=some (evV fs (n.Exprs.getD i default) (A.getD k default))):
  bW (fun s=>(xZ fs n.Exprs A (k:Int) s).den) (v,List.replicate n.Exprs.length (default:aE),0)=some (.inl (v,Qw fs n (pl (A.getD k default)))):=by
 have h2:=aP (bd:=fun s=>(xZ fs n.Exprs A (k:Int) s).den) (fun i=>(v,((n.Exprs.take i).map fun e=>evV fs e (A.getD k default))++List.replicate (n.Exprs.length-i) (default:aE),(i:Int))) n.Exprs.length (r:=.inl (v,Qw fs n (pl (A.getD k default)))) (fun i hi=>?_) ?_
 ·simp_all
 ·have G:(((n.Exprs.take i).map fun e=>evV fs e (A.getD k default))++List.replicate (n.Exprs.length-i) (default:aE)).length=n.Exprs.length:=by grind
  have D:((n.Exprs.take i).map fun e=>evV fs e (A.getD k default)).length=i:=by grind
  unfold xZ;simp only[Tr.den,aL];rw[aA bL,aA,hv i hi];simp only[aI];rw[aA,aA,aA (by grind),aK]
  congr 4
  rw[List.set_append,aF,D,Nat.sub_self,show n.Exprs.length-i=(n.Exprs.length-(i+1))+1 by omega,List.replicate_succ,List.set_cons_zero,aJ hi,eI,cR];rfl
 ·unfold xZ;simp only[Tr.den];rw[aF bQ,cF,Nat.sub_self];simp[Qw,evV,pl]
theorem aNO(he:n.Exprs.length<=12)(hA:A.length<=1000)(hv:∀ d,d∈A->∀ i,i<n.Exprs.length->vZ fs (n.Exprs.getD i default) d.Time d.Row=some (evV fs (n.Exprs.getD i default) d)):aWD fs n.Exprs A=some (A.map (rQ fs n)):=by
 unfold aWD bAA;simp only[Tr.den];have h2:=aP (bd:=fun s=>(El fs n.Exprs A s).den) (fun k=>((A.take k).map (rQ fs n),(k:Int))) A.length (r:=.inl (A.map (rQ fs n))) (fun k hk=>?_) ?_
 ·exact(congrArg (fun x=>Option.bind x _) h2).trans rfl
 ·unfold El;simp only[Tr.den,aL];rw[aA bL,aA,aA ⟨⟨by omega,by omega⟩,by omega⟩,aQC k hk _ he (hv _ (aM hk))];simp only[aI,sel];rw[aA (by grind),aK,aJ hk,eI];rfl
 ·unfold El;simp only[Tr.den];rw[aF bQ,cF]
theorem bBE(h2:n.Op=2)(hl:okL 104 dK fs)(hf:G82 fs=some true)(he:okL 56 dE n.Exprs)(hx:(1<=n.Exprs.length/\n.Exprs.length<=12)/\∀ i,i<n.Exprs.length->∃ t,nJ fs ta [] (n.Exprs.getD i default)=some (t,true))(h:NIn ta A)(r:List (List aB)):
  oO fs n (A::r)=some (cons (A.map (rQ fs n))):=by
 have J:(A::r).getD (0:Int).toNat default=A:=rfl;have Q:=h.len;have ho:okD (A.map (rQ fs n)):=⟨fun x D=>by
  obtain⟨d,G,rfl⟩:=cU.1 D;unfold okR rQ Qw;grind,fun x D=>by
  obtain⟨d,G,rfl⟩:=cU.1 D;exact h.can.n64 d G⟩
 unfold oO Jk;simp only[Tr.den];rw[aF dJ,aA (fA h2),aA (by simp),J,aNO hx.1.2 (by omega) fun d G i hi=>by obtain⟨t,M⟩:=hx.2 i hi;exact(evE hl hf h (okEs.get he hi) M G).1];simp only[aI];rw[nN _ ho.r ho.n (by grind)]; rfl
theorem bCE(h3:n.Op=3)(D:ta.length<=12)(h:NIn ta A)(G:NIn ta B):oO fs n [A,B]=some (cons (A++B)):=by have M:=h.len;have J:=G.len;have ho:=(h.okD D).app (G.okD D);unfold oO Jk;simp only[Tr.den];rw[aF dJ,aF dJ,aA (fA h3),aA (by simp),aA (by simp)];rw[show ([A,B]:List (List aB)).getD (0:Int).toNat default=A from rfl,show ([A,B]:List (List aB)).getD (1:Int).toNat default=B from rfl,aZE [A,B] (by simp; omega) (by simp)];simp only[aI,List.flatten_cons,List.flatten_nil,eQ];rw[nN _ ho.r ho.n (by grind)]; rfl
theorem aXM{tb:List Int}(D:n.Op=6)(hB:okB n)(hk:n.Key.length<=20/\n.Key2.length<=20)(J:ta.length<=12)(G:tb.length<=12)(Q:okC n.Key ta.length)(M:okC n.Key2 tb.length)(h:NIn ta A)(h':NIn tb B):
  oO fs n [A,B]=some (cons (mA n A B)):=by
 have hal:=h.len;have Z:=h'.len;have iA:okI n 0 A:=h.okI J Q;have iB:okI n 1 B:=h'.okI G M;have ho:=Og iA iB;have hlen:(mA n A B).length<=200*201:=fW (yB (c:=200) Z) (qW hal (cM _));unfold oO Jk;simp only[Tr.den];rw[aF dJ,aF dJ,aF dJ,aF dJ,aF dJ,aA (fA D),aA (by simp),aA (by simp)];rw[show ([A,B]:List (List aB)).getD (0:Int).toNat default=A from rfl,show ([A,B]:List (List aB)).getD (1:Int).toNat default=B from rfl,aRI ⟨.inl ⟨D,hB⟩,by omega,by omega⟩ D hB iA iB (by omega) (by omega)];simp only[aI];rw[nN _ ho.r ho.n (by omega)]; rfl
theorem aEN(X:List aB)(ho:jQ X)(hl:X.length<=1000000000000):aXA X X=some true:=by
 unfold aXA aXZ;simp only[Tr.den];rw[aF (Sh rfl)];have h2:=aP (bd:=fun s=>(Dd X X s).den) (fun k=>(k:Int)) X.length (r:=.inl ()) (fun k hk=>?_) ?_
 ·exact(congrArg (fun x=>Option.bind x _) h2).trans rfl
 ·have D:=ho _ (aM hk);unfold Dd;simp only[Tr.den,aL];rw[aA bL,aA,aA,aAH _ _ D D,(kL (x:=X.getD k default) (y:=X.getD k default)).2 rfl];simp only[aI,bne_self_eq_false,eO,eH];rw[aA,aA];simp only[aI,eO,eH];rw[aK]
 ·unfold Dd;simp only[Tr.den];rw[aF bQ]
theorem bEL{a b:ByteArray}(h:(a.toList==b.toList)=true):bl a=bl b:=by have h:=dP.1 h;rw[ByteArray.toList_eq,ByteArray.toList_eq]at h;exact h
theorem oE(b:Bool):aZB b=some (vB b):=by cases b <;> simp[aZB,aYB,Tr.den,vB]
def Sl(a b:aE):Bool:=if a.Kind=1 then Op.bytesLess a.S.toList b.S.toList else decide (a.N<b.N)
theorem Xz(a b:aE):bAF a b=some (Sl a b):=by
 unfold bAF bAZ Sl;by_cases h:a.Kind=1
 ·simp only[Tr.den]; rw[aA (fA h),aA h]
 ·simp only[Tr.den]; rw[aF (dJ h),aF h]
theorem aSX(x:Int):eR x 0=x:=by unfold eR; split <;> omega
theorem Sv(a b:ByteArray):Op.bytesLess a.toList b.toList=decide (zA a b<0):=by rw[iV,Lib.toList_data,Lib.toList_data]; rfl
theorem Qx{a b:aE}(ha:TyV t a)(hb:TyV t b):Sl a b=decide (gC a b<0):=by
 have hk:pE a.Kind b.Kind=0:=(TO.int.eq _ _).2 (by rw[ha.1,hb.1]);have e:gC a b=eR (pE a.N b.N) (zA a.S b.S):=by unfold gC; rw[hk]; rfl
 rw[e];unfold Sl;by_cases h:t=1
 ·have hn:pE a.N b.N=0:=(TO.int.eq _ _).2 (by rw[(ha.2.2.1 h).1,(hb.2.2.1 h).1]);rw[aA (ha.1.trans h),hn,Sv]; rfl
 ·have hs:zA a.S b.S=0:=(TO.str.eq _ _).2 (by have:=(ha.2.1 h).trans (hb.2.1 h).symm;exact aLH (bEL (dP.2 this)));rw[aF (fun D=>h (ha.1▸D)),hs,aSX];unfold pE;grind
theorem aDX{a b:aE}(ha:TyV t a)(hb:TyV t b):(!Sl b a)=decide (gC a b<=0):=by rw[Qx hb ha];have h:=TO.val.sw b a;grind
def opE(fs:List aS)(tm:Int)(row ps:List aE)(e:bF)(l:List aE)(call:List aE->bF->aE):aE:=
 if e.Op=0 then vI e.N else if e.Op=1 then vT e.S else if e.Op=2 then vB (e.N==1) else if e.Op=3 then row.getD e.N.toNat default else if e.Op=4 then ps.getD e.N.toNat default
 else if e.Op=5 then vI tm else if e.Op=6 then vB ((l.getD 0 default).N==0) else if e.Op=7 then vI (IntKind.i64.wrap (0-(l.getD 0 default).N)) else if e.Op=20 then vI ((l.getD 0 default).S.size:Int)
 else if e.Op=22 then call l (fs.getD e.N.toNat default).Body else bop e.Op (l.getD 0 default) (l.getD 1 default)
def evQ(fs:List aS)(tm:Int):Nat->List aE->List aE->bF->aE
 | 0,_,_,_=>default
 | h+1,row,ps,e=>if e.Op=21 then (if (evQ fs tm h row ps (e.Args.getD 0 default)).N=1 then evQ fs tm h row ps (e.Args.getD 1 default) else evQ fs tm h row ps (e.Args.getD 2 default))
  else opE fs tm row ps e (e.Args.map (evQ fs tm h row ps)) (fun vs b=>evQ fs tm h [] vs b)
theorem OkE.up{h G:Nat}(he:OkE fs nc np h e)(D:h<=G):OkE fs nc np G e:=by
 cases he with
 | mk k hm hs hl ho hlt hA c3 c4 c1 c2 c21 c22 hb=>exact .mk k hm hs hl ho (fun i=>Cl (hlt i) D) hA c3 c4 c1 c2 c21 (fun h=>⟨(c22 h).1,(c22 h).2.1,Cl (c22 h).2.2 D⟩) hb
theorem aJN{l:List bF}{f:bF->aE}{i:Nat}(h:i<l.length):(l.map f).getD i default=f (l.getD i default):=by rw[bU (by simp_all),mW,<-bU h]
theorem aDA(p:bY):Sq false (Sc p) (fun v=>v=bop 19 p.a_ p.b_):=by
 by_cases h:p.a_.S.size+p.b_.S.size<=9223372036854775807
 ·rw[No p h]; exact aC.2 rfl
 ·refine sqf.2 fun y hy=>?_;unfold Sc aFA at hy;simp only[Tr.den]at hy;grind
theorem aTU(f:fF)(e:bF):Sq false (Ty f e) (fun v=>∀ n nc np,OkE f.funcs_ nc np n e->v=evQ f.funcs_ f.time_ n f.row_ f.params_ e):=by
 refine Me (C:=fun (a:fF×bF) (x:Option (aE))=>Con Proofs.Tryz.prog 171 [.t (iS a.1),.t (cJ a.2)] x (fun (y:aE)=>.t (bZ y))) (fun a=>⟨bM Proofs.Tryz.func171 (by rfl),fun _ h=>nomatch h⟩) (fun rec a=>Qg rec a.1 a.2) (fun rec a=>Eu rec a.1 a.2)
  (fun a v=>∀ n nc np,OkE a.1.funcs_ nc np n a.2->v=evQ a.1.funcs_ a.1.time_ n a.1.row_ a.1.params_ a.2) (fun r a Q=>?_) (f,e)
 clear f e;obtain⟨f,e⟩:=a;simp only at Q ⊢;refine sqf.2 fun y hy n nc np he=>?_;revert y;refine sqf.1 ?_;cases he with
 | mk k' hm hs hl ho hlt hA c3 c4 c1 c2 c21 c22 hb=>
 obtain⟨m,rfl⟩:∃ m,n=m+1:=⟨n-1,by grind⟩;have hr:∀ i,i<e.Args.length->Sq false (r.1 (f,e.Args.getD i default)) (fun v=>v=evQ f.funcs_ f.time_ m f.row_ f.params_ (e.Args.getD i default)):=fun i hi=>
  (Q (f,e.Args.getD i default)).imp fun v hv=>hv m nc np ((hA i hi).up (by grind))
 unfold Qg;by_cases Z:e.Op=21
 ·have hl3:=c21 Z;rw[evQ,aA Z];simp only[Z,Tr.den];rw[aA (by decide),aA];refine Sq.bind _ (hr 0 (by omega)) fun v1 h1=>?_;grind
 ·have eE:evQ f.funcs_ f.time_ (m+1) f.row_ f.params_ e=opE f.funcs_ f.time_ f.row_ f.params_ e (e.Args.map (evQ f.funcs_ f.time_ m f.row_ f.params_)) (fun vs b=>evQ f.funcs_ f.time_ m [] vs b):=by rw[evQ,aF Z]
  rw[eE];simp only[Tr.den];rw[aF (by simp_all)];refine bR.2 (kN (fun s:List aE×Int=>s.2) e.Args.length (by omega) (fun s=>s.1=(e.Args.take s.2.toNat).map (evQ f.funcs_ f.time_ m f.row_ f.params_)) (fun s k hI hk hkN=>?_) rfl rfl);obtain⟨b6,v5⟩:=s;simp only at hk hI;subst hk;rw[aL]at hI;subst hI;unfold Ea;simp only[Tr.den,aL];by_cases hc:k<e.Args.length
  ·rw[aA bL,aA];refine Sq.bind _ (hr k hc) fun v hv=>?_;refine eK fun _=>?_;refine aC.2 ⟨rfl,hc,?_⟩;simp only;rw[aK,aL,aJ hc,eI,hv]; rfl
  ·rw[aF bQ,iU (by omega)];refine aC.2 ?_;generalize hb6:e.Args.map (evQ f.funcs_ f.time_ m f.row_ f.params_)=b6;show Sq false _ _;simp only[sel];have G:(0:Int).toNat=0:=rfl;have D:(1:Int).toNat=1:=rfl;have hbe:b6.length=e.Args.length:=by rw[<-hb6,dH]
   have hop:e.Op=0\/e.Op=1\/e.Op=2\/e.Op=3\/e.Op=4\/e.Op=5\/e.Op=6\/e.Op=7\/e.Op=20\/e.Op=22\/(8<=e.Op/\e.Op<=19):=by omega
   unfold opE;rcases hop with h | h | h | h | h | h | h | h | h | h | h
   ·simp (decide:=true) only[h,↓reduceIte,fO]; exact aC.2 rfl
   ·simp (decide:=true) only[h,↓reduceIte];exact aC.2 rfl
   ·simp (decide:=true) only[h,↓reduceIte,gZ];exact aC.2 rfl
   ·simp (decide:=true) only[h,↓reduceIte];exact eK fun _=>aC.2 rfl
   ·simp (decide:=true) only[h,↓reduceIte];exact eK fun _=>aC.2 rfl
   ·simp (decide:=true) only[h,↓reduceIte,fO];exact aC.2 rfl
   ·simp (decide:=true) only[h,↓reduceIte,gZ];exact eK fun _=>eK fun _=>aC.2 rfl
   ·simp (decide:=true) only[h,↓reduceIte,fO];exact eK fun _=>eK fun _=>aC.2 rfl
   ·simp (decide:=true) only[h,↓reduceIte,fO];exact eK fun _=>eK fun _=>aC.2 rfl
   ·have h3:=c22 h;simp (decide:=true) only[h,↓reduceIte];refine eK fun _=>?_;exact Sq.bind _ (Q (_,_)) fun v hv=>aC.2 (hv m 0 e.Args.length ((hb h).up (by omega)))
   ·have l2:=c2 h;have M:0<b6.length:=by omega
    have J:1<b6.length:=by omega
    have hop:e.Op=8\/e.Op=9\/e.Op=10\/e.Op=11\/e.Op=12\/e.Op=13\/e.Op=14\/e.Op=15\/e.Op=16\/e.Op=17\/e.Op=18\/e.Op=19:=by omega
    rcases hop with h | h | h | h | h | h | h | h | h | h | h | h
    ·simp (decide:=true) only[h,↓reduceIte];change Sq false (((some 225:Option Nat).bind _).bind _) _;simp only[aI,Tr.den,G,D];rw[aA ⟨trivial,by omega⟩,aA M,aA ⟨trivial,by omega⟩,aA J,Om];exact aC.2 rfl
    ·simp (decide:=true) only[h,↓reduceIte];change Sq false (((some 226:Option Nat).bind _).bind _) _;simp only[aI,Tr.den,G,D];rw[aA ⟨trivial,by omega⟩,aA M,aA ⟨trivial,by omega⟩,aA J,Nv];exact aC.2 rfl
    ·simp (decide:=true) only[h,↓reduceIte];change Sq false (((some 227:Option Nat).bind _).bind _) _;simp only[aI,Tr.den,G,D];rw[aA ⟨trivial,by omega⟩,aA M,aA ⟨trivial,by omega⟩,aA J,Nd];exact aC.2 rfl
    ·simp (decide:=true) only[h,↓reduceIte];change Sq false (((some 228:Option Nat).bind _).bind _) _;simp only[aI,Tr.den,G,D];rw[aA ⟨trivial,by omega⟩,aA M,aA ⟨trivial,by omega⟩,aA J,Pz];exact aC.2 rfl
    ·simp (decide:=true) only[h,↓reduceIte];change Sq false (((some 229:Option Nat).bind _).bind _) _;simp only[aI,Tr.den,G,D];rw[aA ⟨trivial,by omega⟩,aA M,aA ⟨trivial,by omega⟩,aA J,Ql];exact aC.2 rfl
    ·simp (decide:=true) only[h,↓reduceIte];change Sq false (((some 230:Option Nat).bind _).bind _) _;simp only[aI,Tr.den,G,D];rw[aA ⟨trivial,by omega⟩,aA M,aA ⟨trivial,by omega⟩,aA J,Na];exact aC.2 rfl
    ·simp (decide:=true) only[h,↓reduceIte];change Sq false (((some 231:Option Nat).bind _).bind _) _;simp only[aI,Tr.den,G,D];rw[aA ⟨trivial,by omega⟩,aA M,aA ⟨trivial,by omega⟩,aA J,Oq];exact aC.2 rfl
    ·simp (decide:=true) only[h,↓reduceIte];change Sq false (((some 232:Option Nat).bind _).bind _) _;simp only[aI,Tr.den,G,D];rw[aA ⟨trivial,by omega⟩,aA M,aA ⟨trivial,by omega⟩,aA J,Qd];exact aC.2 rfl
    ·simp (decide:=true) only[h,↓reduceIte];change Sq false (((some 233:Option Nat).bind _).bind _) _;simp only[aI,Tr.den,G,D];rw[aA ⟨trivial,by omega⟩,aA M,aA ⟨trivial,by omega⟩,aA J,Pv];exact aC.2 rfl
    ·simp (decide:=true) only[h,↓reduceIte];change Sq false (((some 234:Option Nat).bind _).bind _) _;simp only[aI,Tr.den,G,D];rw[aA ⟨trivial,by omega⟩,aA M,aA ⟨trivial,by omega⟩,aA J,Ok];exact aC.2 rfl
    ·simp (decide:=true) only[h,↓reduceIte];change Sq false (((some 235:Option Nat).bind _).bind _) _;simp only[aI,Tr.den,G,D];rw[aA ⟨trivial,by omega⟩,aA M,aA ⟨trivial,by omega⟩,aA J,Ot];exact aC.2 rfl
    ·simp (decide:=true) only[h,↓reduceIte];change Sq false (((some 236:Option Nat).bind _).bind _) _;simp only[aI,Tr.den,G,D];rw[aA ⟨trivial,by omega⟩,aA M,aA ⟨trivial,by omega⟩,aA J];exact Sq.bind (fun v:Int×Int×ByteArray=>(⟨v.1,v.2.1,v.2.2⟩:aE)=bop 19 (b6.getD 0 default) (b6.getD 1 default)) (Sq.bind _ (aDA _) fun v hv=>aC.2 hv) fun v hv=>aC.2 hv
theorem aXL{n:Nat}{pts:List Int}(h1:row.length=nc)(h2:ps.length=np)(h3:∀ v,v∈row->Sm v)(h4:∀ v,v∈ps->Sm v)(he:OkE fs nc np n e)
  (hr:TyR cs row)(hp:TyR pts ps)(hf:aGD fs)(D:TyE fs cs pts e t):TyV t (evQ fs tm n row ps e)/\Sm (evQ fs tm n row ps e)/\Ty ⟨fs,tm,row,ps⟩ e=some (evQ fs tm n row ps e):=by
 obtain⟨v,hv,hs⟩:=(Zv fs nc np n ⟨fs,tm,row,ps⟩ e ⟨rfl,h1,h2,h3,h4⟩ he).get;have J:=(aTU ⟨fs,tm,row,ps⟩ e).1 v hv n nc np he;have G:=(aAA ⟨fs,tm,row,ps⟩ e).1 v hv cs pts t hr hp hf D;simp_all
theorem aQY{l:List aE}{call:List aE->bF->aE}(ho:e.Op=0\/e.Op=1\/e.Op=2\/e.Op=6\/e.Op=7\/e.Op=20\/(8<=e.Op/\e.Op<=19))
  (h1:e.Op=6\/e.Op=7\/e.Op=20->1<=l.length)(h2:8<=e.Op/\e.Op<=19->2<=l.length)(hs:e.Op=19->(l.getD 0 default).S.size+(l.getD 1 default).S.size<=9223372036854775807)
  (hk:13<=e.Op/\e.Op<=16->∃ t,TyV t (l.getD 0 default)/\TyV t (l.getD 1 default)):aXT e l=some (opE fs tm row ps e l call):=by
 have Z:(0:Int).toNat=0:=rfl;have Q:(1:Int).toNat=1:=rfl;unfold aXT aZN opE;simp only[Tr.den,Z,Q];rcases ho with h | h | h | h | h | h | ho
 ·simp (decide:=true) only[h,↓reduceIte]; rfl
 ·simp (decide:=true) only[h,↓reduceIte]; rfl
 ·simp (decide:=true) only[h,↓reduceIte,oE,aI]
 ·have:=h1 (by omega);simp (decide:=true) only[h,↓reduceIte];rw[aA ⟨trivial,by omega⟩,oE,aI]
 ·have:=h1 (by omega);simp (decide:=true) only[h,↓reduceIte];rw[aA ⟨trivial,by omega⟩]; rfl
 ·have:=h1 (by omega);simp (decide:=true) only[h,↓reduceIte];rw[aA ⟨trivial,by omega⟩]; rfl
 ·have hl:=h2 ho;have g0:True/\(0:Int)<(l.length:Int):=⟨trivial,by omega⟩;have G:True/\(1:Int)<(l.length:Int):=⟨trivial,by omega⟩;have M:e.Op=8\/e.Op=9\/e.Op=10\/e.Op=11\/e.Op=12\/e.Op=13\/e.Op=14\/e.Op=15\/e.Op=16\/e.Op=17\/e.Op=18\/e.Op=19:=by omega
  unfold bop;rcases M with h | h | h | h | h | h | h | h | h | h | h | h
  ·simp (decide:=true) only[h,↓reduceIte];rw[aA g0,aA G]; rfl
  ·simp (decide:=true) only[h,↓reduceIte];rw[aA g0,aA G]; rfl
  ·simp (decide:=true) only[h,↓reduceIte];rw[aA g0,aA G]; rfl
  ·simp (decide:=true) only[h,↓reduceIte];rw[aA g0,aA G];by_cases D:(l.getD 1 default).N=0
   ·rw[aA (fA D),aA D]; rfl
   ·rw[aF (dJ D),aF D,aA D]; rfl
  ·simp (decide:=true) only[h,↓reduceIte];rw[aA g0,aA G];by_cases D:(l.getD 1 default).N=0
   ·rw[aA (fA D),aA D]; rfl
   ·rw[aF (dJ D),aF D,aA D]; rfl
  ·simp (decide:=true) only[h,↓reduceIte,oE,aI,Bool.and_true];rw[aA g0,aA G]
  ·simp (decide:=true) only[h,↓reduceIte,oE,aI,Bool.and_true];rw[aA g0,aA G]
  ·obtain⟨t,ha,hb⟩:=hk (by omega);simp (decide:=true) only[h,↓reduceIte,oE,Xz,aI];rw[aA g0,aA G,Qx ha hb]
  ·obtain⟨t,ha,hb⟩:=hk (by omega);simp (decide:=true) only[h,↓reduceIte,oE,Xz,aI];rw[aA g0,aA G,aDX ha hb]
  ·simp (decide:=true) only[h,↓reduceIte,oE,aI];rw[aA g0,aA G];by_cases D:(l.getD 0 default).N=1
   ·rw[aA (fA D),dP.2 D]; rfl
   ·rw[aF (dJ D),beq_eq_false_iff_ne.2 D]; rfl
  ·simp (decide:=true) only[h,↓reduceIte,oE,aI];rw[aA g0,aA G];by_cases D:(l.getD 0 default).N=1
   ·rw[aA (fA D),dP.2 D]; rfl
   ·rw[aF (dJ D),beq_eq_false_iff_ne.2 D]; rfl
  ·have hsz:=hs h;have hS:((l.getD 0 default).S++(l.getD 1 default).S).size=(l.getD 0 default).S.size+(l.getD 1 default).S.size:=rE;simp (decide:=true) only[h,↓reduceIte];rw[aA g0,aA G,hS];by_cases hc:(200:Int)<(((l.getD 0 default).S.size+(l.getD 1 default).S.size:Nat):Int)
   ·have J:min 200 ((l.getD 0 default).S.size+(l.getD 1 default).S.size)=200:=by omega
    rw[aA hc,aA,aA ⟨trivial,by omega,by omega⟩,J]; rfl
   ·have J:min 200 ((l.getD 0 default).S.size+(l.getD 1 default).S.size)=(l.getD 0 default).S.size+(l.getD 1 default).S.size:=by omega
    rw[aF hc,aA,aA ⟨trivial,by omega,by omega⟩,J]; rfl
structure EvI (fs:List aS)(tm:Int)(n:Nat)(row ps:List aE)(e:bF)(cs pts:List Int)(t:Int)(nc np:Nat):Prop where
 h1:row.length=nc
 h2:ps.length=np
 h3:∀ v,v∈row->Sm v
 h4:∀ v,v∈ps->Sm v
 ok:OkE fs nc np n e
 hr:TyR cs row
 hp:TyR pts ps
 hf:aGD fs
 ty:TyE fs cs pts e t
theorem EvI.val{n:Nat}{pts:List Int}(h:EvI fs tm n row ps e cs pts t nc np):
  TyV t (evQ fs tm n row ps e)/\Sm (evQ fs tm n row ps e)/\Ty ⟨fs,tm,row,ps⟩ e=some (evQ fs tm n row ps e):=aXL h.h1 h.h2 h.h3 h.h4 h.ok h.hr h.hp h.hf h.ty
theorem aPP{fs:List aS}{tm:Int}{n:Nat}{row ps:List aE}{e:bF}{cs pts:List Int}{t:Int}{nc np:Nat}(h:EvI fs tm n row ps e cs pts t nc np):Sp (aXY fs e tm row ps) (fun r=>r.V=evQ fs tm n row ps e):=by
 have key:Sp (aXY fs e tm row ps) (fun r=>r.V=(Ty ⟨fs,tm,row,ps⟩ e).getD default):=by
  refine Rm (C:=fun (a:(List aS)×bF×Int×(List aE)×(List aE)) (x:Option fD)=>Con Proofs.Tryz.prog 185 [.t (eL aW (a.1)),.t (cJ a.2.1),tI a.2.2.1,tV a.2.2.2.1,tV a.2.2.2.2] x (fun (y:fD)=>.t (qU y))) (fun a=>⟨bM Proofs.Tryz.func185 (by rfl),fun _ h=>nomatch h⟩)
   (fun Z a=>aID Z a.1 a.2.1 a.2.2.1 a.2.2.2.1 a.2.2.2.2) (fun Z a=>Yr Z a.1 a.2.1 a.2.2.1 a.2.2.2.1 a.2.2.2.2)
   (fun n a=>∃ cs pts t nc np,EvI a.1 a.2.2.1 n a.2.2.2.1 a.2.2.2.2 a.2.1 cs pts t nc np) (fun a r=>r.V=(Ty ⟨a.1,a.2.2.1,a.2.2.2.1,a.2.2.2.2⟩ a.2.1).getD default) (fun b r n1 a ha Q=>?_) true n (fs,e,tm,row,ps) ⟨cs,pts,t,nc,np,h⟩
  clear h fs tm n row ps e cs pts t nc np;obtain⟨fs,e,tm,row,ps⟩:=a;obtain⟨cs,pts,t,nc,np,h⟩:=ha;simp only at h ⊢;have hval:=h.val;have hh:=h.ok;have hty:=h.ty;cases hh with
  | mk k' hm hs hl ho hlt hA c3 c4 c1 c2 c21 c22 hb=>
  cases hty with
  | mk ts tl tb to tA o0 o1 o2 ob o3 o4 o21 o22 oc=>
  obtain⟨m,rfl⟩:∃ m,n1=m+1:=⟨n1-1,by grind⟩;have D:∀ i,i<e.Args.length->EvI fs tm m row ps (e.Args.getD i default) cs pts (ts.getD i default) nc np:=fun i hi=>
   ⟨h.h1,h.h2,h.h3,h.h4,(hA i hi).up (by grind),h.hr,h.hp,h.hf,tA i hi⟩
  have hr:∀ i,i<e.Args.length->Sq b (r.1 (fs,e.Args.getD i default,tm,row,ps)) (fun x=>x.V=evQ fs tm m row ps (e.Args.getD i default)):=fun i hi=>by have q:=Q m (fs,e.Args.getD i default,tm,row,ps) (Nat.lt_succ_self m) ⟨cs,pts,_,nc,np,D i hi⟩;refine q.imp fun x hx=>?_;rw[hx];simp only;rw[(D i hi).val.2.2]; rfl
  rw[hval.2.2];show Sq b _ fun x:fD=>x.V=evQ fs tm (m+1) row ps e;unfold aID;by_cases M:e.Op=21
  ·have hl3:=c21 M;rw[evQ,aA M];simp only[M,Tr.den];rw[aA (by decide),aA];refine Sq.bind _ (hr 0 (by omega)) fun v1 h1=>?_;rw[<-h1];by_cases hz:v1.V.N=1
   ·rw[aA (fA hz),aA hz];simp only[aI];rw[aA];refine Sq.bind _ (hr 1 (by omega)) fun v2 h2=>aC.2 h2
   ·rw[aF (dJ hz),aF hz];simp only[aI];rw[aA];refine Sq.bind _ (hr 2 (by omega)) fun v2 h2=>aC.2 h2
  ·have eE:evQ fs tm (m+1) row ps e=opE fs tm row ps e (e.Args.map (evQ fs tm m row ps)) (fun vs b=>evQ fs tm m [] vs b):=by rw[evQ,aF M]
   rw[eE];simp only[Tr.den];rw[aF (by simp_all)];refine bR.2 (kN (fun s:Int×List aE×Int=>s.2.2) e.Args.length (by omega) (fun s=>s.2.1=(e.Args.take s.2.2.toNat).map (evQ fs tm m row ps)) (fun s k hI hk hkN=>?_) rfl rfl);obtain⟨v4,b6,v5⟩:=s;simp only at hk hI;subst hk;rw[aL]at hI;subst hI;unfold aBM;simp only[Tr.den,aL];by_cases hc:k<e.Args.length
   ·rw[aA bL,aA];refine Sq.bind _ (hr k hc) fun v hv=>?_;rw[aA (by grind)];refine aC.2 ⟨rfl,hc,?_⟩;simp only;rw[aK,aL,aJ hc,eI,hv]; rfl
   ·rw[aF bQ,iU (by omega)];refine aC.2 ?_;have hel:∀ i,i<e.Args.length->(e.Args.map (evQ fs tm m row ps)).getD i default=evQ fs tm m row ps (e.Args.getD i default):=fun i hi=>aJN hi;have hml:(e.Args.map (evQ fs tm m row ps)).length=e.Args.length:=dH _;have J:∀ v,v∈e.Args.map (evQ fs tm m row ps)->Sm v:=fun v hv=>by obtain⟨i,hi,rfl⟩:=Oa hv;rw[<-bU hi,hel i (by omega)];exact(D i (by omega)).val.2.1
    have G:TyR ts (e.Args.map (evQ fs tm m row ps)):=fun i hi=>by rw[hel i (by omega)];exact(D i (by omega)).val.1
    generalize e.Args.map (evQ fs tm m row ps)=b6 at hel hml J G;show Sq b _ _;simp only[sel];have h1:=h.h1;have h2:=h.h2;have hop:e.Op=3\/e.Op=4\/e.Op=5\/e.Op=22\/(e.Op=0\/e.Op=1\/e.Op=2\/e.Op=6\/e.Op=7\/e.Op=20\/(8<=e.Op/\e.Op<=19)):=by omega
    rcases hop with g | g | g | g | g
    ·have:=c3 g;simp (decide:=true) only[g,↓reduceIte];rw[aA];refine aC.2 ?_;unfold opE;simp_all
    ·have:=c4 g;simp (decide:=true) only[g,↓reduceIte];rw[aA];refine aC.2 ?_;unfold opE;simp_all
    ·simp (decide:=true) only[g,↓reduceIte];refine aC.2 ?_;unfold opE;simp (decide:=true) only[g,↓reduceIte];rfl
    ·obtain⟨q1,q2,q3⟩:=c22 g;obtain⟨p1,p2,p3⟩:=o22 g;simp (decide:=true) only[g,↓reduceIte];rw[aA];have hI:EvI fs tm m [] b6 (fs.getD e.N.toNat default).Body [] (fs.getD e.N.toNat default).Params (fs.getD e.N.toNat default).Result 0 e.Args.length:=
      ⟨rfl,hml,fun v hv=>by grind,J,(hb g).up (by omega),fun i hi=>by grind,p2▸G,h.hf,h.hf _ (by omega)⟩
     refine Sq.bind _ (Q m (fs,(fs.getD e.N.toNat default).Body,tm,[],b6) (Nat.lt_succ_self m) ⟨_,_,_,_,_,hI⟩) fun x hx=>aC.2 ?_;simp only at hx ⊢;rw[hx,hI.val.2.2];unfold opE;simp_all
    ·have n3:e.Op≠3:=by omega
     have n4:e.Op≠4:=by omega
     have n5:e.Op≠5:=by omega
     have n22:e.Op≠22:=by omega
     rw[aF (dJ n3),aF (dJ n4),aF (dJ n5),aF (dJ n22)];rw[aQY (fs:=fs) (tm:=tm) (row:=row) (ps:=ps) (call:=fun vs b=>evQ fs tm m [] vs b) g (fun q=>by simp_all) (fun q=>by omega) (fun q=>?_) (fun q=>?_)]
     ·exact aC.2 rfl
     ·have:=c2 (by omega);have s0:Sm (b6.getD 0 default):=uA J (by omega);have s1:Sm (b6.getD 1 default):=uA J (by omega);unfold Sm at s0 s1;omega
     ·have:=c2 (by omega);refine⟨ts.getD 0 default,G 0 (by omega),?_⟩;rw[oc (by omega)];exact G 1 (by omega)
 rw[h.val.2.2]at key;exact key
theorem Pd{m:Nat}(hf:okL m dK fs)(h:G82 fs=some true)(he:dE e)(J:nJ fs cs [] e=some (t,true))
  (tm:Int)(hr:row.length=cs.length)(hs:∀ v,v∈row->Sm v)(Q:TyR cs row):aOC fs e tm row=some ((vZ fs e tm row).getD default):=by
 obtain⟨hl,hb⟩:=zL hf;obtain⟨k,hk⟩:=Mc hl hb h he.bnd J;have h1:=(aJQ fs hl hb).1 _ h rfl;have h2:=(Qp fs cs [] e he.bnd).1 _ J rfl;have M:EvI fs tm k row [] e cs [] t cs.length 0:=⟨hr,rfl,hs,fun v hv=>by (cases hv),hk,Q,fun i hi=>absurd hi (mX i),h1,h2⟩;obtain⟨r,G,D⟩:=(aPP M).get;have Z:vZ fs e tm row=some (evQ fs tm k row [] e):=by unfold vZ aJP;simp only[Tr.den];rw[M.val.2.2]; rfl
 unfold aOC bBV;simp only[Tr.den];rw[G,Z];simp only[aI,D,sH]
theorem bBY{tb:List Int}(h7:n.Op=7)(hK:1<=n.Keep/\n.Keep<=10000)(hk:n.Key.length<=20/\n.Key2.length<=20)(J:ta.length<=12)(G:tb.length<=12)(Q:okC n.Key ta.length)(M:okC n.Key2 tb.length)(h:NIn ta A)(D:NIn tb B):
  oO fs n [A,B]=some (cons (mA n A B)):=by
 have hal:=h.len;have Z:=D.len;have iA:okI n 0 A:=h.okI J Q;have iB:okI n 1 B:=D.okI G M;have ho:=Og iA iB;have hlen:(mA n A B).length<=200*201:=fW (yB (c:=200) Z) (qW hal (cM _));unfold oO Jk;simp only[Tr.den];rw[aF dJ,aF dJ,aF dJ,aF dJ,aF dJ,aF dJ,aA (fA h7),aA (by simp),aA (by simp)];rw[show ([A,B]:List (List aB)).getD (0:Int).toNat default=A from rfl,show ([A,B]:List (List aB)).getD (1:Int).toNat default=B from rfl,aSR ⟨.inr ⟨h7,hK⟩,by omega,by omega⟩ (by omega) hK iA iB D.can.ts (by omega) (by omega)];simp only[aI];rw[nN _ ho.r ho.n (by omega)]; rfl
theorem Tz(n:aG)(key:List aE)(lo:Int):∀ (a u:List dY),(iI n key lo u a).length<=a.length
 | [],u=>cM _
 | q::a,u=>by
  rw[iI,dR,fX];have h1:=Tz n key lo a (u++[q]);have h2:(if lo<=q.time_ then Da n key (u++[q]) else []).length<=1:=by
   split
   ·unfold Da; split <;> simp
   ·simp
  omega
theorem Tk(n:aG)(key:List aE)(lo:Int)(hk:key.length<=10):∀ (a u:List dY),okD (iI n key lo u a)
 | [],u=>okD.nil
 | q::a,u=>by
  rw[iI];refine okD.app ?_ (Tk n key lo hk a _);split
  ·unfold Da;split
   ·refine⟨fun x hx=>?_,fun x hx=>?_⟩
    ·rw[cZ.1 hx];unfold okR;grind
    ·rw[cZ.1 hx]; exact⟨by simp_all,by simp_all⟩
   ·exact okD.nil
  ·exact okD.nil
noncomputable def rP (fs:List aS)(n:aG)(ks:List ByteArray)(a:List aB):List aB:=ks.flatMap fun k=>aES fs n (ofK n 0 k a)
theorem Sw(hn:Rk n)(l:List aB):okD (aES fs n l):=Tk _ _ _ (by unfold gP; rw[dH]; exact hn.key) _ _
theorem Ia(hn:Rk n)(ks:List ByteArray)(a:List aB):okD (rP fs n ks a):=⟨fun x hx=>by
  obtain⟨k,hk,hx⟩:=jR.1 hx;exact(Sw hn _).r x hx,fun x hx=>by
  obtain⟨k,hk,hx⟩:=jR.1 hx;exact(Sw hn _).n x hx⟩
theorem Gc(h:∀ d,d∈l->d.N<=1000):(aES fs n l).length<=l.length*1000:=by refine fW (Tz _ _ _ _ _) ?_;rw[<-Ps,dH];exact yG h
theorem aXU(hn:Rk n)(h:aDJ fs n a)(hc:Can a)(hl:a.length<=1000)  (r:List (List aB)):oO fs n (a::r)=some (cons (rP fs n (cK (aY (bO n 0 a))) a)):=by
 have z0:(a::r).getD (0:Int).toNat default=a:=rfl;have Z:=hn.op;have hml:=jD n 0 a;have J:(cK (aY (bO n 0 a))).length<=1000:=by rw[kI]; unfold aY; grind
 have hkl:∀ k,(aES fs n (ofK n 0 k a)).length<=1000000:=fun k=>by have h1:=Gc (fs:=fs) (n:=n) (l:=ofK n 0 k a) fun d G=>h.nn d (gW.1 G).1;have h2:=iR n 0 k a;omega
 have M:∀ ks:List ByteArray,(rP fs n ks a).length<=ks.length*1000000:=fun ks=>by
  induction ks with
  | nil=>simp[rP]
  | cons k ks ih=>unfold rP at ih ⊢;grind
 unfold oO Jk;simp only[Tr.den,z0];rw[aF dJ,aF dJ,aF dJ,aF dJ,aF dJ,aF dJ,aF dJ,aA (fA Z),aA (by simp),Nj h.i (by have:=hn.key; omega) (by omega)];simp only[aI];generalize hKS:cK (aY (bO n 0 a))=ks at J ⊢;have h1:=aP (bd:=fun s=>(Ey fs n (ks.map fun k=>ofK n 0 k a) s).den) (fun k=>(rP fs n (ks.take k) a,(k:Int))) ks.length (r:=.inl (rP fs n ks a)) (fun k hk=>?_) ?_
 ·rw[show (([]:List aB),(0:Int))=(fun k:Nat=>(rP fs n (ks.take k) a,(k:Int))) 0 from rfl,h1];simp only[aI,sel];have G:=Ia (fs:=fs) hn ks a;have hal':=M ks;have:=qW J (cM 1000000);rw[nN _ G.r G.n (by omega)];rfl
 ·unfold Ey;simp only[Tr.den,aL,dH];have e0:(ks.map fun k=>ofK n 0 k a).getD k default=ofK n 0 (ks.getD k default) a:=by rw[bU (by simp_all),mW,<-bU hk]
  have D:∀ x,x∈ofK n 0 (ks.getD k default) a->x∈a:=fun x hx=>(gW.1 hx).1;have hT:aDJ fs n (ofK n 0 (ks.getD k default) a):=⟨h.i.sub D,h.ev.sub D,fun d G=>h.ty d (D d G),fun d G=>h.nn d (D d G),by have:=iR n 0 (ks.getD k default) a; omega⟩;have Q:∀ d,d∈ofK n 0 (ks.getD k default) a->gP n d.Row=gP n ((ofK n 0 (ks.getD k default) a).getD 0 default).Row:=fun d G=>
   Yw (aM (fM.2 fun h0=>by simp_all)) d G
  rw[aA bL,aA,e0,aNZ hT hn (aQL hc).ts Q];simp only[aI];have h3:=M (ks.take k);rw[dU]at h3;have h4:(iI n (gP n ((ofK n 0 (ks.getD k default) a).getD 0 default).Row) 0 [] (plA fs n (ofK n 0 (ks.getD k default) a))).length<=1000000:=hkl _;rw[aA,aK];have e1:rP fs n (ks.take (k+1)) a=rP fs n (ks.take k) a++aES fs n (ofK n 0 (ks.getD k default) a):=by unfold rP;rw[aJ hk,jC,fL,Fw,eQ]
  rw[e1]; rfl
 ·unfold Ey;simp only[Tr.den,dH];rw[aF bQ,cF]
end Go.PL
