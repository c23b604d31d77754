/-
  Parts: The kept part of a plain-law text (strip.py). Own work. The kept part of a plain-law text (strip.py). Own work. The kept part of a plain-law text (strip.py). Own work. The kept part of a plain-law text (strip.py). Own work. The kept part of a plain-law text (strip.py). Own work. Plain law of the meanings: windows of fixed length. Own work. Plain law of the meanings: the walk of windows of fixed length. Own work. Plain law of the meanings: the walk of sessions and aggregates. Own work. Plain law of the meanings: the walk of windows. Own work. Plain law of the meanings: weights of what windows yield. Own work. Plain law of the meanings: the walk of tops. Own work. Plain law of the meanings: the stable sort of the library with the order of tops: values descending, what came first ahead. Own work. The kept part of a plain-law text (strip.py). Own work. The kept part of a plain-law text (strip.py). Own work. The kept part of a plain-law text (strip.py). Own work. The kept part of a plain-law text (strip.py). Own work. Plain law of the meanings: what tops sort; the node's windows and tops; the examples hold. Own work. Plain law of the meanings: inputs; filters, maps, unions, joins. Own work. The kept part of a plain-law text (strip.py). Own work. Plain law of the meanings: asofs and matches; the own back; rows up to a time. Own work.
-/
import Derived.Test.YtjefblkdnolgaaaGreatDoorMh
set_option maxHeartbeats 4000000
namespace Go.PL
open Go
set_option linter.unusedVariables false
set_option maxRecDepth 20000
variable {b e t:Int} {c k:Nat} {fs:List aV} {l:List aB} {x:aB} {α:Type}
theorem aZV(n:aG)(a1:List aB)(a2:List (List Bool))(a3 v2 v3:Int)(hK:n.Seq.length<=8)(p:Nat)(hp:p<n.Seq.length)(now next:List Bool)(hl:now.length=n.Seq.length+1)(o0:Bool):
  Sp (cK (fun s=>(Oe n a1 a2 a3 v2 v3 (p:Int) s).den) (now,next,o0,IntKind.i64.wrap ((p:Int)+1)))
   (fun z=>∃ o,z = .inl (now,next,o)/\(o=true↔(o0=true\/∃ q,p+1<=q/\(∀ r,p+1<=r->r<=q->r<n.Seq.length/\gX n r=2)/\now.getD (q+1) default=true))):=by
 refine Sq.while (fun s:List Bool×List Bool×Bool×Int=>s.1=now/\s.2.1=next/\∃ q:Nat,s.2.2.2=(q:Int)/\p+1<=q/\q<=n.Seq.length/\(∀ r,p+1<=r->r<q->r<n.Seq.length/\gX n r=2) /\
   (s.2.2.1=true↔(o0=true\/∃ q',p+1<=q'/\q' < q/\now.getD (q'+1) default=true))) (fun s=>n.Seq.length+1-s.2.2.2.toNat) (fun s hI=>?_) ⟨rfl,rfl,p+1,aN (by omega),cR _,hp,fun r h1 h2=>by omega,⟨fun h=>.inl h,fun h=>h.elim id fun⟨q',h1,h2,_⟩=>by omega⟩⟩
 obtain⟨v14,v15,v16,v17⟩:=s;obtain⟨rfl,rfl,q,hq,hq1,hq2,hch,ho⟩:=hI;simp only at hq ho hl;subst hq;unfold Oe;simp only[Tr.den,aR];have ex:(∀ q',q<=q'->¬ (q<n.Seq.length/\gX n q=2))->(v16=true↔(o0=true\/∃ q',p+1<=q'/\(∀ r,p+1<=r->r<=q'->r<n.Seq.length/\gX n r=2)/\v14.getD (q'+1) default=true)):=fun hno=>by rw[ho];refine or_congr Iff.rfl ⟨fun⟨q',h1,h2,h3⟩=>⟨q',h1,fun r h4 h5=>hch r h4 (by omega),h3⟩,fun⟨q',h1,h2,h3⟩=>⟨q',h1,?_,h3⟩⟩;exact lS fun hge=>hno q' (by omega) (h2 q (by omega) (by omega))
 cases v16 with
 | true=>
  simp only[Bool.not_true,dO,dL,aJ];refine aC.2 ⟨true,rfl,⟨fun h=>?_,fun _=>rfl⟩⟩;rcases ho.1 rfl with h | ⟨q',h1,h2,h3⟩
  ·exact .inl h
  ·exact .inr ⟨q',h1,fun r h4 h5=>hch r h4 (by omega),h3⟩
 | false=>
  simp only[Bool.not_false,fJ];by_cases hc:q<n.Seq.length
  ·rw[aA (bJ (by omega)),aA (by omega)];simp only[aJ];by_cases hr:gX n q=2
   ·rw[aA (fB.2 hr),aN (by omega),aA (by omega),aR,aA (by omega)];refine aC.2 ⟨⟨rfl,rfl,q+1,rfl,by omega,by omega,fun r h1 h2=>?_,?_⟩,by simp only[aR]; omega⟩
    ·by_cases h:r=q
     ·rw[h]; exact⟨hc,hr⟩
     ·exact hch r h1 (by omega)
    ·simp only;constructor
     ·intro h; exact .inr ⟨q,hq1,by omega,h⟩
     ·rintro (h | ⟨q',h1,h2,h3⟩)
      ·exact absurd (ho.2 (.inl h)) (by decide)
      ·by_cases h:q'=q
       ·rw[<-h]; exact h3
       ·exact absurd (ho.2 (.inr ⟨q',h1,by omega,h3⟩)) (by decide)
   ·rw[aE (fun h=>hr (fB.1 h))];exact aC.2 ⟨false,rfl,ex fun q' _ h=>hr h.2⟩
  ·rw[aE (cB (by omega))];simp only[aJ,dO,dL];exact aC.2 ⟨false,rfl,ex fun q' _ h=>hc h.1⟩
def opP(n:aG)(now:List Bool)(p:Nat):Prop:=(now.getD (p+1) default=true\/(gX n p=1/\now.getD p default=true))\/∃ q,p+1<=q/\(∀ r,p+1<=r->r<=q->r<n.Seq.length/\gX n r=2)/\now.getD (q+1) default=true
theorem bAQ(n:aG)(a1:List aB)(a2:List (List Bool))(a3 v2:Int)(i:Nat)(hi:i<a2.length)(hK:n.Seq.length<=8)(now:List Bool)(hl:now.length=n.Seq.length+1)(hg:(a2.getD i default).length=n.Seq.length):
  Sp (cK (fun s=>(Lo n a1 a2 a3 v2 (i:Int) s).den) (now,List.replicate (n.Seq.length+1) (default:Bool),IntKind.i64.wrap ((n.Seq.length:Int)-1)))
   (fun z=>∃ nx:List Bool,z = .inl nx/\nx.length=n.Seq.length+1/\∀ p,p<=n.Seq.length->(nx.getD p default=true↔(p<n.Seq.length/\opP n now p/\(a2.getD i default).getD p default=true))):=by
 refine Sq.while (fun s:List Bool×List Bool×Int=>s.1=now/\∃ q:Nat,s.2.2=(q:Int)-1/\q<=n.Seq.length/\s.2.1.length=n.Seq.length+1/\∀ p,p<=n.Seq.length->(s.2.1.getD p default=true↔(q<=p/\p<n.Seq.length/\opP n now p/\(a2.getD i default).getD p default=true)))
  (fun s=>(s.2.2+1).toNat) (fun s hI=>?_) ⟨rfl,n.Seq.length,bE (by omega) (by omega),cR _,qW,fun p hp=>⟨fun h=>?_,fun h=>by omega⟩⟩
 ·obtain⟨v7,v8,v9⟩:=s;obtain⟨rfl,q,hq,hq1,hnl,hn⟩:=hI;simp only at hq hnl hn hl;subst hq;unfold Lo;simp only[Tr.den];cases q with
  | zero=>rw[aE (cB (by omega))];exact aC.2 ⟨v8,rfl,hnl,fun p hp=>(hn p hp).trans ⟨fun h=>h.2,fun h=>⟨vY _,h⟩⟩⟩
  | succ q=>
   have e1:((q+1:Nat):Int)-1=(q:Int):=by omega
   rw[e1,aA (bJ (by omega)),aN (by omega)];simp only[aR];rw[aA (by omega),aA (by omega)];refine Sq.bind (fun z:List Bool×List Bool×Bool=>z.1=v7/\z.2.1=v8/\(z.2.2=true↔(v7.getD (q+1) default=true\/(gX n q=1/\v7.getD q default=true)))) ?_ (fun z hz=>?_)
   ·refine bP (fun h=>aC.2 ⟨rfl,rfl,fun _=>.inl h,fun _=>rfl⟩) fun h=>?_;have hno:¬ v7.getD (q+1) default=true:=by rw[h]; decide
    rw[aA (by omega)];by_cases hr:gX n q=1
    ·rw[aA (fB.2 hr),aA (by omega),aA (by omega)];exact aC.2 ⟨rfl,rfl,fun h=>.inr ⟨hr,h⟩,fun h=>h.elim (fun h=>absurd h hno) fun h=>h.2⟩
    ·rw[aE (fun h=>hr (fB.1 h))];exact aC.2 ⟨rfl,rfl,fun h=>(by cases h),fun h=>h.elim (fun h=>absurd h hno) fun h=>absurd h.1 hr⟩
   ·obtain⟨j11,j12,j13⟩:=z;obtain⟨rfl,rfl,hj⟩:=hz;simp only at hj hl hn hnl;refine Sq.bind _ (Sq.of (aN (n:=q) (by omega)▸aZV n a1 a2 a3 v2 (i:Int) hK q (by omega) j11 j12 hl j13)) (fun z hz=>?_);obtain⟨o,rfl,ho⟩:=hz;simp only[sel];have ho':o=true↔opP n j11 q:=ho.trans (or_congr hj Iff.rfl);have step:∀ b:Bool,(b=true↔(opP n j11 q/\(a2.getD i default).getD q default=true)) ->
      (∀ p,p<=n.Seq.length->((j12.set q b).getD p default=true↔(q<=p/\p<n.Seq.length/\opP n j11 p/\(a2.getD i default).getD p default=true))):=fun b hb p hp=>by
     rw[jA];by_cases h:p=q
     ·rw[aA ⟨h,by omega⟩,h,hb];exact⟨fun h=>⟨cR _,by omega,h⟩,fun h=>h.2.2⟩
     ·rw[aE (fun h'=>h h'.1),hn p hp];exact⟨fun h=>⟨by omega,h.2⟩,fun h'=>⟨by omega,h'.2⟩⟩
    have fin:∀ b:Bool,(b=true↔(opP n j11 q/\(a2.getD i default).getD q default=true))->Sq true ((some (j11,j12.set q b):Option (List Bool×List Bool)).bind fun x=>some (Sum.inl (x.1,x.2,IntKind.i64.wrap ((q:Int)-1)):(List Bool×List Bool×Int)⊕(List Bool⊕(List Bool×Int×Int)⊕Int⊕Int)))
      (sel (fun s':List Bool×List Bool×Int=>(s'.1=j11/\∃ q:Nat,s'.2.2=(q:Int)-1/\q<=n.Seq.length/\s'.2.1.length=n.Seq.length+1/\∀ p,p<=n.Seq.length->(s'.2.1.getD p default=true↔(q<=p/\p<n.Seq.length/\opP n j11 p/\(a2.getD i default).getD p default=true)))/\(s'.2.2+1).toNat<((q:Int)+1).toNat) (fun z=>∃ nx:List Bool,z = .inl nx/\nx.length=n.Seq.length+1/\∀ p,p<=n.Seq.length->(nx.getD p default=true↔(p<n.Seq.length/\opP n j11 p/\(a2.getD i default).getD p default=true)))):=fun b hb=>by
     refine aC.2 ⟨⟨rfl,q,?_,by omega,by rw[Kc]; exact hnl,step b hb⟩,?_⟩
     ·simp only; rw[bE (by omega) (by omega)]
     ·simp only; rw[bE (by omega) (by omega)]; omega
    cases o with
    | true=>simp only[fJ];rw[aA (by omega),aA (by omega),aA (by omega),aA (by omega),aA (by simp; omega)];exact fin _ ⟨fun h=>⟨ho'.1 rfl,h⟩,fun h=>h.2⟩
    | false=>simp only[dO,dL];rw[aA (by omega),aA (by omega),aA (by simp; omega)];exact fin false ⟨fun h=>(by cases h),fun h=>absurd (ho'.2 h.1) (by decide)⟩
 ·rw[cF,lW]at h;split at h <;> cases h
theorem aYR(n:aG)(a1:List aB)(a2:List (List Bool))(a3 v3 b0:Int)(hK:n.Seq.length<=8)(now:List Bool)(hl:now.length=n.Seq.length+1):
  Sp (cK (fun s=>(Lg n a1 a2 a3 v3 s).den) (now,b0,0))
   (fun z=>∃ b,z = .inl (now,b)/\((∃ p,p<n.Seq.length/\(∀ r,r<p->gX n r=2)/\now.getD p default=true)->b=IntKind.i64.wrap (IntKind.i64.wrap (a3-v3)+1))/\((¬ ∃ p,p<n.Seq.length/\(∀ r,r<p->gX n r=2)/\now.getD p default=true)->b=b0)):=by
 refine Sq.while (fun s:List Bool×Int×Int=>s.1=now/\∃ q:Nat,s.2.2=(q:Int)/\q<=n.Seq.length/\(∀ r,r<q->gX n r=2)/\((∃ p,p<q/\now.getD p default=true)->s.2.1=IntKind.i64.wrap (IntKind.i64.wrap (a3-v3)+1))/\((¬ ∃ p,p<q/\now.getD p default=true)->s.2.1=b0))
  (fun s=>n.Seq.length+1-s.2.2.toNat) (fun s hI=>?_) ⟨rfl,0,rfl,vY _,fun r h=>by omega,fun⟨p,h,_⟩=>by omega,fun _=>rfl⟩
 obtain⟨v26,v27,v28⟩:=s;obtain⟨rfl,q,hq,hq1,hr,h1,h2⟩:=hI;simp only at hq hl h1 h2;subst hq;unfold Lg;simp only[Tr.den,aR];by_cases hc:q<n.Seq.length
 ·rw[aA (bJ (by omega)),aA (by omega),aA (by omega)];have key:∀ b,(b=if v26.getD q default=true then IntKind.i64.wrap (IntKind.i64.wrap (a3-v3)+1) else v27)->((∃ p,p<q+1/\v26.getD p default=true)->b=IntKind.i64.wrap (IntKind.i64.wrap (a3-v3)+1))/\((¬ ∃ p,p<q+1/\v26.getD p default=true)->b=b0):=fun b hb=>by
   by_cases hn:v26.getD q default=true
   ·rw[aA hn]at hb;exact⟨fun _=>hb,fun h=>absurd ⟨q,Nat.lt_succ_self q,hn⟩ h⟩
   ·rw[aE hn]at hb;refine⟨fun⟨p,h3,h4⟩=>hb.trans (h1 ⟨p,?_,h4⟩),fun h=>hb.trans (h2 fun⟨p,h3,h4⟩=>h ⟨p,by omega,h4⟩)⟩;have:p≠q:=fun e=>hn (by rw[<-e]; exact h4);omega
  have ej:(if v26.getD q default=true then some (v26,IntKind.i64.wrap (IntKind.i64.wrap (a3-v3)+1)) else some (v26,v27))=some (v26,if v26.getD q default=true then IntKind.i64.wrap (IntKind.i64.wrap (a3-v3)+1) else v27):=by split <;> rfl
  rw[ej];simp only[aJ];obtain⟨k1,k2⟩:=key _ rfl;rw[aA (by omega)];by_cases hm:gX n q=2
  ·rw[aE (Qv hm)];refine aC.2 ⟨⟨rfl,q+1,aN (by omega),hc,fun r h=>?_,k1,k2⟩,by simp only; rw[aN (by omega)]; simp only[aR]; omega⟩;by_cases e:r=q
   ·rw[e]; exact hm
   ·exact hr r (by omega)
  ·rw[aA (Od hm)];refine aC.2 ⟨_,rfl,fun⟨p,h3,h4,h5⟩=>k1 ⟨p,?_,h5⟩,fun h=>k2 fun⟨p,h3,h4⟩=>h ⟨p,by omega,fun r h5=>hr r (by omega),h4⟩⟩;exact lS fun hge=>hm (h4 q (by omega))
 ·rw[aE (cB (by omega))];have:q=n.Seq.length:=by omega
  subst this;exact aC.2 ⟨v27,rfl,fun⟨p,h3,_,h5⟩=>h1 ⟨p,h3,h5⟩,fun h=>h2 fun⟨p,h3,h4⟩=>h ⟨p,h3,fun r h5=>hr r (by omega),h4⟩⟩
theorem aXZ{K:Nat}{rep:Nat->Int}{ok:α->Nat->Prop}{s:List α}{p:Nat}(h:Bwd K rep ok s p):p<=K:=by
 cases s with
 | nil=>exact Nat.le_of_eq h
 | cons x s=>exact Nat.le_of_lt h.1
theorem Vt{n:aG}{ok:α->Nat->Prop}{s:List α}{now:List Bool}(hB:∀ p,p<=n.Seq.length->(now.getD p default=true↔Bwd n.Seq.length (gX n) ok s p)){p:Nat}(hp:p<n.Seq.length):
  opP n now p↔(qS n.Seq.length (gX n) ok s (p+1)\/(gX n p=1/\qS n.Seq.length (gX n) ok s p)):=by
 constructor
 ·rintro ((h | ⟨h1,h⟩) | ⟨q,h1,h2,h3⟩)
  ·exact .inl ((uN _ _ _ s _).2 ⟨p+1,.refl _,(hB _ hp).1 h⟩)
  ·exact .inr ⟨h1,(uN _ _ _ s _).2 ⟨p,.refl _,(hB _ (by omega)).1 h⟩⟩
  ·have hq:=(h2 q h1 (cR q)).1;exact .inl ((uN _ _ _ s _).2 ⟨q+1,⟨by omega,fun r h4 h5=>h2 r h4 (by omega)⟩,(hB _ (by omega)).1 h3⟩)
 ·rintro (h | ⟨h1,h⟩)
  ·obtain⟨q,hs,hb⟩:=(uN _ _ _ s _).1 h;have hq:=aXZ hb;by_cases e:q=p+1
   ·subst e; exact .inl (.inl ((hB _ hq).2 hb))
   ·have:=hs.1;refine .inr ⟨q-1,by omega,fun r h4 h5=>hs.2 r h4 (by omega),?_⟩;rw[show q-1+1=q by omega]; exact(hB _ hq).2 hb
  ·obtain⟨q,hs,hb⟩:=(uN _ _ _ s _).1 h;by_cases e:q=p
   ·subst e; exact .inl (.inr ⟨h1,(hB _ (by omega)).2 hb⟩)
   ·have:=hs.1;have:=(hs.2 p (cR p) (by omega)).2;omega
theorem aCW{n:aG}{ok:α->Nat->Prop}{x:α}{s:List α}{now:List Bool}(hB:∀ p,p<=n.Seq.length->(now.getD p default=true↔Bwd n.Seq.length (gX n) ok (x::s) p)):
  (∃ p,p<n.Seq.length/\(∀ r,r<p->gX n r=2)/\now.getD p default=true)↔qS n.Seq.length (gX n) ok (x::s) 0:=by
 rw[uN];constructor
 ·rintro⟨p,h1,h2,h3⟩;exact⟨p,⟨vY p,fun r _ h=>⟨by omega,h2 r h⟩⟩,(hB p (by omega)).1 h3⟩
 ·rintro⟨p,h1,h2⟩;have h3:p<n.Seq.length:=h2.1;exact⟨p,h3,fun r h=>(h1.2 r (vY r) h).2,(hB p (by omega)).2 h2⟩
noncomputable def gpl (fs:List aV)(n:aG)(d:aB):dM:=⟨d.Time,Ri fs n d n.Seq.length⟩
def okG(fs:List aV)(n:aG)(d:aB)(p:Nat):Prop:=(evV fs (n.Seq.getD p default).Pred d).N=1
theorem aZN{n:aG}(hn:n.Seq.length<=8)(l:List aB)(t0:Int):
  (isM dM.time_ (nxF n) (Gj n) n.Size t0 (rQ n 1) (l.map (gpl fs n))=true)↔(((l.map (gpl fs n)).getLastD default).time_-t0<n.Size/\qS n.Seq.length (gX n) (okG fs n) l 0):=by
 rw[aQM hn (fun x q=>x.fits_.toNat.testBit q=true)]
 ·refine and_congr Iff.rfl (nP n.Seq.length (gX n) (fun (x:dM) q=>x.fits_.toNat.testBit q=true) (gpl fs n) (fun d q hq=>?_) l 0).symm;obtain⟨a,h1,h2,h3⟩:=Nu fs hn d n.Seq.length (cR _);show okG fs n d q↔(Ri fs n d n.Seq.length).toNat.testBit q=true;rw[h1,aR,h3 q];exact⟨fun h=>⟨hq,h⟩,fun h=>h.2⟩
 ·intro x hx;obtain⟨d,_,rfl⟩:=dC.1 hx;obtain⟨a,h1,h2,h3⟩:=Nu fs hn d n.Seq.length (cR _);refine⟨a,h1,h2,fun p=>?_⟩;show _↔(Ri fs n d n.Seq.length).toNat.testBit p=true;rw[h1,aR]
noncomputable def Ct (fs:List aV)(n:aG)(l:List aB):Int:=match pS dM.time_ (nxF n) (Gj n) n.Size (rQ n 1) (l.map (gpl fs n)) with
 | some (_,m)=>m
 | none=>0
theorem aCF{n:aG}(x:aB)(l:List aB):Ct fs n (x::l)=if isM dM.time_ (nxF n) (Gj n) n.Size x.Time (rQ n 1) ((x::l).map (gpl fs n))=true then ((x::l).length:Int) else Ct fs n l:=by
 unfold Ct;rw[fI,pS];rw[show (gpl fs n x).time_=x.Time from rfl];by_cases h:isM dM.time_ (nxF n) (Gj n) n.Size x.Time (rQ n 1) (gpl fs n x::l.map (gpl fs n))=true
 ·rw[aA h,aA h]; simp only[dA,bQ]
 ·rw[aE h,aE h]
structure aYP (fs:List aV)(n:aG)(P:List aB)(g:List (List Bool)):Prop where
 len:g.length=P.length
 sz:∀ i,i<P.length->(g.getD i default).length=n.Seq.length
 ok:∀ i,i<P.length->∀ p,p<n.Seq.length->((g.getD i default).getD p default=true↔okG fs n (P.getD i default) p)
theorem aKT{n:aG}{P:List aB}{g:List (List Bool)}(hn:n.Seq.length<=8)(hz:1<=n.Size/\n.Size<=10000)(hg:aYP fs n P g)(hs:TS P)(ht:kK P)(hP:P.length<=1000000000){j:Nat}(hj:j<P.length):
  aWO n P g (j:Int)=some (Ct fs n (P.take (j+1))):=by
 have hL:(P.take (j+1)).length=j+1:=by rw[cE]; omega
 have dk:∀ k,k<=j->(P.take (j+1)).drop k=P.getD k default::(P.take (j+1)).drop (k+1):=fun k hk=>by
  rw[cU (by omega)]
  congr 1
  rw[cF,cF,gT,aA (by omega)]
 have last:∀ k,k<=j->((((P.take (j+1)).drop k).map (gpl fs n)).getLastD default).time_=(P.getD j default).Time:=fun k hk=>by
  have e:(P.take (j+1)).drop k=(P.take j).drop k++[P.getD j default]:=by rw[aO hj,List.drop_append_of_le_length (by rw[cE]; omega)]
  rw[e,lR,fI,xG,uW]; rfl
 refine Sp.eq ?_;unfold aWO aXP;simp only[Tr.den,aR];have ew:IntKind.i64.wrap ((n.Seq.length:Int)+1)=((n.Seq.length+1:Nat):Int):=aN (by omega);rw[ew];simp only[aR];rw[aA ⟨⟨by omega,by omega⟩,by omega⟩,aA (by simp; omega),aA (by simp),aA (by simp)];refine Sq.bind (fun z=>z = .inl (Ct fs n (P.take (j+1)))) (Sq.while (fun s:List Bool×Int×Int=>∃ k:Nat,s.2.2=(k:Int)-1/\k<=j+1/\s.1.length=n.Seq.length+1 /\
   (∀ p,p<=n.Seq.length->(s.1.getD p default=true↔Bwd n.Seq.length (gX n) (okG fs n) ((P.take (j+1)).drop k) p))/\s.2.1=Ct fs n ((P.take (j+1)).drop k)) (fun s=>(s.2.2+1).toNat) (fun s hI=>?_) ⟨j+1,by simp only; omega,cR _,by simp,fun p hp=>?_,?_⟩) (fun z hz=>by subst hz; exact aC.2 rfl)
 ·obtain⟨now,best,i⟩:=s;obtain⟨k,hk,hkj,hl,hB,hb⟩:=hI;simp only at hk hl hB hb;subst hk hb;unfold Xf;simp only[Tr.den];cases k with
  | zero=>rw[aE (cB (by omega))];simp only[aJ,dO,dL];exact aC.2 rfl
  | succ k=>
   have e1:((k+1:Nat):Int)-1=(k:Int):=by omega
   rw[e1,aA (bJ (by omega))];simp only[aR];have t1:=ht _ (aQ hj);have t2:=ht _ (aQ (show k<P.length by omega));have ewr:IntKind.i64.wrap ((P.getD j default).Time-(P.getD k default).Time)=(P.getD j default).Time-(P.getD k default).Time:=bE (by omega) (by omega);rw[aA (by omega),aA (by omega)];simp only[aJ];by_cases hc:IntKind.i64.wrap ((P.getD j default).Time-(P.getD k default).Time)<n.Size
   ·rw[aA (bJ hc),ew];rw[ewr]at hc;simp only[aR];rw[aA ⟨⟨by omega,by omega⟩,by omega⟩];refine Sq.bind _ (Sq.of (bAQ n P g (j:Int) (Ct fs n ((P.take (j+1)).drop (k+1))) k (by rw[hg.len]; omega) hn now hl (hg.sz k (by omega)))) (fun z hz=>?_);obtain⟨nx,rfl,hnl,hnx⟩:=hz;simp only[sel];have hB':∀ p,p<=n.Seq.length->(nx.getD p default=true↔Bwd n.Seq.length (gX n) (okG fs n) ((P.take (j+1)).drop k) p):=fun p hp=>by
     rw[hnx p hp,dk k (by omega)];constructor
     ·rintro⟨h1,h2,h3⟩;exact⟨h1,(hg.ok k (by omega) p h1).1 h3,(Vt hB h1).1 h2⟩
     ·rintro⟨h1,h2,h3⟩;exact⟨h1,(Vt hB h1).2 h3,(hg.ok k (by omega) p h1).2 h2⟩
    refine Sq.bind _ (Sq.of (aYR n P g (j:Int) (k:Int) (Ct fs n ((P.take (j+1)).drop (k+1))) hn nx hnl)) (fun z hz=>?_);obtain⟨b,rfl,hb1,hb2⟩:=hz;simp only[sel];refine aC.2 ⟨⟨k,?_,by omega,hnl,hB',?_⟩,?_⟩
    ·simp only; rw[bE (by omega) (by omega)]
    ·simp only;have hA:=aCW (s:=(P.take (j+1)).drop (k+1)) (x:=P.getD k default) (ok:=okG fs n) (n:=n) (now:=nx) (by rw[<-dk k (by omega)]; exact hB');have hM:=aZN (fs:=fs) hn ((P.take (j+1)).drop k) (P.getD k default).Time;rw[last k (by omega)]at hM;rw[dk k (by omega)]at hM ⊢;rw[aCF];by_cases hp:∃ p,p<n.Seq.length/\(∀ r,r<p->gX n r=2)/\nx.getD p default=true
     ·rw[hb1 hp,aA (hM.2 ⟨hc,hA.1 hp⟩),bE (n:=(j:Int)-(k:Int)) (by omega) (by omega),bE (by omega) (by omega),dA,fC,hL];omega
     ·rw[hb2 hp,aE fun h=>hp (hA.2 (hM.1 h).2)]
    ·simp only; rw[bE (by omega) (by omega)]; omega
   ·rw[aE (cB hc)];rw[ewr]at hc;refine aC.2 ?_;show Sum.inl _=_
    congr 1
    have hkj':k<j:=by
     refine lS fun h=>hc ?_;have:k=j:=by omega
     rw[this]; omega
    unfold Ct;have e2:(P.take (j+1)).map (gpl fs n)=((P.take (j+1)).take (k+1)).map (gpl fs n)++((P.take (j+1)).drop (k+1)).map (gpl fs n):=by rw[<-lR,iQ]
    rw[e2,Bf]
    ·intro h;have h:=congrArg List.length h;rw[bQ,fC,hL,fG]at h;omega
    ·intro x hx;obtain⟨d,hd,rfl⟩:=dC.1 hx;rw[last (k+1) (by omega)];obtain⟨i,hi,rfl⟩:=List.getElem_of_mem hd;rw[cE,hL]at hi;have e3:((P.take (j+1)).take (k+1))[i]=P.getD i default:=by rw[List.getElem_take,List.getElem_take,bL]
     rw[e3];have h4:=hs.get (i:=i) (j:=k) (by omega) (by omega);show ¬ ((P.getD j default).Time-(P.getD i default).Time<n.Size);omega
 ·have e3:(P.take (j+1)).drop (j+1)=[]:=jY (by omega);rw[e3,jA];show _↔p=n.Seq.length;by_cases h:p=n.Seq.length
  ·rw[aA ⟨h,by simp⟩]; exact⟨fun _=>h,fun _=>rfl⟩
  ·rw[aE (fun h'=>h h'.1)];refine⟨fun h'=>?_,fun h'=>absurd h' h⟩;rw[cF,lW]at h';split at h' <;> cases h'
 ·have e3:(P.take (j+1)).drop (j+1)=[]:=jY (by omega);rw[e3]; rfl
theorem Qo(hl:okN l)(q:Pl->Bool):cons (l.filter fun d=>q (pl d))=(cons l).filter fun d=>q (pl d):=
 Na ((iO hl).filter _) (fun x hx=>hl x (fE.1 hx).1) ((iW l).filter q)
noncomputable def Nq (fs:List aV)(n:aG)(l:List aB):List aB:=jK n (nT n (l.getD 0 default).Row) 0 [] (plA fs n l)
theorem Ot{n:aG}{key:List aF}(h:∀ d,d∈l->nT n d.Row=key):Nq fs n l=jK n key 0 [] (plA fs n l):=by
 by_cases hl:l=[]
 ·subst hl; rfl
 ·unfold Nq;rw[h _ (aQ (gR.2 hl))]
theorem Ps(f:ByteArray->Int):∀ a b:List ByteArray,jC f (a++b)=jC f a+jC f b
 | [],b=>by simp[jC]
 | k::a,b=>by rw[rU,jC,jC,Ps f a b]; omega
theorem aGU{f:ByteArray->Int}{ks ks':List ByteArray}(h:ks.Nodup)(h':ks'.Nodup)(hs:∀ k,k∈ks'->k∈ks)(h0:∀ k,k∉ks'->f k=0):jC f ks'=jC f ks:=by
 classical
 have hp:ks.Perm (ks'++ks.filter fun k=>!decide (k∈ks')):=by
  refine(List.perm_ext_iff_of_nodup h (wP.2 ⟨h',h.filter _,fun a ha b hb e=>?_⟩)).2 fun k=>?_
  ·subst e;have:=(fE.1 hb).2;rw[qL ha]at this;exact absurd this (by decide)
  ·rw[dH,fE];by_cases hk:k∈ks'
   ·simp[hk,hs k hk]
   ·simp[hk]
 rw[aBW f hp,Ps];have:jC f (ks.filter fun k=>!decide (k∈ks'))=0:=by refine(Sx (g:=fun _=>0) fun k hk=>h0 k (by have:=(fE.1 hk).2;intro hk';rw[qL hk']at this;exact absurd this (by decide))).trans (aCK _)
 omega
theorem Ni{n:aG}{k:ByteArray}{a b:List aB}(hx:x∈ofK n 0 k b):∀ d,d∈ofK n 0 k a->nT n d.Row=nT n x.Row:=fun d hd=>aEC ((jX.1 hd).2.trans (jX.1 hx).2.symm)
theorem aNJ(row:List aF)(n:aG)(hc:An n.Key row)(hl:n.Key.length<=1000):aAF row n.Key=some (nT n row):=by
 unfold aAF aQB;simp only[Tr.den];rw[aA ⟨⟨by omega,by rw[bE (by omega) (by omega)]; omega⟩,by rw[bE (by omega) (by omega)]; omega⟩];have h1:=bB (bd:=fun s=>(rL row n.Key s).den) (fun k=>((n.Key.take k).map fun c=>row.getD c.toNat default,(k:Int))) n.Key.length (r:=.inl (nT n row)) (fun k hk=>?_) ?_
 ·exact(congrArg (fun x=>Option.bind x _) h1).trans rfl
 ·unfold rL;simp only[Tr.den,aR];have hm:=hc _ (aQ hk);rw[aA (bJ (by omega)),aA (by omega),aA (by omega),aA (by simp only[bQ,cE,eE]; omega),aN (by omega),aO hk,lR];rfl
 ·unfold rL;simp only[Tr.den];rw[aE (cB (by omega)),dI]; rfl
theorem Jl(row:List aF)(n:aG)(hc:An n.Key row)(hl:n.Key.length<=1000):Tu row n.Key=some (nT n row):=by
 unfold Tu Ut;simp only[Tr.den];rw[aA ⟨⟨by omega,by rw[bE (by omega) (by omega)]; omega⟩,by rw[bE (by omega) (by omega)]; omega⟩];have h1:=bB (bd:=fun s=>(uO row n.Key s).den) (fun k=>((n.Key.take k).map fun c=>row.getD c.toNat default,(k:Int))) n.Key.length (r:=.inl (nT n row)) (fun k hk=>?_) ?_
 ·exact(congrArg (fun x=>Option.bind x _) h1).trans rfl
 ·unfold uO;simp only[Tr.den,aR];have hm:=hc _ (aQ hk);rw[aA (bJ (by omega)),aA (by omega),aA (by omega),aA (by simp only[bQ,cE,eE]; omega),aN (by omega),aO hk,lR];rfl
 ·unfold uO;simp only[Tr.den];rw[aE (cB (by omega)),dI]; rfl
theorem Zo(b:Bool):aYW b=some (vB b):=by cases b <;> simp[aYW,aXS,Tr.den,vB]
def plG(l:List aB):List aB:=l.flatMap fun d=>List.replicate d.N.toNat d
theorem Wo(fs:List aV)(n:aG)(l:List aB):(plG l).map (gpl fs n)=plA fs n l:=by
 unfold plG plA plD;rw[List.map_flatMap]
 congr 1
 funext d;rw[List.map_replicate]; rfl
theorem Oh{d:aB}(h:d∈plG l):d∈l:=by obtain⟨x,hx,h⟩:=nF.1 h;rw[(List.mem_replicate.1 h).2]; exact hx
theorem Ob(h:∀ d,d∈l->d.N<=1000):(plG l).length<=l.length*1000:=by
 induction l with
 | nil=>simp[plG]
 | cons d l ih=>have h1:=h d cC;have h2:=ih fun x hx=>h x (cH _ hx);unfold plG at h2 ⊢;rw[fH,bX,qW,dA]; omega
theorem aTB(h:TS l):TS (plG l):=by
 induction l with
 | nil=>exact List.Pairwise.nil
 | cons d l ih=>
  have h':=lT.1 h;unfold plG;rw[fH];refine wT.2 ⟨?_,ih h'.2,fun x hx y hy=>?_⟩
  ·refine List.pairwise_replicate.2 (.inr (Int.le_refl _))
  ·rw[(List.mem_replicate.1 hx).2]; exact h'.1 y (Oh hy)
structure aAZ (fs:List aV)(n:aG)(l:List aB):Prop where
 i:okI n 0 l
 ev:aCS fs n l
 ty:∀ d,d∈l->∀ p,p<n.Seq.length->TyV 2 (evV fs (n.Seq.getD p default).Pred d)
 nn:∀ d,d∈l->d.N<=1000
 len:l.length<=1000000
theorem bBF{n:aG}(h:aAZ fs n l)(hK:n.Seq.length<=8)(v1:List aB)(v2:List (List Bool))(hk:k<l.length):
  Sp (cK (fun s=>(Li fs n l (k:Int) s).den) (v1,v2,List.replicate n.Seq.length (default:Bool),0))
   (fun z=>∃ g:List Bool,z = .inl (v1,v2,g)/\g.length=n.Seq.length/\∀ p,p<n.Seq.length->(g.getD p default=true↔okG fs n (l.getD k default) p)):=by
 refine dY (fun s:List aB×List (List Bool)×List Bool×Int=>s.2.2.2) n.Seq.length (by omega) (fun s=>s.1=v1/\s.2.1=v2/\s.2.2.1.length=n.Seq.length/\∀ p:Nat,(p:Int)<s.2.2.2->(s.2.2.1.getD p default=true↔okG fs n (l.getD k default) p)) (fun s q hI hq hqN=>?_)
  ⟨rfl,rfl,qW,fun p hp=>absurd hp (by show ¬ ((p:Int)<0); omega)⟩ rfl
 obtain⟨v6,v7,v8,v9⟩:=s;obtain⟨rfl,rfl,hl,hg⟩:=hI;simp only at hq hl hg;subst hq;unfold Li;simp only[Tr.den,aR];by_cases hc:q<n.Seq.length
 ·have hm:=aQ hk;have ht:=h.ty _ hm q hc;rw[aA (bJ (by omega)),aA (by omega),h.ev.get hm hc,Zo];simp only[aJ];rw[aA (by omega),aA (by omega),aA (by simp; omega)];refine aC.2 ⟨rfl,hc,rfl,rfl,by simp only; rw[Kc]; exact hl,fun p hp=>?_⟩;rw[aN (by omega)]at hp;simp only at hp ⊢;rw[jA];by_cases e:p=q
  ·subst e;rw[aA ⟨rfl,by omega⟩];have h1:((evV fs (n.Seq.getD p default).Pred (l.getD k default)).Kind==(vB true).Kind)=true:=fB.2 ht.1;have h2:((evV fs (n.Seq.getD p default).Pred (l.getD k default)).S.toList==(vB true).S.toList)=true:=fB.2 (ht.2.1 (by decide));rw[h1,h2,Bool.true_and,Bool.and_true,Bool.and_true,fB];exact Iff.rfl
  ·rw[aE (fun h'=>e h'.1)];exact hg p (by omega)
 ·rw[aE (cB (by omega))];exact aC.2 ⟨v8,rfl,hl,fun p hp=>hg p (by omega)⟩
theorem bBI(l:List aB)(hk:k<l.length)(hN:(l.getD k default).N<=1000)(v1:List aB)(v2:List (List Bool))(g:List Bool)(h1:v1.length<=1000000000)(h2:v2.length<=1000000000):
  cK (fun s=>(xN l (k:Int) s).den) (v1,v2,g,0)=some (.inl (v1++List.replicate (l.getD k default).N.toNat (l.getD k default),v2++List.replicate (l.getD k default).N.toNat g)):=by
 have h3:=bB (bd:=fun s=>(xN l (k:Int) s).den) (fun i=>(v1++List.replicate i (l.getD k default),v2++List.replicate i g,g,(i:Int))) (l.getD k default).N.toNat (r:=.inl (v1++List.replicate (l.getD k default).N.toNat (l.getD k default),v2++List.replicate (l.getD k default).N.toNat g)) (fun i hi=>?_) ?_
 ·simpa using h3
 ·unfold xN;simp only[Tr.den,aR];rw[aA (bJ (by omega)),aA (by simp only[bX,qW,eE]; omega),aA (by simp only[bX,qW,eE]; omega),aN (by omega)];rw[cL,cL,<-List.replicate_succ',<-List.replicate_succ']
 ·unfold xN;simp only[Tr.den,aR];rw[aE (cB (by omega))]
theorem aLW{n:aG}(h:aAZ fs n l)(hK:n.Seq.length<=8):
  Sp (cK (fun s=>(Nb fs n l s).den) (([]:List aB),([]:List (List Bool)),0)) (fun z=>∃ g,z = .inl (plG l,g)/\aYP fs n (plG l) g):=by
 refine dY (fun s:List aB×List (List Bool)×Int=>s.2.2) l.length (by have:=h.len; omega) (fun s=>s.1=plG (l.take s.2.2.toNat)/\aYP fs n s.1 s.2.1) (fun s k hI hk hkN=>?_)
  ⟨by simp[plG],rfl,fun i hi=>absurd hi (Ad i),fun i hi=>absurd hi (Ad i)⟩ rfl
 obtain⟨v1,v2,v3⟩:=s;obtain⟨e1,hg⟩:=hI;simp only at hk e1 hg;subst hk;rw[aR]at e1;subst e1;have hlen:=h.len;have hpl:=Ob (l:=l.take k) fun d hd=>h.nn d (El hd);rw[cE]at hpl;unfold Nb;simp only[Tr.den,aR];by_cases hc:k<l.length
 ·have hN:=h.nn _ (aQ hc);rw[aA (bJ (by omega)),aA (by omega),aA ⟨⟨by omega,by omega⟩,by omega⟩];refine Sq.bind _ (Sq.of (bBF h hK (plG (l.take k)) v2 hc)) fun z hz=>?_;obtain⟨g,rfl,hgl,hgo⟩:=hz;simp only[sel];have hvl:=hg.len;rw[bBI l hc hN _ _ g (by omega) (by omega)];simp only[aJ,sel];have eP:plG (l.take (k+1))=plG (l.take k)++List.replicate (l.getD k default).N.toNat (l.getD k default):=by unfold plG;rw[aO hc,qX,fH,List.flatMap_nil,eU]
  refine aC.2 ⟨rfl,hc,?_,?_,?_,?_⟩
  ·simp only; rw[aN (by omega),aR,eP]
  ·simp only[bX,qW]; omega
  ·intro i hi;simp only at hi ⊢;rw[bX,qW]at hi;rw[bH];by_cases hik:i<v2.length
   ·rw[aA hik]; exact hg.sz i (by omega)
   ·rw[aE hik,cF,lW,aA (by omega)]; exact hgl
  ·intro i hi;simp only at hi ⊢;rw[bX,qW]at hi;rw[bH,bH];by_cases hik:i<v2.length
   ·rw[aA hik,aA (by omega)]; exact hg.ok i (by omega)
   ·rw[aE hik,aE (by omega),cF,lW,aA (by omega),cF,lW,aA (by omega)]; exact hgo
 ·rw[aE (cB (by omega))];rw[lV (by omega)]at hg ⊢;exact aC.2 ⟨v2,rfl,hg⟩
theorem aFA{n:aG}{P:List aB}{j:Nat}(hj:j<P.length):
  (Ct fs n (P.take (j+1))=0/\pS dM.time_ (nxF n) (Gj n) n.Size (rQ n 1) ((P.take (j+1)).map (gpl fs n))=none) \/
  (∃ i:Nat,i<=j/\Ct fs n (P.take (j+1))=(j:Int)-i+1/\pS dM.time_ (nxF n) (Gj n) n.Size (rQ n 1) ((P.take (j+1)).map (gpl fs n))=some ((P.getD i default).Time,(j:Int)-i+1)):=by
 have h:=Gh dM.time_ (nxF n) (Gj n) n.Size (rQ n 1) 0 (P.map (gpl fs n)) j (by rw[bQ]; exact hj);rw[<-List.map_take]at h;unfold Ct;rcases h with⟨h,_⟩ | ⟨i,hi,_,h⟩
 ·rw[h]; exact .inl ⟨rfl,rfl⟩
 ·have e:((P.map (gpl fs n)).getD i default).time_=(P.getD i default).Time:=by rw[bL (by rw[bQ]; omega),Gm,<-bL (show i<P.length by omega)]; rfl
  rw[e]at h;rw[h]; exact .inr ⟨i,hi,rfl,rfl⟩
theorem aKD{n:aG}{key:List aF}(h:aAZ fs n l)(hn:aID n)(hs:TS l)(hk:∀ d,d∈l->nT n d.Row=key):aYI fs n l=some (jK n key 0 [] (plA fs n l)):=by
 have hK:=hn.seq.2;have hkl:=hn.key;refine Sp.eq ?_;unfold aYI aUH;simp only[Tr.den];refine Sq.bind _ (Sq.of (aLW h hK)) fun z hz=>?_;obtain⟨g,rfl,hg⟩:=hz;simp only[sel];have hlen:=h.len;have hpl:=Ob h.nn;have hts:=aTB hs;have htm:kK (plG l):=fun d hd=>h.i.t d (Oh hd);have out_len:∀ k,(jK n key 0 [] (((plG l).take k).map (gpl fs n))).length<=k:=fun k=>by
  have:∀ (a u:List dM),(jK n key 0 u a).length<=a.length:=fun a=>by
   induction a with
   | nil=>intro u; exact cR _
   | cons q a ih=>
    intro u;rw[jK,bX,dA];have h1:=ih (u++[q]);have h2:(if (0:Int)<=q.time_ then Ck n key (u++[q]) else []).length<=1:=by
     split
     ·unfold Ck; split <;> simp
     ·simp
    omega
  refine gY (this _ _) ?_;rw[bQ,cE]; omega
 have h1:=bB (bd:=fun s=>(Ef n (plG l) g s).den) (fun k=>(jK n key 0 [] (((plG l).take k).map (gpl fs n)),(k:Int))) (plG l).length (r:=.inl (jK n key 0 [] (plA fs n l))) (fun k hk'=>?_) ?_
 ·rw[show (([]:List aB),(0:Int))=(fun k:Nat=>(jK n key 0 [] (((plG l).take k).map (gpl fs n)),(k:Int))) 0 from rfl,h1];exact aC.2 rfl
 ·unfold Ef;simp only[Tr.den,aR];have hd:=Oh (aQ hk');have hkey:=hk _ hd;have hol:=out_len k;have ht0:=(h.i.t _ hd).1;rw[aA (bJ (by omega)),aA (by omega),aKT hK hn.size hg hts htm (by omega) hk',aN (by omega)];simp only[aJ];have eL:((plG l).take k).map (gpl fs n)++[gpl fs n ((plG l).getD k default)]=((plG l).take (k+1)).map (gpl fs n):=by rw[aO hk',lR]; rfl
  have eS:jK n key 0 [] (((plG l).take (k+1)).map (gpl fs n))=jK n key 0 [] (((plG l).take k).map (gpl fs n))++Ck n key (((plG l).take (k+1)).map (gpl fs n)):=by rw[<-eL,qA,oU,jK,jK,eU,aA (show (0:Int)<=(gpl fs n ((plG l).getD k default)).time_ from ht0)]
  rw[eS];unfold Ck;have elast:((((plG l).take (k+1)).map (gpl fs n)).getLastD default).time_=((plG l).getD k default).Time:=by rw[<-eL,uW]; rfl
  rw[elast];rcases aFA (fs:=fs) (n:=n) hk' with⟨b1,b2⟩ | ⟨i,hi,b1,b2⟩
  ·rw[b2,b1,aE (cB (by omega))];simp only[aJ,eU]
  ·rw[b2,b1,aA (bJ (by omega)),Jl _ n (h.i.c _ hd) (by omega)];simp only[aJ];have ew:IntKind.i64.wrap (IntKind.i64.wrap ((k:Int)-((k:Int)-i+1))+1)=(i:Int):=by rw[bE (n:=(k:Int)-((k:Int)-i+1)) (by omega) (by omega),bE (by omega) (by omega)]; omega
   rw[ew];simp only[aR];rw[aA (by omega),yS,yS];simp only[aJ];rw[hkey,aA (by rw[<-hkey]; unfold nT; rw[bQ]; omega),aA (by simp only[eE]; omega)];rfl
 ·unfold Ef;simp only[Tr.den];rw[aE (cB (by omega)),dI,Wo]
theorem aAR{r:List aF}(h:Hw r)(hl:r.length<=1000):(Ih r).size<=1000+r.length*1073742000:=by have h1:=xF ((⟨#[]⟩:ByteArray)++wJ (r.length:Int)) r h;have h2:=mO (n:=(r.length:Int)) ⟨by omega,by omega⟩;rw[jU,show (⟨#[]⟩:ByteArray).size=0 from rfl]at h1;unfold Ih;omega
theorem Qd{n:aG}(h:okI n 0 l)(hk:n.Key.length<=20)(hl:l.length<=1000000):aJK (aW (bW n 0 l))=true:=by
 unfold aJK;have h1:=jG n 0 l;rw[cI,eJ,fL];refine⟨by unfold aW; rw[bQ]; omega,fun k hk'=>bJ ?_⟩;have hne:=rI.1 hk';obtain⟨hd,e⟩:=jX.1 (aQ (gR.2 hne));rw[<-e];refine gY (aAR (r:=nT n _) (fun v hv=>?_) (by unfold nT; rw[bQ]; omega)) ?_
 ·obtain⟨c,_,rfl⟩:=dC.1 hv;exact Hw.get (h.v _ hd) _
 ·unfold nT; rw[bQ]; omega
theorem Nt{n:aG}(h:okI n 0 l)(hk:n.Key.length<=20)(hl:l.length<=1000000):aNA l n.Key=some ((cS (aW (bW n 0 l))).map fun k=>ofK n 0 k l):=by
 unfold aNA aWL;simp only[Tr.den];have h1:=bB (bd:=fun s=>(Ec l n.Key s).den) (fun k=>(bW n 0 (l.take k),(k:Int))) l.length (r:=.inl (bW n 0 l)) (fun k hk'=>?_) ?_
 ·refine(congrArg (fun x=>Option.bind x _) h1).trans ?_;simp only[aJ,sel];rw[aA (Qd h hk hl)];simp only[aJ];have hml:=jG n 0 l;have hsl:=jP (aW (bW n 0 l));have hml':(aW (bW n 0 l)).length=(bW n 0 l).length:=bQ _;generalize hks:cS (aW (bW n 0 l))=ks at hsl ⊢;have h2:=bB (bd:=fun s=>(Dg (bW n 0 l) ks s).den) (fun k=>((ks.take k).map fun k=>ofK n 0 k l,ks,(k:Int))) ks.length (r:=.inl (ks.map fun k=>ofK n 0 k l)) (fun k hk'=>?_) ?_
  ·exact(congrArg (fun x=>Option.bind x _) h2).trans rfl
  ·unfold Dg;simp only[Tr.den,aR];have e:∀ c,ofK n 0 (ks.getD k default) l=c->(ks.take (k+1)).map (fun k=>ofK n 0 k l)=(ks.take k).map (fun k=>ofK n 0 k l)++[c]:=fun c hc=>by rw[aO hk',lR,<-hc]; rfl
   rw[aA (bJ (by omega)),aA (by omega),aA (by omega),aN (by omega)];have hL:=tK n 0 (ks.getD k default) l;cases hc:bF (bW n 0 l) (ks.getD k default) with
   | none=>
    rw[hc]at hL;have h0:ofK n 0 (ks.getD k default) l=[]:=lS fun h0=>by rw[aE h0]at hL; cases hL
    simp only;rw[aA (by simp only[bQ,cE,eE]; omega),e _ h0];rfl
   | some c=>
    rw[hc]at hL;have h0:ofK n 0 (ks.getD k default) l=c:=by
     by_cases h0:ofK n 0 (ks.getD k default) l=[]
     ·rw[aA h0]at hL; cases hL
     ·rw[aE h0]at hL; injection hL with hL; exact hL.symm
    simp only;rw[aA (by simp only[bQ,cE,eE]; omega),e _ h0];rfl
  ·unfold Dg;simp only[Tr.den];rw[aE (cB (by omega)),dI]
 ·unfold Ec;simp only[Tr.den,aR];have hm:=aQ hk';have hcl:An n.Key (l.getD k default).Row:=h.c _ hm;rw[aA (bJ (by omega)),aA (by omega),aNJ _ n hcl (by omega)];simp only[aJ];rw[Xa _ (fun v hv=>by obtain⟨c,hcm,rfl⟩:=dC.1 hv;exact Hw.get (h.v _ hm) _) (by unfold nT; rw[bQ]; omega)];simp only[aJ];have h2:=iU n 0 (La n 0 (l.getD k default).Row) (l.take k);simp only[cE]at h2;have hkey:Ih (nT n (l.getD k default).Row)=La n 0 (l.getD k default).Row:=rfl;rw[hkey,aA (by rw[qQ]; simp only[dA,fG]; omega),aN (by omega)]
  congr 3
  unfold bW;rw[aO hk',zU];rfl
 ·unfold Ec;simp only[Tr.den];rw[aE (cB (by omega)),dI]
theorem nG(ks:List ByteArray):(cS ks).Perm ks:=by
 unfold cS;have h:=(List.mergeSort_perm (ks.map fun k=>k.data.toList) (fun x y=>decide (x<=y))).map fun l:List UInt8=>(⟨l.toArray⟩:ByteArray);refine h.trans ?_;rw[qM];have e:((fun l:List UInt8=>(⟨l.toArray⟩:ByteArray)) ∘ fun k:ByteArray=>k.data.toList)=id:=by funext k; rfl
 rw[e,List.map_id]
theorem LO.int:LO Int:=by
 have e:∀ a b:Int,MKey.lt a b=decide (a<b):=fun a b=>rfl;refine⟨fun a=>by rw[e]; simp,fun a b c h1 h2=>?_,fun a b h=>?_⟩
 ·rw[e]at h1 h2 ⊢;have h1:=dP h1;have h2:=dP h2;exact bJ (by omega)
 ·rw[e,e];rcases Int.lt_or_gt_of_ne h with h | h
  ·exact .inl (bJ h)
  ·exact .inr (bJ h)
def Lu(len step t:Int):Nat:=((t / step*step+len-t+step-1) / step).toNat
def nS(len step t:Int):List Int:=(List.range (Lu len step t)).map fun i:Nat=>t / step*step-(i:Int)*step
theorem xP{len step:Int}(hs:0<step)(i:Nat):i<Lu len step t↔t<t / step*step-(i:Int)*step+len:=by
 unfold Lu;have h1:i<((t / step*step+len-t+step-1) / step).toNat↔(i:Int)+1<=(t / step*step+len-t+step-1) / step:=by omega
 rw[h1,Int.le_ediv_iff_mul_le hs,Int.add_mul];generalize (i:Int)*step=z;generalize t / step*step=y;omega
theorem yI{len step:Int}(hs:0<step):b∈nS len step t↔step∣b/\b<=t/\t<b+len:=by
 unfold nS;rw[dC];have h0:t / step*step<=t:=Gt t (by omega);constructor
 ·rintro⟨i,hi,rfl⟩;have h1:=(xP hs i).1 (Bq.1 hi);refine⟨⟨t / step-i,by rw[rM step,Int.sub_mul]⟩,?_,h1⟩;have:0<=(i:Int)*step:=Int.mul_nonneg (by omega) (by omega);omega
 ·rintro⟨⟨k,rfl⟩,h1,h2⟩;have h3:k<=t / step:=(Int.le_ediv_iff_mul_le hs).2 (by rw[rM]; exact h1);have e:t / step*step-((t / step-k).toNat:Int)*step=step*k:=by rw[show ((t / step-k).toNat:Int)=t / step-k by omega,Int.sub_mul,rM step]; omega
  refine⟨(t / step-k).toNat,Bq.2 ((xP hs _).2 ?_),e⟩;rw[e]; exact h2
theorem Fm{len step:Int}(hs:0<step):(nS len step t).Nodup:=by
 unfold nS;unfold List.Nodup;rw[wR];refine List.nodup_range.imp fun {i j} hij h=>hij ?_;have h1:(i:Int)*step=(j:Int)*step:=by omega
 have:=Int.eq_of_mul_eq_mul_right (by omega) h1;omega
theorem Yj{len step:Int}(hs:0<step)(h:len<=step*c)(ht:0<=t):Lu len step t<=c:=by
 rcases mE c (Lu len step t) with h1 | h1
 ·exfalso;have h2:=(xP hs c).1 h1;have h0:t / step*step<=t:=Gt t (by omega);rw[rM]at h;omega
 ·exact h1
abbrev ZP:=List (Int×List aB)
def rE(d:aB)(bs:List Int)(m:ZP):ZP:=bs.foldl (fun m b=>mput m b ((bF m b).getD []++[d])) m
def tZ(len step:Int)(l:List aB):ZP:=l.foldl (fun m d=>rE d (nS len step d.Time) m) []
def inB(len step b:Int)(l:List aB):List aB:=l.filter fun d=>decide (b∈nS len step d.Time)
def tC(len b:Int)(l:List aB):List aB:=l.filter fun d=>decide (b<=d.Time)&&decide (d.Time<b+len)
theorem wI{len step:Int}(hs:0<step)(l:List aB):inB len step b l=if step∣b then tC len b l else []:=by
 unfold inB tC;by_cases h:step∣b
 ·rw[aA h];refine pE fun d _=>?_;rw[sN];simp only[eJ,cI,yI hs];exact⟨fun h=>h.2,fun h'=>⟨h,h'⟩⟩
 ·rw[aE h];refine Au.2 fun d _=>?_;simp only[eJ,yI hs];exact fun h'=>h h'.1
theorem Wr(d:aB):∀ (bs:List Int) {m:ZP},MC m->MC (rE d bs m)
 | [],_,h=>h
 | b::bs,_,h=>Wr d bs (h.mput LO.int _ _)
theorem Av(d:aB)(b:Int):∀ (bs:List Int) (m:ZP),bs.Nodup->bF (rE d bs m) b=if b∈bs then some ((bF m b).getD []++[d]) else bF m b
 | [],m,_=>by simp[rE]
 | c::bs,m,h=>by
  have h1:=oP.1 h;have e:rE d (c::bs) m=rE d bs (mput m c ((bF m c).getD []++[d])):=rfl;rw[e,Av d b bs _ h1.2,qR];by_cases hc:c=b
  ·subst hc;rw[aE h1.1,aA rfl,aA cC]
  ·rw[aE hc];have:(b∈c::bs)↔b∈bs:=by rw[aU];exact⟨fun h=>h.elim (fun h=>absurd h.symm hc) id,.inr⟩
   by_cases hb:b∈bs
   ·rw[aA hb,aA (this.2 hb)]
   ·rw[aE hb,aE (fun h=>hb (this.1 h))]
theorem aQY(len step:Int)(l:List aB):MC (tZ len step l):=by
 unfold tZ;have:∀ (l:List aB) (m:ZP),MC m->MC (l.foldl (fun m d=>rE d (nS len step d.Time) m) m):=by
  intro l
  induction l with
  | nil=>exact fun m h=>h
  | cons d l ih=>exact fun m h=>ih _ (Wr d _ h)
 exact this l [] aGH
theorem Bc{len step:Int}(hs:0<step)(b:Int)(l:List aB):bF (tZ len step l) b=if inB len step b l=[] then none else some (inB len step b l):=by
 have:∀ (l:List aB) (m:ZP),bF (l.foldl (fun m d=>rE d (nS len step d.Time) m) m) b=if inB len step b l=[] then bF m b else some ((bF m b).getD []++inB len step b l):=by
  intro l
  induction l with
  | nil=>intro m; simp[inB]
  | cons d l ih=>
   intro m;rw[oB,ih,Av _ _ _ _ (Fm hs)];unfold inB;by_cases hk:b∈nS len step d.Time
   ·rw[kG,aA (bJ hk),aA hk];by_cases h:l.filter (fun d=>decide (b∈nS len step d.Time))=[]
    ·rw[aA h,aE (by simp),h]
    ·rw[aE h,aE (by simp)]; simp
   ·rw[kG,aE (cB hk),aE hk]
 have:=this l [];simpa[bF,tZ] using this
theorem aJO{len step:Int}(hs:0<step)(b:Int)(l:List aB):(bF (tZ len step l) b).getD []=inB len step b l:=by rw[Bc hs]; split <;> simp_all
theorem Qe{len step:Int}(hs:0<step):b∈aW (tZ len step l)↔inB len step b l≠[]:=by
 rw[Hd,Bc hs];constructor
 ·rintro⟨c,hc⟩ h;rw[aA h]at hc; cases hc
 ·intro h;exact⟨_,aE h⟩
theorem aJJ{V:Type}(m:List (Int×V))(k:Int)(c:V):(mput m k c).length<=m.length+1:=by have h:=(zW m k c).length_eq;have h2:(mdel m k).length<=m.length:=tY _ _;rw[dA]at h;omega
theorem Pp(d:aB):∀ (bs:List Int) (m:ZP),(rE d bs m).length<=m.length+bs.length
 | [],m=>cR _
 | b::bs,m=>by have h:=Pp d bs (mput m b ((bF m b).getD []++[d]));have h2:=aJJ m b ((bF m b).getD []++[d]);have e:rE d (b::bs) m=rE d bs (mput m b ((bF m b).getD []++[d])):=rfl;rw[e,dA]; omega
theorem Qf(len step t:Int):(nS len step t).length=Lu len step t:=by unfold nS; rw[bQ,List.length_range]
theorem Qg{len step:Int}(hs:0<step)(hc:len<=step*c)(ht:kK l):(tZ len step l).length<=l.length*c:=by
 unfold tZ;have:∀ (l:List aB) (m:ZP),kK l->(l.foldl (fun m d=>rE d (nS len step d.Time) m) m).length<=m.length+l.length*c:=by
  intro l
  induction l with
  | nil=>intro m _; simp
  | cons d l ih=>intro m h;rw[oB];have h1:=ih (rE d (nS len step d.Time) m) fun x hx=>h x (cH _ hx);have h2:=Pp d (nS len step d.Time) m;rw[Qf]at h2;have h3:=Yj (t:=d.Time) hs hc (h d cC).1;rw[dA,gP];omega
 have:=this l [] ht;simpa using this
theorem rK(ks:List Int):(kO ks).Perm ks:=List.mergeSort_perm _ _
def kL(len step:Int)(l:List aB):List Int:=kO (aW (tZ len step l))
theorem jW{len step:Int}(hs:0<step):b∈kL len step l↔inB len step b l≠[]:=by unfold kL; rw[(rK _).mem_iff,Qe hs]
theorem Et(len step:Int)(l:List aB):(kL len step l).Nodup:=(rK _).nodup_iff.2 ((aQY len step l).nodup LO.int)
theorem pO{len step:Int}(hs:0<step)(hc:len<=step*c)(ht:kK l):(kL len step l).length<=l.length*c:=by unfold kL;rw[(rK _).length_eq];unfold aW;rw[bQ];exact Qg hs hc ht
theorem aLZ{a:Int}(ha:0<=a)(hb:0<b)(h:a<=9223372036854775807):aXL a b=some (a / b):=by unfold aXL aTS;simp only[Tr.den];have h1:0<=a / b:=Int.ediv_nonneg ha (by omega);have h2:a / b<=a:=Int.ediv_le_self b ha;rw[aE (cB (by omega)),aA (by omega),Int.tdiv_eq_ediv_of_nonneg ha,bE (by omega) (by omega)]
theorem rD{β:Type}[Inhabited α](f:β->α->β)(b:β)(l:List α)(hk:k<l.length):(l.take (k+1)).foldl f b=f ((l.take k).foldl f b) (l.getD k default):=by rw[aO hk,zU]; rfl
def aMQ(ks:List Int)(m:ZP):List (Int×Option (List aB)):=ks.foldl (fun m b=>mput m b none) (m.map fun p=>(p.1,some p.2))
theorem aBF(m:ZP)(b:Int):bF (m.map fun p=>(p.1,some p.2)) b=(bF m b).map some:=by
 induction m with
 | nil=>rfl
 | cons p m ih=>simp only[fI,bF,ih];split <;> rfl
theorem Js(m:ZP):aW (m.map fun p=>(p.1,some p.2))=aW m:=by unfold aW;rw[qM]; rfl
theorem aBS(b:Int):∀ (ks:List Int) (m:ZP),bF (aMQ ks m) b=if b∈ks then some none else (bF m b).map some:=by
 have:∀ (ks:List Int) (m:List (Int×Option (List aB))),bF (ks.foldl (fun m b=>mput m b none) m) b=if b∈ks then some none else bF m b:=by
  intro ks
  induction ks with
  | nil=>intro m; simp
  | cons c ks ih=>
   intro m;rw[oB,ih,qR];by_cases h:b∈ks
   ·rw[aA h,aA (cH _ h)]
   ·rw[aE h];by_cases hc:c=b
    ·subst hc; rw[aA rfl,aA cC]
    ·rw[aE hc,aE (fun h'=>(aU.1 h').elim (fun e=>hc e.symm) h)]
 intro ks m;unfold aMQ;rw[this,aBF]
def He(len step:Int)(l:List aB):List aL:=(kL len step l).map fun b=>⟨b,b+len,inB len step b l⟩
theorem rH(len step b:Int)(l:List aB):(inB len step b l).length<=l.length:=tY _ _
theorem Rv{len step:Int}(hl:1<=len/\len<=10000)(hs:1<=step/\step<=10000)(ht:0<=t):Lu len step t<=10000:=by refine Yj (by omega) ?_ ht;have:1*10000<=step*10000:=Ud hs.1 (by omega);omega
theorem aMI(l:List aB)(len step:Int)(k:Nat)(hk:k<l.length)(m:ZP)(hl:1<=len/\len<=10000)(hs:1<=step/\step<=10000)(ht:0<=(l.getD k default).Time/\(l.getD k default).Time<=2199023255552)(hm:∀ b,((bF m b).getD []).length<=1000000):
  cK (fun s=>(yT l len step (k:Int) s).den) (m,(l.getD k default).Time / step*step)=some (.inl (rE (l.getD k default) (nS len step (l.getD k default).Time) m)):=by
 have hn:=Qf len step (l.getD k default).Time;have hb:=Fm (len:=len) (t:=(l.getD k default).Time) (show 0<step by omega);have h10:=Rv hl hs ht.1;have hc:=fun i=>xP (len:=len) (t:=(l.getD k default).Time) (show 0<step by omega) i;have h0:(l.getD k default).Time / step*step<=(l.getD k default).Time:=Gt _ (by omega);have h00:0<=(l.getD k default).Time / step*step:=Int.mul_nonneg (Int.ediv_nonneg ht.1 (by omega)) (by omega);have ei:∀ i,i<(nS len step (l.getD k default).Time).length->(nS len step (l.getD k default).Time).getD i default=(l.getD k default).Time / step*step-(i:Int)*step:=fun i hi=>by rw[bL hi]; simp[nS]
 have hmul:∀ i:Nat,i<=10000->0<=(i:Int)*step/\(i:Int)*step<=10000*10000:=fun i hi=>
  ⟨Int.mul_nonneg (by omega) (by omega),Int.mul_le_mul (by omega) hs.2 (by omega) (by omega)⟩
 have h1:=bB (bd:=fun s=>(yT l len step (k:Int) s).den) (fun i=>(rE (l.getD k default) ((nS len step (l.getD k default).Time).take i) m,(l.getD k default).Time / step*step-(i:Int)*step)) (Lu len step (l.getD k default).Time) (r:=.inl (rE (l.getD k default) (nS len step (l.getD k default).Time) m)) (fun i hi=>?_) ?_
 ·rw[<-h1];simp[rE]
 ·have g1:=hmul i (by omega);unfold yT;simp only[Tr.den,aR];rw[bE (by omega) (by omega),aA (bJ ((hc i).1 hi))];have hlk:((bF (rE (l.getD k default) ((nS len step (l.getD k default).Time).take i) m) ((l.getD k default).Time / step*step-(i:Int)*step)).getD []).length<=1000001:=by
   rw[Av _ _ _ _ (hb.sublist (List.take_sublist _ _))];have:=hm ((l.getD k default).Time / step*step-(i:Int)*step);split
   ·simp only[sY,bX,eE]; omega
   ·omega
  rw[aA (by simp only[eE]; omega),bE (by omega) (by omega)]
  congr 3
  ·unfold rE;rw[rD _ _ _ (by omega),ei i (by omega)]
  ·rw[show ((i+1:Nat):Int)*step=(i:Int)*step+step by rw[Int.natCast_add,Int.add_mul]; omega]; omega
 ·have g1:=hmul (Lu len step (l.getD k default).Time) h10;unfold yT;simp only[Tr.den,aR];rw[bE (by omega) (by omega),aE (cB (show ¬ (_>_) from fun h=>absurd ((hc _).2 h) (Nat.lt_irrefl _))),<-hn,dI]
theorem kV{len step:Int}(hs:0<step)(ht:kK l)(hb:inB len step b l≠[]):-len<b/\b<=2199023255552:=by obtain⟨d,hd⟩:=List.exists_mem_of_ne_nil _ hb;obtain⟨h1,h2⟩:=fE.1 hd;obtain⟨h3,h4,h5⟩:=(yI hs).1 (dP h2);have:=ht d h1;omega
theorem Do{len step:Int}(hl:1<=len/\len<=10000)(hs:1<=step/\step<=10000)(ht:kK l)(hn:l.length<=1000):aBR l len step=some (He len step l):=by
 have hs0:0<step:=by omega
 have hln:len<=step*(10000:Nat):=by have:1*10000<=step*10000:=Ud hs.1 (by omega);omega
 have hML:=Qg hs0 hln ht;have hWL:=pO hs0 hln ht;unfold aBR aVN;simp only[Tr.den];have h1:=bB (bd:=fun s=>(Di l len step s).den) (fun k=>(tZ len step (l.take k),(k:Int))) l.length (r:=.inl (tZ len step l)) (fun k hk'=>?_) ?_
 ·refine(congrArg (fun x=>Option.bind x _) h1).trans ?_;simp only[aJ,sel];have hz:aFI (aW ((tZ len step l).map fun p=>(p.1,some p.2)))=true:=by rw[Js];unfold aFI;rw[cI,eJ,fL];refine⟨by unfold aW; rw[bQ]; omega,fun k hk=>bJ ?_⟩;have:=kV hs0 ht ((Qe hs0).1 hk);omega
  rw[aA hz];simp only[aJ];rw[Js];have hnd:=Et len step l;have hwm:∀ b,b∈kL len step l->bF (tZ len step l) b=some (inB len step b l) /\ -len<b/\b<=2199023255552:=fun b hb=>by have h0:=(jW hs0).1 hb;exact⟨by rw[Bc hs0,aE h0],kV hs0 ht h0⟩
  unfold He;change (cK (fun s=>(xM len (kL len step l) s).den) ((tZ len step l).map fun p=>(p.1,some p.2),[],kL len step l,0)).bind _=_;generalize kL len step l=ks at hnd hwm hWL ⊢;have h2:=bB (bd:=fun s=>(xM len ks s).den) (fun k=>(aMQ (ks.take k) (tZ len step l),(ks.take k).map fun b=>(⟨b,b+len,inB len step b l⟩:aL),ks,(k:Int))) ks.length (r:=.inl (ks.map fun b=>(⟨b,b+len,inB len step b l⟩:aL))) (fun k hk'=>?_) ?_
  ·exact(congrArg (fun x=>Option.bind x _) h2).trans rfl
  ·have hm:=hwm _ (aQ hk');have hni:ks.getD k default∉ks.take k:=fun h=>by have h3:=hnd;rw[<-iQ k ks,cU hk',wP]at h3;exact h3.2.2 _ h _ cC rfl
   unfold xM;simp only[Tr.den,aR];rw[aA (bJ (by omega)),aA (by omega),aA hk',aBS,aE hni,hm.1];simp only[pX];rw[aA (by simp only[bQ,cE,eE]; omega),aN (by omega),bE (by omega) (by omega)]
   congr 3
   ·unfold aMQ;rw[rD _ _ _ hk']
   ·rw[aO hk',lR]; rfl
  ·unfold xM;simp only[Tr.den];rw[aE (cB (by omega)),dI]
 ·have hm:=aQ hk';have htd:=ht _ hm;unfold Di;simp only[Tr.den,aR];rw[aA (bJ (by omega)),aA (by omega),aLZ htd.1 hs0 (by omega)];simp only[aJ];have hw:IntKind.i64.wrap ((l.getD k default).Time / step*step)=(l.getD k default).Time / step*step:=by have h0:(l.getD k default).Time / step*step<=(l.getD k default).Time:=Gt _ (by omega);have h00:0<=(l.getD k default).Time / step*step:=Int.mul_nonneg (Int.ediv_nonneg htd.1 (by omega)) (by omega);exact bE (by omega) (by omega)
  rw[hw,aMI l len step k hk' _ hl hs htd fun b=>by rw[aJO hs0]; have:=rH len step b (l.take k); rw[cE]at this; omega];simp only[aJ,sel];rw[aN (by omega)]
  congr 3
  unfold tZ;rw[rD _ _ _ hk']
 ·unfold Di;simp only[Tr.den];rw[aE (cB (by omega)),dI]
theorem Sn:aFU=aBR:=rfl
def jJ(a b:Int):Int:=if b<a then b else a
def xA(step e:Int)(s:List aL)(last:Int)(x:aB):List aL:=
 if s=[]\/x.Time-last>=step then s++[⟨x.Time,jJ (x.Time+step) e,[x]⟩]
 else s.set (s.length-1) ⟨(s.getD (s.length-1) default).begin_,jJ (x.Time+step) e,(s.getD (s.length-1) default).rows_++[x]⟩
def gH(step e:Int)(l:List aB):List aL×Int:=l.foldl (fun p x=>(xA step e p.1 p.2 x,x.Time)) ([],-step)
def ses(step e:Int)(l:List aB):List aL:=(gH step e l).1
theorem aMG{step:Int}{s:List aL}{last:Int}:xA step e s last x≠[]:=by
 unfold xA;split
 ·simp
 ·rename_i h;intro h0;have:=congrArg List.length h0;simp only[Kc,fG]at this;exact h (.inl (sH this))
theorem mN{step:Int}(hk:k<l.length):gH step e (l.take (k+1))=(xA step e (gH step e (l.take k)).1 (gH step e (l.take k)).2 (l.getD k default),(l.getD k default).Time):=by unfold gH; rw[rD _ _ _ hk]
theorem aKL{step:Int}(hk:k<l.length):(gH step e (l.take (k+1))).1≠[]:=by rw[mN hk]; exact aMG
theorem aEO{step:Int}{s:List aL}{last:Int}:(xA step e s last x).length<=s.length+1:=by
 unfold xA;split
 ·rw[bX]; exact cR _
 ·rw[Kc]; omega
theorem Nv(step e:Int)(l:List aB):(ses step e l).length<=l.length:=by
 have:∀ k,k<=l.length->(ses step e (l.take k)).length<=k:=by
  intro k
  induction k with
  | zero=>intro _; simp[ses,gH]
  | succ k ih=>intro hk;have h1:=ih (by omega);unfold ses at h1 ⊢;rw[mN (by omega)];have:=aEO (step:=step) (e:=e) (s:=(gH step e (l.take k)).1) (last:=(gH step e (l.take k)).2) (x:=l.getD k default);simp only; omega
 have h:=this l.length (cR _)
 rwa [dI]at h
theorem Qz(step e:Int)(l:List aB):∀ k,k<=l.length->∀ w,w∈ses step e (l.take k)->w.rows_.length<=k:=by
 intro k
 induction k with
 | zero=>intro _ w hw; simp[ses,gH]at hw
 | succ k ih=>
  intro hk w hw;have h1:=ih (by omega);unfold ses at h1 hw;rw[mN (by omega)]at hw;simp only at hw;unfold xA at hw;split at hw
  ·rcases dH.1 hw with hw | hw
   ·have:=h1 w hw; omega
   ·rw[bY.1 hw]; simp
  ·rename_i hne;rcases Xy hw with hw | hw
   ·have:=h1 w hw; omega
   ·subst hw;have h0:0<(gH step e (l.take k)).1.length:=gR.2 fun h=>hne (.inl h);have:=h1 _ (aQ (show (gH step e (l.take k)).1.length-1<(gH step e (l.take k)).1.length by omega));simp only[bX,eE]; omega
theorem Ha(O s:List α)(w:α)(h:s≠[]):(O++s).set ((O++s).length-1) w=O++s.set (s.length-1) w:=by
 have h0:0<s.length:=gR.2 h;rw[List.set_append,aE (by rw[bX]; omega)]
 congr 2
 rw[bX]; omega
theorem nB[Inhabited α](O s:List α)(h:s≠[]):(O++s).getD ((O++s).length-1) default=s.getD (s.length-1) default:=by
 have h0:0<s.length:=gR.2 h;rw[bH,aE (by rw[bX]; omega)]
 congr 1
 rw[bX]; omega
theorem aOT(n:aG)(r1:List aL)(k:Nat)(O:List aL)(hs:1<=n.Step/\n.Step<=10000)(ht:kK (r1.getD k default).rows_)(hl:(r1.getD k default).rows_.length<=1000)(hO:O.length<=1000000000)(he:-10000<=(r1.getD k default).end_/\(r1.getD k default).end_<=4398046511104):
  cK (fun s=>(xW n r1 (k:Int) s).den) (O,-n.Step,0)=some (.inl (O++ses n.Step (r1.getD k default).end_ (r1.getD k default).rows_)):=by
 generalize hR:(r1.getD k default).rows_=R at ht hl;generalize hE:(r1.getD k default).end_=E at he;have h1:=bB (bd:=fun s=>(xW n r1 (k:Int) s).den) (fun i=>(O++(gH n.Step E (R.take i)).1,(gH n.Step E (R.take i)).2,(i:Int))) R.length (r:=.inl (O++ses n.Step E R)) (fun i hi=>?_) ?_
 ·rw[<-h1];simp[gH]
 ·have hm:=ht _ (aQ hi);have hr:=Qz n.Step E R i (by omega);have hsl:=Nv n.Step E (R.take i);rw[cE]at hsl;have hlast:-10000<=(gH n.Step E (R.take i)).2/\(gH n.Step E (R.take i)).2<=2199023255552:=by
   cases i with
   | zero=>simp only[List.take_zero,gH,List.foldl_nil]; omega
   | succ i=>rw[mN (by omega)]; have:=ht _ (aQ (show i<R.length by omega)); simp only; omega
  have hne:i=0\/(gH n.Step E (R.take i)).1≠[]:=by
   cases i with
   | zero=>exact .inl rfl
   | succ i=>exact .inr (aKL (by omega))
  have he0:i=0->(gH n.Step E (R.take i)).1=[]:=by rintro rfl; rfl
  unfold ses at hr hsl;rw[mN hi];generalize hF:gH n.Step E (R.take i)=F at hr hsl hlast hne he0 ⊢;obtain⟨s,last⟩:=F;simp only at hr hsl hlast hne he0 ⊢;unfold xW;simp only[Tr.den,aR,hR,hE];rw[aA (bJ (by omega)),aA (by omega)];rw[bE (n:=(R.getD i default).Time-last) (by omega) (by omega),bE (n:=(R.getD i default).Time+n.Step) (by omega) (by omega),aN (by omega)];generalize R.getD i default=x at hm ⊢;have hmin:(if E<x.Time+n.Step then E else x.Time+n.Step)=jJ (x.Time+n.Step) E:=rfl;have fin:∀ j:List aL,j≠[]->j.length<=1000001000->(j.getD (j.length-1) default).rows_.length<=1000 ->
    (if 0<=IntKind.i64.wrap ((j.length:Int)-1)/\IntKind.i64.wrap ((j.length:Int)-1)<(j.length:Int) then if (IntKind.i64.wrap ((j.length:Int)-1)).toNat<j.length then if (IntKind.i64.wrap ((j.length:Int)-1)).toNat<j.length/\True/\True then
     if ((j.getD (IntKind.i64.wrap ((j.length:Int)-1)).toNat default).rows_.length+1)*40<=140737488355328 then if (IntKind.i64.wrap ((j.length:Int)-1)).toNat<j.length then if (IntKind.i64.wrap ((j.length:Int)-1)).toNat<j.length then
      some (Sum.inl (α:=List aL×Int×Int) (β:=List aL⊕((List aL×Int)⊕(List aL⊕List aL))) (j.set (IntKind.i64.wrap ((j.length:Int)-1)).toNat ⟨(j.getD (IntKind.i64.wrap ((j.length:Int)-1)).toNat default).begin_,if E<x.Time+n.Step then E else x.Time+n.Step,(j.getD (IntKind.i64.wrap ((j.length:Int)-1)).toNat default).rows_++[x]⟩,x.Time,((i+1:Nat):Int))) else none else none else none else none else none else none) =
    some (.inl (j.set (j.length-1) ⟨(j.getD (j.length-1) default).begin_,jJ (x.Time+n.Step) E,(j.getD (j.length-1) default).rows_++[x]⟩,x.Time,((i+1:Nat):Int))):=fun j hj hj1 hj2=>by
   have h0:0<j.length:=gR.2 hj;have w:IntKind.i64.wrap ((j.length:Int)-1)=((j.length-1:Nat):Int):=by rw[bE (by omega) (by omega)]; omega
   rw[w,aR,aA (by omega),aA (by omega),aA ⟨by omega,trivial,trivial⟩,aA (by omega),aA (by omega),aA (by omega)];rfl
  have hcond:((if ((i:Int)==0)=true then some (O++s,true) else some (O++s,decide (x.Time-last>=n.Step))):Option (List aL×Bool))=some (O++s,decide (s=[]\/x.Time-last>=n.Step)):=by
   by_cases h:i=0
   ·rw[aA (eX (by omega))]
    congr 2
    exact(bJ (.inl (he0 h))).symm
   ·rw[aE (dS (by omega))]
    congr 2
    have h2:=hne.resolve_left h;by_cases h3:x.Time-last>=n.Step
    ·rw[bJ h3,bJ (.inr h3)]
    ·rw[gI h3,gI (fun h'=>h'.elim h2 h3)]
  rw[hcond];simp only[aJ];by_cases hc:s=[]\/x.Time-last>=n.Step
  ·rw[bJ hc];simp only[fJ];rw[aA (by simp only[bX,eE]; omega)];simp only[aJ];have hj:O++s++[(⟨x.Time,0,[]⟩:aL)]≠[]:=by simp
   rw[fin _ hj (by simp only[bX,eE]; omega) (by rw[nB _ _ (by simp)]; simp)];rw[Ha _ _ _ (by simp),nB _ _ (by simp)];unfold xA;rw[aA hc,cL];rfl
  ·rw[gI hc];simp only[dO,dL,aJ];have hs0:s≠[]:=fun h=>hc (.inl h);have h0:0<s.length:=gR.2 hs0;have hrr:=hr _ (aQ (show s.length-1<s.length by omega));rw[fin _ (by simp[hs0]) (by simp only[bX]; omega) (by rw[nB _ _ hs0]; omega)];rw[Ha _ _ _ hs0,nB _ _ hs0];unfold xA;rw[aE hc]
 ·unfold xW;simp only[Tr.den,aR,hR];rw[aE (cB (by omega)),dI];rfl
def Mf(n:aG)(l:List aB):List aL:=(kL n.Size n.Size l).flatMap fun b=>ses n.Step (b+n.Size) (inB n.Size n.Size b l)
theorem aLM{n:aG}(hz:1<=n.Size/\n.Size<=10000)(hs:1<=n.Step/\n.Step<=10000)(ht:kK l)(hn:l.length<=1000):aKU n l=some (Mf n l):=by
 unfold aKU aYF;simp only[Tr.den];rw[Do hz hz ht hn];simp only[aJ];have hz0:0<n.Size:=by omega
 have hWL:=pO (len:=n.Size) (step:=n.Size) (c:=1) hz0 (by omega) ht;have hwm:∀ b,b∈kL n.Size n.Size l -> -n.Size<b/\b<=2199023255552:=fun b hb=>kV hz0 ht ((jW hz0).1 hb);unfold He Mf;generalize kL n.Size n.Size l=ks at hWL hwm ⊢;have hFl:∀ r:List Int,(r.flatMap fun b=>ses n.Step (b+n.Size) (inB n.Size n.Size b l)).length<=r.length*1000:=fun r=>by
  induction r with
  | nil=>simp
  | cons b r ih=>have h1:=Nv n.Step (b+n.Size) (inB n.Size n.Size b l);have h2:=rH n.Size n.Size b l;rw[fH,bX,dA]; omega
 have h1:=bB (bd:=fun s=>(Eb n (ks.map fun b=>(⟨b,b+n.Size,inB n.Size n.Size b l⟩:aL)) s).den) (fun k=>((ks.take k).flatMap fun b=>ses n.Step (b+n.Size) (inB n.Size n.Size b l),(k:Int))) ks.length (r:=.inl (ks.flatMap fun b=>ses n.Step (b+n.Size) (inB n.Size n.Size b l))) (fun k hk=>?_) ?_
 ·exact(congrArg (fun x=>Option.bind x _) h1).trans rfl
 ·unfold Eb;simp only[Tr.den,bQ];have e0:(ks.map fun b=>(⟨b,b+n.Size,inB n.Size n.Size b l⟩:aL)).getD k default=⟨ks.getD k default,ks.getD k default+n.Size,inB n.Size n.Size (ks.getD k default) l⟩:=by rw[bL (by rw[bQ]; exact hk),Gm,<-bL hk]
  have hb:=hwm _ (aQ hk);have h2:=rH n.Size n.Size (ks.getD k default) l;have h3:=hFl (ks.take k);rw[cE]at h3;rw[aA (bJ (by omega)),aA (by omega),show IntKind.i64.wrap (0-n.Step) = -n.Step by rw[bE] <;> omega];rw[aOT n _ k _ hs (by rw[e0]; exact fun d hd=>ht d (fE.1 hd).1) (by rw[e0]; simp only; omega) (by omega) (by rw[e0]; simp only; omega),e0];simp only[aJ,sel];rw[aN (by omega),aO hk,qX,nC]
 ·unfold Eb;simp only[Tr.den,bQ];rw[aE (cB (by omega)),dI]
def nH(g:jR)(l:List aB):Nat->aF×Int
 | 0=>(⟨0,0,⟨#[]⟩⟩,0)
 | k+1=>
  if g.Kind=0 then ((nH g l k).1,W ((nH g l k).2+(l.getD k default).N))
  else (if k=0\/(g.Kind=2/\mB ((l.getD k default).Row.getD g.Col.toNat default) (nH g l k).1<0)\/(g.Kind=3/\mB ((l.getD k default).Row.getD g.Col.toNat default) (nH g l k).1>0) then (l.getD k default).Row.getD g.Col.toNat default else (nH g l k).1,
   W ((nH g l k).2+W ((l.getD k default).N*((l.getD k default).Row.getD g.Col.toNat default).N)))
def aAE(g:jR)(l:List aB):aF:=if g.Kind=0\/g.Kind=1 then vI (nH g l l.length).2 else (nH g l l.length).1
theorem aLE{g:jR}(hc:g.Kind=0\/∀ d,d∈l->0<=g.Col/\g.Col<d.Row.length)(hn:l.length<=1000000):aTD g l=some (aAE g l):=by
 unfold aTD aTG;simp only[Tr.den];have h1:=bB (bd:=fun s=>(Dz g l s).den) (fun k=>((nH g l k).1.Kind,(nH g l k).1.N,(nH g l k).1.S,(nH g l k).2,(k:Int))) l.length (r:=.inl ((nH g l l.length).1.Kind,(nH g l l.length).1.N,(nH g l l.length).1.S,(nH g l l.length).2)) (fun k hk=>?_) ?_
 ·refine(congrArg (fun x=>Option.bind x _) h1).trans ?_;simp only[aJ,sel];unfold aAE;by_cases h0:g.Kind=0
  ·rw[aA (eX h0),aA (.inl h0)];simp only[aJ,fJ,yS]
  ·rw[aE (dS h0)];simp only[aJ];by_cases h2:g.Kind=1
   ·rw[aA (eX h2),aA (.inr h2)];simp only[yS,aJ]
   ·rw[aE (dS h2),aE (fun h=>h.elim h0 h2)]
 ·unfold Dz;simp only[Tr.den,aR];rw[aA (bJ (by omega)),aA (by omega),aN (by omega)];by_cases h0:g.Kind=0
  ·rw[aA (eX h0)];simp only[aJ];rw[show nH g l (k+1)=((nH g l k).1,W ((nH g l k).2+(l.getD k default).N)) by rw[nH,aA h0]]
  ·rw[aE (dS h0),aA ((hc.resolve_left h0) _ (aQ hk)),yN];simp only[aJ];have eP:=show nH g l (k+1)=_ by rw[nH,aE h0]
   rw[eP];generalize nH g l k=p at *
   generalize (l.getD k default).Row.getD g.Col.toNat default=v at *
   obtain⟨⟨b1,b2,b3⟩,nn⟩:=p;simp only;have hcond:((if ((k:Int)==0)=true then some true else if (g.Kind==2)=true then if decide (mB v ⟨b1,b2,b3⟩<0)=true then some true else if (g.Kind==3)=true then some (decide (mB v ⟨b1,b2,b3⟩>0)) else some false else if (g.Kind==3)=true then some (decide (mB v ⟨b1,b2,b3⟩>0)) else some false):Option Bool) =
     some (decide (k=0\/(g.Kind=2/\mB v ⟨b1,b2,b3⟩<0)\/(g.Kind=3/\mB v ⟨b1,b2,b3⟩>0))):=by
    by_cases q0:k=0
    ·rw[aA (eX (by omega)),bJ (.inl q0)]
    ·rw[aE (dS (by omega))];by_cases q2:g.Kind=2
     ·rw[aA (eX q2),aE (dS (show g.Kind≠3 by omega))];by_cases q3:mB v ⟨b1,b2,b3⟩<0
      ·rw[aA (bJ q3),bJ (.inr (.inl ⟨q2,q3⟩))]
      ·rw[aE (cB q3),gI (fun h=>by omega)]
     ·rw[aE (dS q2)];by_cases q3:g.Kind=3
      ·rw[aA (eX q3)];by_cases q4:mB v ⟨b1,b2,b3⟩>0
       ·rw[bJ q4,bJ (.inr (.inr ⟨q3,q4⟩))]
       ·rw[gI q4,gI (fun h=>by omega)]
      ·rw[aE (dS q3),gI (fun h=>by omega)]
   rw[hcond];simp only[aJ];by_cases q:k=0\/(g.Kind=2/\mB v ⟨b1,b2,b3⟩<0)\/(g.Kind=3/\mB v ⟨b1,b2,b3⟩>0)
   ·rw[bJ q,aA q];simp only[fJ,aJ]
   ·rw[gI q,aE q];simp only[dO,dL,aJ]
 ·unfold Dz;simp only[Tr.den];rw[aE (cB (by omega))]
structure Ep (n:aG):Prop where
 size:1<=n.Size/\n.Size<=10000
 kind:n.Kind=0\/(n.Kind=1/\1<=n.Step/\n.Step<=10000)\/(n.Kind=2/\1<=n.Step/\n.Step<=10000)
 key:n.Key.length<=20
 aggs:n.Aggs.length<=20
def Kv(n:aG)(l:List aB):Prop:=∀ g,g∈n.Aggs->g.Kind=0\/∀ d,d∈l->0<=g.Col/\g.Col<d.Row.length
theorem Kv.sub{n:aG}{r:List aB}(h:Kv n l)(hs:∀ x,x∈r->x∈l):Kv n r:=fun g hg=>(h g hg).imp id fun h d hd=>h d (hs d hd)
def oS(n:aG)(l:List aB):List aL:=if n.Kind=0 then He n.Size n.Size l else if n.Kind=1 then He n.Size n.Step l else Mf n l
def sE(n:aG)(l:List aB)(w:aL):aB:=⟨w.end_-1,(nT n (l.getD 0 default).Row++[vI w.begin_])++n.Aggs.map fun g=>aAE g w.rows_,1⟩
def jT(n:aG)(ks:List ByteArray)(l:List aB):List aB:=ks.flatMap fun k=>(oS n (ofK n 0 k l)).map (sE n (ofK n 0 k l))
structure aYK (l:List aB)(w:aL):Prop where
 sub:∀ d,d∈w.rows_->d∈l
 len:w.rows_.length<=l.length
 e:-10000<=w.end_/\w.end_<=4398046511104
theorem Yk{len step:Int}(hl:1<=len/\len<=10000)(hs:0<step)(ht:kK l):∀ w,w∈He len step l->aYK l w:=fun w hw=>by obtain⟨b,hb,rfl⟩:=dC.1 hw;have:=kV hs ht ((jW hs).1 hb);exact⟨fun d hd=>(fE.1 hd).1,rH _ _ _ _,by simp only; omega,by simp only; omega⟩
theorem aTJ{step:Int}(hs:1<=step/\step<=10000)(ht:kK l)(he:-10000<=e/\e<=4398046511104):∀ k,k<=l.length->∀ w,w∈ses step e (l.take k)->(∀ d,d∈w.rows_->d∈l) /\ -10000<=w.end_/\w.end_<=4398046511104:=by
 intro k
 induction k with
 | zero=>intro _ w hw; simp[ses,gH]at hw
 | succ k ih=>
  intro hk w hw;have h1:=ih (by omega);have hm:=aQ (show k<l.length by omega);have htm:=ht _ hm;have hmin:-10000<=jJ ((l.getD k default).Time+step) e/\jJ ((l.getD k default).Time+step) e<=4398046511104:=by unfold jJ; split <;> omega
  unfold ses at h1 hw;rw[mN (by omega)]at hw;simp only at hw;unfold xA at hw;split at hw
  ·rcases dH.1 hw with hw | hw
   ·exact h1 w hw
   ·rw[bY.1 hw];exact⟨fun d hd=>by rw[bY.1 hd]; exact hm,hmin⟩
  ·rename_i hne;rcases Xy hw with hw | hw
   ·exact h1 w hw
   ·subst hw;have h0:0<(gH step e (l.take k)).1.length:=gR.2 fun h=>hne (.inl h);have:=h1 _ (aQ (show (gH step e (l.take k)).1.length-1<(gH step e (l.take k)).1.length by omega));exact⟨fun d hd=>(dH.1 hd).elim (this.1 d) fun h=>by rw[bY.1 h]; exact hm,hmin⟩
theorem aKA{n:aG}(hz:1<=n.Size/\n.Size<=10000)(hs:1<=n.Step/\n.Step<=10000)(ht:kK l):∀ w,w∈Mf n l->aYK l w:=fun w hw=>by obtain⟨b,hb,hw⟩:=nF.1 hw;have hr:=kV (show 0<n.Size by omega) ht ((jW (show 0<n.Size by omega)).1 hb);have hsub:∀ d,d∈inB n.Size n.Size b l->d∈l:=fun d hd=>(fE.1 hd).1;have h1:=aTJ (l:=inB n.Size n.Size b l) (e:=b+n.Size) hs (fun d hd=>ht d (hsub d hd)) (by omega) _ (cR _) w (by rw[dI]; exact hw);have h2:=Qz n.Step (b+n.Size) (inB n.Size n.Size b l) _ (cR _) w (by rw[dI]; exact hw);have h3:=rH n.Size n.Size b l;exact⟨fun d hd=>hsub d (h1.1 d hd),by omega,h1.2⟩
theorem Rs{len step:Int}(hl:1<=len/\len<=10000)(hs:1<=step/\step<=10000)(ht:kK l):(He len step l).length<=l.length*10000:=by unfold He;rw[bQ];refine pO (by omega) ?_ ht;have:1*10000<=step*10000:=Ud hs.1 (by omega);omega
theorem aHJ{n:aG}(hz:1<=n.Size/\n.Size<=10000)(ht:kK l)(hn:l.length<=1000):(Mf n l).length<=l.length*1000:=by
 have hWL:=pO (len:=n.Size) (step:=n.Size) (c:=1) (show 0<n.Size by omega) (by omega) ht;unfold Mf;generalize kL n.Size n.Size l=ks at hWL;have:∀ r:List Int,(r.flatMap fun b=>ses n.Step (b+n.Size) (inB n.Size n.Size b l)).length<=r.length*1000:=fun r=>by
  induction r with
  | nil=>simp
  | cons b r ih=>have h1:=Nv n.Step (b+n.Size) (inB n.Size n.Size b l);have h2:=rH n.Size n.Size b l;rw[fH,bX,dA]; omega
 have h:=this ks;omega
theorem Zs{n:aG}(hn:Ep n)(ht:kK l):∀ w,w∈oS n l->aYK l w:=by
 have hz:=hn.size;unfold oS;rcases hn.kind with h | ⟨h,hs⟩ | ⟨h,hs⟩
 ·rw[aA h]; exact Yk hz (by omega) ht
 ·rw[aE (by omega),aA h]; exact Yk hz (by omega) ht
 ·rw[aE (by omega),aE (by omega)]; exact aKA hz hs ht
theorem xI{n:aG}(hn:Ep n)(ht:kK l)(hl:l.length<=1000):(oS n l).length<=10000000:=by
 have hz:=hn.size;unfold oS;rcases hn.kind with h | ⟨h,hs⟩ | ⟨h,hs⟩
 ·rw[aA h]; have:=Rs hz hz ht; omega
 ·rw[aE (by omega),aA h]; have:=Rs hz hs ht; omega
 ·rw[aE (by omega),aE (by omega)]; have:=aHJ hz ht hl; omega
theorem aLT(n:aG)(j6:List aL)(k:Nat)(v:List aB)(row:List aF)(ha:n.Aggs.length<=20)(hr:row.length<=1000)(hw:(j6.getD k default).rows_.length<=1000000)(hc:Kv n (j6.getD k default).rows_):
  cK (fun s=>(yF n j6 (k:Int) s).den) (v,row,0)=some (.inl (v,row++n.Aggs.map fun g=>aAE g (j6.getD k default).rows_)):=by
 have h1:=bB (bd:=fun s=>(yF n j6 (k:Int) s).den) (fun i=>(v,row++(n.Aggs.take i).map fun g=>aAE g (j6.getD k default).rows_,(i:Int))) n.Aggs.length (r:=.inl (v,row++n.Aggs.map fun g=>aAE g (j6.getD k default).rows_)) (fun i hi=>?_) ?_
 ·rw[<-h1]; simp
 ·unfold yF;simp only[Tr.den,aR];rw[aA (bJ (by omega)),aA (by omega),aLE (hc _ (aQ hi)) hw];simp only[aJ];rw[aA (by simp only[bX,bQ,cE,eE]; omega),aN (by omega),aO hi,lR,<-cL];rfl
 ·unfold yF;simp only[Tr.den];rw[aE (cB (by omega)),dI]
theorem aPC{n:aG}(hn:Ep n)(h:okI n 0 l)(ha:Kv n l)(hl:l.length<=1000):aVA n l=some (jT n (cS (aW (bW n 0 l))) l):=by
 have hz:=hn.size;have hkl:=hn.key;have hml:=jG n 0 l;have hks:(cS (aW (bW n 0 l))).length<=1000:=by rw[jP]; unfold aW; rw[bQ]; omega
 have hne:∀ k,k∈cS (aW (bW n 0 l))->ofK n 0 k l≠[]:=fun k hk=>rI.1 ((nG _).mem_iff.1 hk);have hsub:∀ k,∀ x,x∈ofK n 0 k l->x∈l:=fun k x hx=>(jX.1 hx).1;have hkt:∀ k,kK (ofK n 0 k l):=fun k d hd=>h.t d (hsub k d hd);have hkn:∀ k,(ofK n 0 k l).length<=1000:=fun k=>by have:=iU n 0 k l; omega
 unfold aVA aYE;simp only[Tr.den];rw[Nt h hkl (by omega)];simp only[aJ];generalize hKS:cS (aW (bW n 0 l))=ks at hks hne ⊢;have hFl:∀ r:List ByteArray,(jT n r l).length<=r.length*10000000:=fun r=>by
  induction r with
  | nil=>simp[jT]
  | cons k r ih=>have h1:=xI hn (hkt k) (hkn k);unfold jT at ih ⊢;rw[fH,bX,bQ,dA]; omega
 have h1:=bB (bd:=fun s=>(Dr n (ks.map fun k=>ofK n 0 k l) s).den) (fun k=>(jT n (ks.take k) l,(k:Int))) ks.length (r:=.inl (jT n ks l)) (fun k hk=>?_) ?_
 ·exact(congrArg (fun x=>Option.bind x _) h1).trans rfl
 ·unfold Dr;simp only[Tr.den,aR,bQ];have e0:(ks.map fun k=>ofK n 0 k l).getD k default=ofK n 0 (ks.getD k default) l:=by rw[bL (by rw[bQ]; exact hk),Gm,<-bL hk]
  have h3:=hFl (ks.take k);rw[cE]at h3;have hR:=hne _ (aQ hk);rw[aA (bJ (by omega)),aA (by omega)];have hW:((if (n.Kind==0)=true then (aBR ((ks.map fun k=>ofK n 0 k l).getD k default) n.Size n.Size).bind fun r=>some (jT n (ks.take k) l,r) else
    (if (n.Kind==1)=true then (aBR ((ks.map fun k=>ofK n 0 k l).getD k default) n.Size n.Step).bind fun r=>some (jT n (ks.take k) l,r) else
     (if (n.Kind==2)=true then (aKU n ((ks.map fun k=>ofK n 0 k l).getD k default)).bind fun r=>some (jT n (ks.take k) l,r) else some (jT n (ks.take k) l,[])).bind fun v=>some (v.1,v.2)).bind fun v=>some (v.1,v.2)):Option (List aB×List aL))=some (jT n (ks.take k) l,oS n (ofK n 0 (ks.getD k default) l)):=by
   rw[e0];unfold oS;rcases hn.kind with h | ⟨h,hs⟩ | ⟨h,hs⟩
   ·rw[aA (eX h),aA h,Do hz hz (hkt _) (hkn _)]; rfl
   ·rw[aE (dS (by omega)),aA (eX h),aE (by omega),aA h,Do hz hs (hkt _) (hkn _)]; rfl
   ·rw[aE (dS (by omega)),aE (dS (by omega)),aA (eX h),aE (by omega),aE (by omega),aLM hz hs (hkt _) (hkn _)]; rfl
  refine(congrArg (fun x=>Option.bind x _) hW).trans ?_;simp only[aJ];have hok:=Zs hn (hkt (ks.getD k default));have hwl:=xI hn (hkt (ks.getD k default)) (hkn _);have e1:jT n (ks.take (k+1)) l=jT n (ks.take k) l++(oS n (ofK n 0 (ks.getD k default) l)).map (sE n (ofK n 0 (ks.getD k default) l)):=by unfold jT;rw[aO hk,qX,nC]
  rw[e1];generalize jT n (ks.take k) l=out at h3 ⊢;generalize hw:oS n (ofK n 0 (ks.getD k default) l)=ws at hok hwl ⊢;have h2:=bB (bd:=fun s=>(Dt n (ks.map fun k=>ofK n 0 k l) (k:Int) ws s).den) (fun i=>(out++(ws.take i).map (sE n (ofK n 0 (ks.getD k default) l)),(i:Int))) ws.length (r:=.inl (out++ws.map (sE n (ofK n 0 (ks.getD k default) l)))) (fun i hi=>?_) ?_
  ·rw[show (out,(0:Int))=(out++(ws.take 0).map (sE n (ofK n 0 (ks.getD k default) l)),((0:Nat):Int)) by simp,h2];simp only[aJ,sel];rw[aN (by omega)]
  ·unfold Dt;simp only[Tr.den,aR];have hm:=aQ hi;have h0:0<(ofK n 0 (ks.getD k default) l).length:=gR.2 hR;have hr0:=aQ h0;have hol:=hok _ hm;have holl:=hol.len;have hkk:=hkn (ks.getD k default);rw[aA (bJ (by omega)),aA (by omega),aA (by rw[e0]; omega),e0];rw[show (0:Int).toNat=0 from rfl,Jl _ n (h.c _ (hsub _ _ hr0)) (by omega)];simp only[aJ,yS];have hkp:=Qy n ((ofK n 0 (ks.getD k default) l).getD 0 default).Row;rw[aA (by omega)];rw[aLT n ws i _ _ hn.aggs (by simp only[bX,eE]; omega) (by omega) (ha.sub fun d hd=>hsub _ d (hol.sub d hd))];simp only[aJ,sel];have hoe:=hol.e;rw[aA (by simp only[bX,bQ,cE,eE]; omega),aN (by omega),bE (by omega) (by omega),aO hi,lR,<-cL];rfl
  ·unfold Dt;simp only[Tr.den];rw[aE (cB (by omega)),dI]
 ·unfold Dr;simp only[Tr.den,bQ];rw[aE (cB (by omega)),dI]
theorem uA{K:Type}(p:Pl->Bool)(f:K->List aB):∀ ks:List K,wt p (ks.flatMap f)=jC (fun k=>wt p (f k)) ks
 | []=>rfl
 | k::ks=>by rw[fH,gE,uA p f ks]; rfl
theorem Gf{K:Type}{f:K->Int}:∀ {ks:List K},(∀ k,k∈ks->f k=0)->jC f ks=0
 | [],_=>rfl
 | k::ks,h=>by simp only[jC];rw[h k cC,Gf fun k hk=>h k (cH _ hk)]; rfl
theorem jM{K:Type}{f g:K->Int}:∀ {ks:List K},(∀ k,k∈ks->f k=g k)->jC f ks=jC g ks
 | [],_=>rfl
 | k::ks,h=>by simp only[jC];rw[h k cC,jM fun k hk=>h k (cH _ hk)]
theorem Jp{K:Type}{f:K->Int}{k:K}:∀ {ks:List K},ks.Nodup->(∀ x,x∈ks->x≠k->f x=0)->(k∉ks->f k=0)->jC f ks=f k
 | [],_,_,h=>(h (by simp)).symm
 | x::ks,hn,h0,h1=>by
  have hn:=oP.1 hn;simp only[jC];by_cases hx:x=k
  ·subst hx;rw[Gf fun y hy=>h0 y (cH _ hy) fun e=>hn.1 (e▸hy)]; omega
  ·rw[h0 x cC hx,Jp hn.2 (fun y hy=>h0 y (cH _ hy)) fun hk=>h1 fun h=>(aU.1 h).elim (fun e=>hx e.symm) hk]; omega
section
variable (n:aG) (len step:Int) (g:Int->List aB->List aB)
def yQ(ks:List ByteArray)(l:List aB):List aB:=ks.flatMap fun k=>(kL len step (ofK n 0 k l)).flatMap fun b=>g b (inB len step b (ofK n 0 k l))
theorem aLP(p:Pl->Bool)(ks:List ByteArray)(l:List aB):wt p (yQ n len step g ks l)=jC (fun k=>jC (fun b=>wt p (g b (inB len step b (ofK n 0 k l)))) (kL len step (ofK n 0 k l))) ks:=by unfold yQ;rw[uA];exact jM fun k _=>uA _ _ _
variable {n len step g}
theorem Cx(hs:0<step)(hg:∀ b,g b []=[]){B:Int}(hB:∀ b r,b≠B->step∣b->(∀ x,x∈r->b<=x.Time/\x.Time<b+len)->∀ x,x∈g b r->x.Time≠t){p:Pl->Bool}(hp:∀ y,p y=true->y.1=t)(ks:List ByteArray)(l:List aB):
  wt p (yQ n len step g ks l)=jC (fun k=>wt p (g B (inB len step B (ofK n 0 k l)))) ks:=by
 rw[aLP];refine jM fun k _=>?_;refine Jp (Et _ _ _) (fun b hb hne=>?_) fun h=>?_
 ·refine vL fun y hy=>?_;have h0:step∣b:=lS fun h=>(jW hs).1 hb (by rw[wI hs,aE h]);have h1:=hB b _ hne h0 (fun x hx=>by have:=dP (fE.1 hx).2;exact((yI hs).1 this).2) y hy;cases hc:p (pl y) with
  | false=>rfl
  | true=>exact absurd (hp _ hc) h1
 ·have:inB len step B (ofK n 0 k l)=[]:=lS fun h'=>h ((jW hs).2 h');rw[this,hg]; rfl
end
theorem wV{f:ByteArray->Int}{n:aG}{l':List aB}(hs:∀ x,x∈l'->x∈l)(h0:∀ k,ofK n 0 k l'=[]->f k=0):jC f (cS (aW (bW n 0 l')))=jC f (cS (aW (bW n 0 l))):=by
 have nd:∀ l,(cS (aW (bW n 0 l))).Nodup:=fun l=>(nG _).nodup_iff.2 ((Ji n 0 l).nodup LO.bytes);have mm:∀ l k,k∈cS (aW (bW n 0 l))↔ofK n 0 k l≠[]:=fun l k=>by rw[(nG _).mem_iff,rI]
 refine aGU (nd l) (nd l') (fun k hk=>?_) fun k hk=>?_
 ·rw[mm]at hk ⊢;intro h;refine hk (Au.2 fun d hd=>?_);exact Au.1 h d (hs d hd)
 ·rw[mm]at hk;exact h0 k (lS hk)
theorem Sk:aJQ=aNA:=rfl
def rZ(tm:Int):Int->List aB->List aB
 | _,[]=>[]
 | left,x::l=>⟨tm,x.Row,jJ left x.N⟩::rZ tm (left-jJ left x.N) l
def sG:Int->List aB->Int
 | left,[]=>left
 | left,x::l=>sG (left-jJ left x.N) l
theorem Rj(tm:Int):∀ (l r:List aB) (left:Int),rZ tm left (l++r)=rZ tm left l++rZ tm (sG left l) r
 | [],_,_=>rfl
 | x::l,r,left=>by rw[rU,rZ,rZ,Rj tm l r]; rfl
theorem Oy:∀ (l r:List aB) (left:Int),sG left (l++r)=sG (sG left l) r
 | [],_,_=>rfl
 | x::l,r,left=>by rw[rU,sG,sG,Oy l r]
theorem zA(tm:Int):∀ (l:List aB) (left:Int),(rZ tm left l).length=l.length
 | [],_=>rfl
 | x::l,left=>by rw[rZ,dA,zA tm l,dA]
theorem Zm:∀ (l:List aB) (left:Int),(∀ d,d∈l->0<=d.N)->0<=left->0<=sG left l/\sG left l<=left
 | [],left,_,h=>⟨h,Int.le_refl _⟩
 | x::l,left,h,h0=>by
  have hx:=h x cC;have hm:0<=jJ left x.N/\jJ left x.N<=left:=by unfold jJ; split <;> omega
  have:=Zm l (left-jJ left x.N) (fun d hd=>h d (cH _ hd)) (by omega);rw[sG]; omega
structure aAP (n:aG):Prop where
 size:1<=n.Size/\n.Size<=10000
 keep:1<=n.Keep/\n.Keep<=100
 key:n.Key.length<=20
def Cr(n:aG)(S:List aB->List aB)(b:Int)(l:List aB):List aB:=rZ (b+n.Size-1) n.Keep (S l)
def oQ(n:aG)(S:List aB->List aB)(ks:List ByteArray)(l:List aB):List aB:=yQ n n.Size n.Size (Cr n S) ks l
theorem aQQ(v9:List aL)(i:Nat)(hi:i<v9.length)(r out:List aB)(v8:List (List aB))(keep:Int)(hk:1<=keep/\keep<=100)(hN:∀ d,d∈r->0<=d.N/\d.N<=1000)(hr:r.length<=1000)(ho:out.length<=10000000000)(he:-10000<=(v9.getD i default).end_/\(v9.getD i default).end_<=4398046511104):
  cK (fun s=>(yJ v9 (i:Int) r s).den) (out,keep,v8,0)=some (.inl (out++rZ ((v9.getD i default).end_-1) keep r,v8,v9.set i ⟨(v9.getD i default).begin_,(v9.getD i default).end_,r⟩)):=by
 have h1:=bB (bd:=fun s=>(yJ v9 (i:Int) r s).den) (fun k=>(out++rZ ((v9.getD i default).end_-1) keep (r.take k),sG keep (r.take k),v8,(k:Int))) r.length (r:=.inl (out++rZ ((v9.getD i default).end_-1) keep r,v8,v9.set i ⟨(v9.getD i default).begin_,(v9.getD i default).end_,r⟩)) (fun k hk'=>?_) ?_
 ·rw[<-h1]; simp[rZ,sG]
 ·have hs:=Zm (r.take k) keep (fun d hd=>(hN d (El hd)).1) (by omega);have hx:=hN _ (aQ hk');have hm:0<=jJ (sG keep (r.take k)) (r.getD k default).N/\jJ (sG keep (r.take k)) (r.getD k default).N<=sG keep (r.take k):=by unfold jJ; split <;> omega
  unfold yJ;simp only[Tr.den,aR];rw[aA (bJ (by omega)),aA (by omega),aA hk',bE (n:=(v9.getD i default).end_-1) (by omega) (by omega)];rw[aA (by simp only[bX,zA,cE,eE]; omega),aN (by omega)];change some (Sum.inl (_,IntKind.i64.wrap (sG keep (r.take k)-jJ (sG keep (r.take k)) (r.getD k default).N),_,_))=_;rw[bE (by omega) (by omega),aO hk',Rj,Oy,<-cL];rfl
 ·unfold yJ;simp only[Tr.den,aR];rw[aE (cB (by omega)),dI]
theorem aMD{n:aG}(hn:aAP n)(h:okI n 0 l)(hN:∀ d,d∈l->0<=d.N/\d.N<=1000)(hl:l.length<=1000){S:List aB->List aB}(hS:∀ r,r.Sublist l->Gr r n=some (S r)/\(S r).Perm r):
  aXH n l=some (oQ n S (cS (aW (bW n 0 l))) l):=by
 have hz:=hn.size;have hz0:0<n.Size:=by omega
 have hkp:=hn.keep;have hkl:=hn.key;have hml:=jG n 0 l;have hks:(cS (aW (bW n 0 l))).length<=1000:=by rw[jP]; unfold aW; rw[bQ]; omega
 have hsl:∀ k,(ofK n 0 k l).Sublist l:=fun k=>nI;have hsub:∀ k,∀ x,x∈ofK n 0 k l->x∈l:=fun k x hx=>(hsl k).subset hx;have hkt:∀ k,kK (ofK n 0 k l):=fun k d hd=>h.t d (hsub k d hd);have hkn:∀ k,(ofK n 0 k l).length<=1000:=fun k=>by have:=iU n 0 k l; omega
 have hSl:∀ r,r.Sublist l->(S r).length<=1000:=fun r hr=>by rw[(hS r hr).2.length_eq]; have:=hr.length_le; omega
 have hwb:∀ k,(kL n.Size n.Size (ofK n 0 k l)).length<=1000:=fun k=>by have:=pO (len:=n.Size) (step:=n.Size) (c:=1) hz0 (by omega) (hkt k);have:=hkn k;omega
 unfold aXH aSW;simp only[Tr.den];rw[Sk,Nt h hkl (by omega)];simp only[aJ];generalize hKS:cS (aW (bW n 0 l))=ks at hks ⊢;have hil:∀ k b,(inB n.Size n.Size b (ofK n 0 k l)).Sublist l:=fun k b=>List.Sublist.trans nI (hsl k);have hFk:∀ k (r:List Int),(r.flatMap fun b=>Cr n S b (inB n.Size n.Size b (ofK n 0 k l))).length<=r.length*1000:=fun k r=>by
  induction r with
  | nil=>simp
  | cons b r ih=>have:=hSl _ (hil k b);unfold Cr at ih ⊢;rw[fH,bX,zA,dA]; omega
 have hFl:∀ r:List ByteArray,(oQ n S r l).length<=r.length*1000000:=fun r=>by
  induction r with
  | nil=>simp[oQ,yQ]
  | cons k r ih=>have h1:=hFk k (kL n.Size n.Size (ofK n 0 k l));have h2:=hwb k;unfold oQ yQ at ih ⊢;rw[fH,bX,dA]; omega
 have h1:=bB (bd:=fun s=>(Dy n (ks.map fun k=>ofK n 0 k l) s).den) (fun k=>(oQ n S (ks.take k) l,ks.map fun k=>ofK n 0 k l,(k:Int))) ks.length (r:=.inl (oQ n S ks l)) (fun k hk=>?_) ?_
 ·exact(congrArg (fun x=>Option.bind x _) h1).trans rfl
 ·unfold Dy;simp only[Tr.den,aR,bQ];have e0:(ks.map fun k=>ofK n 0 k l).getD k default=ofK n 0 (ks.getD k default) l:=by rw[bL (by rw[bQ]; exact hk),Gm,<-bL hk]
  have h3:=hFl (ks.take k);rw[cE]at h3;rw[aA (bJ (by omega)),aA (by omega),aA hk,e0,Sn,Do hz hz (hkt _) (hkn _)];simp only[aJ];have e1:oQ n S (ks.take (k+1)) l=oQ n S (ks.take k) l++(kL n.Size n.Size (ofK n 0 (ks.getD k default) l)).flatMap fun b=>Cr n S b (inB n.Size n.Size b (ofK n 0 (ks.getD k default) l)):=by unfold oQ yQ;rw[aO hk,qX,nC]
  have hF2:=hFk (ks.getD k default);have hil2:=hil (ks.getD k default);have hwm:∀ b,b∈kL n.Size n.Size (ofK n 0 (ks.getD k default) l) -> -n.Size<b/\b<=2199023255552:=fun b hb=>kV hz0 (hkt _) ((jW hz0).1 hb);have hb2:=hwb (ks.getD k default);rw[e1];unfold He;generalize oQ n S (ks.take k) l=out at h3 ⊢;generalize kL n.Size n.Size (ofK n 0 (ks.getD k default) l)=bs at hwm hb2 ⊢;generalize ofK n 0 (ks.getD k default) l=L at hF2 hil2 ⊢;have h2:=bB (bd:=fun s=>(Dp n (ks.map fun k=>ofK n 0 k l) (k:Int) (bs.map fun b=>(⟨b,b+n.Size,inB n.Size n.Size b L⟩:aL)) s).den)
   (fun i=>(out++(bs.take i).flatMap (fun b=>Cr n S b (inB n.Size n.Size b L)),ks.map fun k=>ofK n 0 k l,(bs.take i).map (fun b=>(⟨b,b+n.Size,S (inB n.Size n.Size b L)⟩:aL))++(bs.drop i).map (fun b=>(⟨b,b+n.Size,inB n.Size n.Size b L⟩:aL)),(i:Int))) bs.length
   (r:=.inl (out++bs.flatMap (fun b=>Cr n S b (inB n.Size n.Size b L)),ks.map fun k=>ofK n 0 k l)) (fun i hi=>?_) ?_
  ·simp only[List.take_zero,List.flatMap_nil,eU,xG,oU,List.drop_zero]at h2;refine(congrArg (fun x=>Option.bind x _) h2).trans ?_;simp only[aJ,sel];rw[aN (by omega)]
  ·have hm:=hwm _ (aQ hi);have hSi:=hS _ (hil2 (bs.getD i default));have hSl2:=hSl _ (hil2 (bs.getD i default));have hFi:=hF2 (bs.take i);rw[cE]at hFi;have hla:((bs.take i).map (fun b=>(⟨b,b+n.Size,S (inB n.Size n.Size b L)⟩:aL))).length=i:=by rw[bQ,cE]; omega
   have hlb:((bs.take i).map (fun b=>(⟨b,b+n.Size,S (inB n.Size n.Size b L)⟩:aL))++(bs.drop i).map (fun b=>(⟨b,b+n.Size,inB n.Size n.Size b L⟩:aL))).length=bs.length:=by rw[bX,hla,bQ,fC]; omega
   have hg:((bs.take i).map (fun b=>(⟨b,b+n.Size,S (inB n.Size n.Size b L)⟩:aL))++(bs.drop i).map (fun b=>(⟨b,b+n.Size,inB n.Size n.Size b L⟩:aL))).getD i default=⟨bs.getD i default,bs.getD i default+n.Size,inB n.Size n.Size (bs.getD i default) L⟩:=by rw[bH,aE (by omega),hla,sP,cU hi]; rfl
   unfold Dp;simp only[Tr.den,aR,bQ];rw[aA (bJ (by omega)),aA (by omega),aA (by omega),aA ⟨by omega,by simp⟩,hg,hSi.1];simp only[aJ];rw[aQQ _ i (by omega) _ _ _ _ hkp (fun d hd=>hN d ((hil2 _).subset (hSi.2.mem_iff.1 hd))) hSl2 (by rw[bX]; omega) (by rw[hg]; simp only; omega)];simp only[aJ,sel];rw[aN (by omega),hg]
   congr 3
   ·rw[aO hi,qX,nC,<-cL]; rfl
   ·congr 2
    rw[List.set_append,aE (by omega),hla,sP,cU hi,fI,List.set_cons_zero,aO hi,lR,cL];rfl
  ·unfold Dp;simp only[Tr.den,bQ];rw[aE (cB (by omega)),dI]
 ·unfold Dy;simp only[Tr.den,bQ];rw[aE (cB (by omega)),dI]
end Go.PL
namespace Go.PL.St
open Go Go.PL
set_option linter.unusedVariables false
set_option maxRecDepth 20000
variable {a i j k w:Nat} {l:List aB}
def vT(nd:aG)(d:aB):aF:=d.Row.getD nd.Step.toNat default
abbrev kT (nd:aG)(d:aB):aF×Pl:=(vT nd d,pl d)
def aHH(a b:aF×Pl):Int:=fW (mB b.1 a.1) (Ux a.2 b.2)
theorem TO.flip{α:Type}{c:α->α->Int}(h:TO c):TO (fun x y=>c y x):=⟨fun a b=>by rw[h.eq]; exact eq_comm,fun a b=>h.sw b a,fun a b d h1 h2=>h.tr d b a h2 h1⟩
theorem TO.key:TO aHH:=TO.lex (f:=fun x:aF×Pl=>x.1) (g:=fun x=>x.2) (TO.flip TO.val) TO.place (fun _ _ h1 h2=>Prod.ext h1 h2)
def ltL(nd:aG)(a b:aB):Bool:=decide (aHH (kT nd a) (kT nd b)<0)
theorem iV(nd:aG):Sort.SWO (ltL nd):=by
 constructor
 ·intro x; simp[ltL,(TO.key.eq (kT nd x) (kT nd x)).2 rfl]
 ·intro x y z h1 h2;simp only[ltL,decide_eq_true_eq]at *
  exact TO.key.tr _ _ _ h1 h2
 ·intro x y z h1 h2;simp only[ltL]at h1 h2 ⊢;have h1:=of_decide_eq_false h1;have h2:=of_decide_eq_false h2;refine decide_eq_false fun h3=>?_;have s1:=TO.key.sw (kT nd x) (kT nd y);have s2:=TO.key.sw (kT nd y) (kT nd z);have s3:=TO.key.sw (kT nd y) (kT nd x);have s4:=TO.key.sw (kT nd z) (kT nd y);have s5:=TO.key.sw (kT nd x) (kT nd z);have s6:=TO.key.sw (kT nd z) (kT nd x);by_cases h4:aHH (kT nd x) (kT nd y)=0
  ·rw[(TO.key.eq _ _).1 h4]at h3; exact h2 h3
  ·by_cases h5:aHH (kT nd y) (kT nd z)=0
   ·rw[<-(TO.key.eq _ _).1 h5]at h3; exact h1 h3
   ·have:=TO.key.tr (kT nd z) (kT nd y) (kT nd x) (by omega) (by omega);omega
theorem Ai{nd:aG}{x y:aB}(h:ltL nd x y=true):ltL nd y x=false:=by
 cases hh:ltL nd y x with
 | false=>rfl
 | true=>have:=(iV nd).trans _ _ _ h hh;rw[(iV nd).irrefl]at this; cases this
theorem Ow{nd:aG}{a b:aB}(h:dF b a<0):decide (mB (vT nd b) (vT nd a)<0)=ltL nd a b:=by
 unfold ltL aHH fW;by_cases h0:mB (vT nd b) (vT nd a)=0
 ·rw[if_pos h0,h0];have h1:0<Ux (kT nd a).2 (kT nd b).2:=by
   have:=xY.2 h
   rwa [vQ]at this
  rw[decide_eq_false (by omega),decide_eq_false (by omega)]
 ·rw[if_neg h0]
abbrev okT (nd:aG)(d:aB):Prop:=0<=nd.Step/\nd.Step<d.Row.length
def okTs(nd:aG)(l:List aB):Prop:=∀ x,x∈l->okT nd x
theorem okTs.get{nd:aG}(h:okTs nd l)(hk:k<l.length):okT nd (l.getD k default):=h _ (aQ hk)
theorem okTs.perm{nd:aG}{r:List aB}(h:okTs nd l)(hp:l.Perm r):okTs nd r:=fun x hx=>h x (hp.mem_iff.2 hx)
theorem pT{a b:aB}{nd:aG}(ha:okT nd a)(hb:okT nd b):Sj a b nd=some (mB (vT nd b) (vT nd a)):=by unfold Sj Un;simp only[Tr.den];rw[if_pos hb,if_pos ha,yN]; rfl
def Bef(A B:List aB):Prop:=∀ x,x∈A->∀ y,y∈B->dF x y<0
section
variable {nd:aG}
theorem aIQ(nd:aG)(a a2 v2:Int)(an:Nat)(ha:a=an):∀ (j:Nat) (l:List aB),okTs nd l->(∀ k,an<=k->k<j->dF (l.getD k default) (l.getD j default)<0)->j<l.length->l.length<=1000000000000000 ->
  cK (fun s=>(mQ a a2 nd v2 s).den) (l,(j:Int))=some (.inl (Sort.insInner (ltL nd) an j l.toArray).toList):=by
 intro j
 induction j with
 | zero=>intro l hl hD hj hn;refine fY ?_;unfold mQ;simp only[Tr.den];rw[if_neg (by simp; omega)];simp[Sort.insInner]
 | succ j ih=>
  intro l hl hD hj hn;have e1:IntKind.i64.wrap (((j+1:Nat):Int)-1)=(j:Int):=tW (by omega);by_cases hc:an<j+1
  ·have hDj:=hD j (by omega) (by omega);cases hd:(ltL nd) (l.getD (j+1) default) (l.getD j default) with
   | false=>refine fY ?_;unfold mQ;simp only[Tr.den];rw[e1];rw[if_pos (by simp; omega),if_pos (by omega),if_pos (by simpa using hj),if_pos (by omega),if_pos (by simp; omega)];simp only[Int.toNat_natCast];rw[pT (hl.get (k:=j+1) hj) (hl.get (k:=j) (by omega))];simp only[Option.bind_some];rw[Ow hDj,hd];simp only[Bool.false_eq_true,if_false];unfold Sort.insInner;rw[fX,fX,hd];simp
   | true=>
    rw[lO (s':=(pL l (j+1) j,(j:Int)))]
    ·have h2:=ih (pL l (j+1) j) (hl.perm (uZ l hj (by omega)).symm) (fun k k1 k2=>by have h4:=hD k k1 (by omega);unfold pL;rw[jA,if_neg (by omega),jA,if_neg (by omega),jA,if_pos ⟨rfl,by simp; omega⟩];exact h4) (by rw[sI]; omega) (by rw[sI]; exact hn);rw[h2,tT]
     conv=>rhs; unfold Sort.insInner
     rw[fX,fX,hd];simp[hc]
    ·unfold mQ;simp only[Tr.den];rw[e1];rw[if_pos (by simp; omega),if_pos (by omega),if_pos (by simpa using hj),if_pos (by omega),if_pos (by simp; omega)];simp only[Int.toNat_natCast];rw[pT (hl.get (k:=j+1) hj) (hl.get (k:=j) (by omega))];simp only[Option.bind_some];rw[Ow hDj,hd];simp only[if_true];rw[if_pos (by omega),if_pos (by omega),if_pos (by omega),if_pos (by omega),if_pos (by omega),if_pos (by omega),if_pos (by omega),if_pos (by omega),if_pos (by simp; omega)];rfl
  ·refine fY ?_;unfold mQ;simp only[Tr.den];rw[if_neg (by simp; omega)];simp only[Option.bind_some,Bool.false_eq_true,if_false];unfold Sort.insInner;simp[hc]
theorem aZD(nd:aG)(a:Nat):∀ (j:Nat) (l:List aB),j<l.length->∀ k,(j<k\/k<a->(Sort.insInner (ltL nd) a j l.toArray).toList.getD k default=l.getD k default) /\
  (a<=k->k<=j->∃ k',a<=k'/\k'<=j/\(Sort.insInner (ltL nd) a j l.toArray).toList.getD k default=l.getD k' default):=by
 intro j
 induction j with
 | zero=>intro l _ k; exact⟨fun _=>rfl,fun h1 h2=>⟨k,h1,h2,rfl⟩⟩
 | succ j ih=>
  intro l hj k;unfold Sort.insInner;split
  ·rename_i hc;simp only[Bool.and_eq_true,decide_eq_true_eq]at hc;rw[<-tT];obtain⟨h1,h2⟩:=ih (pL l (j+1) j) (by rw[sI]; omega) k;have g:∀ q,(pL l (j+1) j).getD q default=if q=j then l.getD (j+1) default else if q=j+1 then l.getD j default else l.getD q default:=fun q=>by
    unfold pL;rw[jA];by_cases q1:q=j
    ·subst q1; rw[if_pos ⟨rfl,by simp; omega⟩,if_pos rfl]
    ·rw[if_neg (by omega),if_neg q1,jA];by_cases q2:q=j+1
     ·subst q2; rw[if_pos ⟨rfl,by omega⟩,if_pos rfl]
     ·rw[if_neg (by omega),if_neg q2]
   refine⟨fun h=>?_,fun q1 q2=>?_⟩
   ·rw[h1 (by omega),g,if_neg (by omega),if_neg (by omega)]
   ·by_cases q3:k=j+1
    ·subst q3;exact⟨j,by omega,by omega,by rw[h1 (by omega),g,if_neg (by omega),if_pos rfl]⟩
    ·obtain⟨k',r1,r2,r3⟩:=h2 q1 (by omega);rw[g]at r3;by_cases q4:k'=j
     ·rw[if_pos q4]at r3; exact⟨j+1,by omega,by omega,r3⟩
     ·rw[if_neg q4,if_neg (by omega)]at r3; exact⟨k',r1,by omega,r3⟩
  ·exact⟨fun _=>rfl,fun h1 h2=>⟨k,h1,h2,rfl⟩⟩
theorem Sa(nd:aG)(a b:Nat)(n:Nat):∀ (i:Nat) (l:List aB),b-i=n->a<i->b<=l.length->l.length<=1000000000000000->okTs nd l->(∀ k m,a<=k->k<m->i<=m->m<b->dF (l.getD k default) (l.getD m default)<0) ->
  cK (fun s=>(vN (a:Int) (b:Int) nd s).den) (l,(i:Int))=some (.inl (Sort.insOuter (ltL nd) a b i l.toArray).toList):=by
 induction n with
 | zero=>intro i l hi ha hb hn hl hD;refine fY ?_;unfold vN;simp only[Tr.den];rw[if_neg (by simp; omega),Sort.insOuter,if_neg (by omega)]
 | succ n ih=>
  intro i l hi ha hb hn hl hD;have h1:=aIQ nd (a:Int) (b:Int) (i:Int) a rfl i l hl (fun k k1 k2=>hD k i k1 k2 (Nat.le_refl _) (by omega)) (by omega) hn;have hp:=(Sort.insInner_spec (iV nd) Sort.swp_permIn Sort.permIn_refl Sort.permIn_trans 0 b i (by omega));have hlen:(Sort.insInner (ltL nd) a i l.toArray).size=l.length:=by
   have:∀ (j:Nat) (d:Array aB),(Sort.insInner (ltL nd) a j d).size=d.size:=by
    intro j
    induction j with
    | zero=>intro d; rfl
    | succ j ih=>intro d; unfold Sort.insInner; split <;> simp[ih,Sort.swp_size]
   rw[this]; simp
  have hperm:(Sort.insInner (ltL nd) a i l.toArray).toList.Perm l:=by
   have:∀ (j:Nat) (d:Array aB),j<d.size->(Sort.insInner (ltL nd) a j d).toList.Perm d.toList:=by
    intro j
    induction j with
    | zero=>intro d _; exact .refl _
    | succ j ih=>
     intro d hd;unfold Sort.insInner;split
     ·refine(ih _ (by rw[Sort.swp_size]; omega)).trans ?_;have e:=tT d.toList (j+1) j;rw[Array.toArray_toList]at e;rw[<-e];exact uZ d.toList (i:=j+1) (j:=j) (by simpa using hd) (by simp; omega)
     ·exact .refl _
   simpa using this i l.toArray (by simp; omega)
  rw[lO (s':=((Sort.insInner (ltL nd) a i l.toArray).toList,((i+1:Nat):Int)))]
  ·rw[ih (i+1) _ (by omega) (by omega) (by simp[hlen]; omega) (by simp[hlen]; omega) (hl.perm hperm.symm) (fun k m m1 m2 m3 m4=>by
    have hm:=fun q=>aZD nd a i l (by omega) q;rw[(hm m).1 (.inl (by omega))];by_cases q1:k<=i
    ·obtain⟨k',r1,r2,r3⟩:=(hm k).2 m1 q1;rw[r3]; exact hD k' m r1 (by omega) (by omega) m4
    ·rw[(hm k).1 (.inl (by omega))]; exact hD k m m1 m2 (by omega) m4)]
   conv=>rhs; rw[Sort.insOuter,if_pos (by omega)]
  ·unfold vN;simp only[Tr.den];rw[if_pos (by simp; omega),h1];simp only[Option.bind_some,sel];rw[aN (by omega)]
theorem aBP(nd:aG)(a b:Nat)(l:List aB)(hb:b<=l.length)(hab:a<=b)(hn:l.length<=1000000000000000)(hl:okTs nd l)(hD:∀ k m,a<=k->k<m->m<b->dF (l.getD k default) (l.getD m default)<0):Ly (a:Int) (b:Int) l nd=some (Sort.insertionSort (ltL nd) l.toArray a b).toList:=by unfold Ly Uz;simp only[Tr.den];rw[aN (by omega),Sa nd a b _ (a+1) l rfl (by omega) hb hn hl (fun k m k1 k2 _ k4=>hD k m k1 k2 k4)];rfl
theorem aUU(a1 a2 a3:Int)(s:List aB×Int):(zY a1 a2 a3 s).den=(mK a1 a2 a3 s).den:=by obtain⟨x,y⟩:=s;unfold mK zY;simp only[Tr.den]
theorem Yd(nd:aG)(a1 a2 a3:Int)(l:List aB):Sd a1 a2 a3 l nd=Fj a1 a2 a3 l:=by unfold Fj Sd Kz Tk;simp only[Tr.den,aUU]
theorem aVW(nd:aG)(a2:Int)(s:List aB×Int×Int):(Bd a2 nd s).den=(vJ a2 s).den:=by obtain⟨x,y,z⟩:=s;unfold vJ Bd;simp only[Tr.den,Yd]
theorem aMX(nd:aG)(a1 a2 a3:Int)(l:List aB):Ur a1 a2 a3 l nd=wH a1 a2 a3 l:=by unfold wH Ur Lt Ua;simp only[Tr.den,aVW,Yd]
theorem aRY(b:Int)(s:List aB×Int):(zZ b s).den=(kW b s).den:=by obtain⟨x,y⟩:=s;unfold kW zZ;simp only[Tr.den]
theorem aVI(b:Int)(s:List aB×Int):(Ac b s).den=(lI b s).den:=by obtain⟨x,y⟩:=s;unfold lI Ac;simp only[Tr.den]
def Srt(nd:aG)(l:List aB):Prop:=l.Pairwise (fun x y=>(ltL nd) y x=false)
theorem Srt.app{r:List aB}:Srt nd (l++r)↔Srt nd l/\Srt nd r/\∀ x,x∈l->∀ y,y∈r->(ltL nd) y x=false:=by unfold Srt; rw[List.pairwise_append]
theorem Srt.get(h:Srt nd l)(hij:i<=j)(hj:j<l.length):(ltL nd) (l.getD j default) (l.getD i default)=false:=by
 rcases Nat.lt_or_eq_of_le hij with h1 | h1
 ·rw[bL hj,bL (show i<l.length by omega)];exact List.pairwise_iff_getElem.1 h i j (by omega) hj h1
 ·subst h1; exact(iV nd).irrefl _
theorem rC(h:∀ i j,i<j->j<l.length->(ltL nd) (l.getD j default) (l.getD i default)=false):Srt nd l:=by
 unfold Srt;rw[List.pairwise_iff_getElem];intro i j hi hj hij;have:=h i j hij hj
 rwa [bL hj,bL hi]at this
def gQ(nd:aG)(P A B Q:List aB):Int×Int×Int×List aB×aG:=((P.length:Int),((P.length+A.length:Nat):Int),((P.length+A.length+B.length:Nat):Int),P++(A++(B++Q)),nd)
def aXG(nd:aG)(a:Int×Int×Int×List aB×aG):Prop:=∃ P A B Q,a=gQ nd P A B Q/\Bef A B/\A≠[]/\B≠[]/\Srt nd A/\Srt nd B/\okTs nd (P++(A++(B++Q)))/\(P++(A++(B++Q))).length<=1000000000000000
def aSQ(nd:aG)(a:Int×Int×Int×List aB×aG)(d:List aB):Prop:=∀ P A B Q,a=gQ nd P A B Q->∃ C,d=P++(C++Q)/\C.Perm (A++B)/\Srt nd C
theorem zX{P A B Q P' A' B' Q':List aB}(h:gQ nd P A B Q=gQ nd P' A' B' Q'):P=P'/\A=A'/\B=B'/\Q=Q':=by unfold gQ at h;simp only[Prod.mk.injEq]at h;obtain⟨h1,h2,h3,h4,_⟩:=h;obtain⟨e1,h5⟩:=List.append_inj h4 (by omega);obtain⟨e2,h6⟩:=List.append_inj h5 (by omega);obtain⟨e3,e4⟩:=List.append_inj h6 (by omega);exact⟨e1,e2,e3,e4⟩
theorem Tt{A:List aB}(h:Srt nd A){h':Nat}(hk:k<=h')(hh:h' < A.length)(x:aB)(hp:(ltL nd) (A.getD h' default) x=true):(ltL nd) (A.getD k default) x=true:=by
 have:=h.get hk hh;cases hc:(ltL nd) (A.getD k default) x with
 | true=>rfl
 | false=>rw[<-hp];exact((iV nd).ntrans _ _ _ this hc).symm
theorem Lj{A:List aB}(h:Srt nd A){h':Nat}(hk:k<=h')(hh:h' < A.length)(x:aB)(hp:(ltL nd) x (A.getD h' default)=false):(ltL nd) x (A.getD k default)=false:=by exact(iV nd).ntrans _ _ _ hp (h.get hk hh)
section
variable (b:Bool) (P A B Q:List aB)
theorem Fq(x:aB)(hb:Bef [x] B)(hB:Srt nd B)(ho:okTs nd (P++x::(B++Q)))(hn:(P++x::(B++Q)).length<=1000000000000000):
  Sq b (cK (fun s=>(uY (P.length:Int) (P++x::(B++Q)) nd s).den) (((P.length+1:Nat):Int),((P.length+1+B.length:Nat):Int)))
   (sel (fun r:Int=>∃ n:Nat,r=((P.length+1+n:Nat):Int)/\n<=B.length/\(∀ k,k<n->(ltL nd) (B.getD k default) x=true)/\(∀ k,n<=k->k<B.length->(ltL nd) (B.getD k default) x=false)) (fun _=>False)):=by
 simp only[List.length_append,List.length_cons]at hn;have hL:(P++x::(B++Q)).length=P.length+1+B.length+Q.length:=by simp; omega
 have e1:(P++x::(B++Q)).getD P.length default=x:=by rw[bH,if_neg (by omega)]; simp
 have e2:∀ k,k<B.length->(P++x::(B++Q)).getD (P.length+1+k) default=B.getD k default:=by intro k hk;rw[bH,if_neg (by omega),show P.length+1+k-P.length=k+1 by omega,List.getD_cons_succ,bH,if_pos hk]
 refine(Kk b _ (fun h=>(ltL nd) ((P++x::(B++Q)).getD h default) x) (P.length+1) (P.length+1+B.length) (by omega) (fun i j h1 h2 h3=>?_) (fun i h1 h2=>?_) (fun h k h1 h2 h3 h4=>?_)).imp ?_
 ·unfold uY;simp only[Tr.den];rw[pA (by omega)];simp only[Int.toNat_natCast];rw[hL];rw[if_pos (by simp; omega),if_pos (by omega),if_pos (by omega),if_pos (by omega),if_pos (by omega)];rw[pT (ho.get (k:=(i+j) / 2) (by omega)) (ho.get (k:=P.length) (by omega)),e1];simp only[Option.bind_some];rw[Ow (nd:=nd) (a:=(P++x::(B++Q)).getD ((i+j) / 2) default) (b:=x) (by rw[show (i+j) / 2=P.length+1+((i+j) / 2-(P.length+1)) by omega,e2 _ (by omega)];exact hb x (by simp) _ (aQ (by omega)))];cases (ltL nd) ((P++x::(B++Q)).getD ((i+j) / 2) default) x with
  | true=>simp only[if_true,Option.bind_some]; rw[aN (by omega)]
  | false=>simp only[Bool.false_eq_true,if_false,Option.bind_some]
 ·unfold uY;simp only[Tr.den];rw[if_neg (by simp)]
 ·obtain⟨k',rfl⟩:∃ k',k=P.length+1+k':=⟨k-(P.length+1),by omega⟩;obtain⟨h',rfl⟩:∃ h',h=P.length+1+h':=⟨h-(P.length+1),by omega⟩;rw[e2 _ (by omega)]at h4 ⊢;exact Tt hB (by omega) (by omega) x h4
 ·intro z hz;cases z with
  | inr z=>exact hz
  | inl z=>
   obtain⟨n,rfl,h1,h2,h3,h4⟩:=hz;refine⟨n-(P.length+1),by omega,by omega,fun k hk=>?_,fun k hk1 hk2=>?_⟩
   ·rw[<-e2 k (by omega)]; exact h3 _ (by omega) (by omega)
   ·rw[<-e2 k hk2]; exact h4 _ (by omega) (by omega)
theorem Ae(y:aB)(hb:Bef A [y])(hA:Srt nd A)(ho:okTs nd (P++(A++y::Q)))(hn:(P++(A++y::Q)).length<=1000000000000000):
  Sq b (cK (fun s=>(uX ((P.length+A.length:Nat):Int) (P++(A++y::Q)) nd s).den) ((P.length:Int),((P.length+A.length:Nat):Int)))
   (sel (fun r:Int=>∃ n:Nat,r=((P.length+n:Nat):Int)/\n<=A.length/\(∀ k,k<n->(ltL nd) y (A.getD k default)=false)/\(∀ k,n<=k->k<A.length->(ltL nd) y (A.getD k default)=true)) (fun _=>False)):=by
 simp only[List.length_append,List.length_cons]at hn;have hL:(P++(A++y::Q)).length=P.length+A.length+1+Q.length:=by simp; omega
 have e1:(P++(A++y::Q)).getD (P.length+A.length) default=y:=by rw[bH,if_neg (by omega),bH,if_neg (by omega)]; simp
 have e2:∀ k,k<A.length->(P++(A++y::Q)).getD (P.length+k) default=A.getD k default:=by intro k hk;rw[bH,if_neg (by omega),show P.length+k-P.length=k by omega,bH,if_pos hk]
 refine(Kk b _ (fun h=>!(ltL nd) y ((P++(A++y::Q)).getD h default)) P.length (P.length+A.length) (by omega) (fun i j h1 h2 h3=>?_) (fun i h1 h2=>?_) (fun h k h1 h2 h3 h4=>?_)).imp ?_
 ·unfold uX;simp only[Tr.den];rw[pA (by omega)];simp only[Int.toNat_natCast];rw[hL];rw[if_pos (by simp; omega),if_pos (by omega),if_pos (by omega),if_pos (by omega),if_pos (by omega)];rw[pT (ho.get (k:=P.length+A.length) (by omega)) (ho.get (k:=(i+j) / 2) (by omega)),e1];simp only[Option.bind_some];rw[Ow (nd:=nd) (a:=y) (b:=(P++(A++y::Q)).getD ((i+j) / 2) default) (by rw[show (i+j) / 2=P.length+((i+j) / 2-P.length) by omega,e2 _ (by omega)];exact hb _ (aQ (by omega)) y (by simp))];cases (ltL nd) y ((P++(A++y::Q)).getD ((i+j) / 2) default) with
  | true=>simp
  | false=>simp; rw[bE] <;> omega
 ·unfold uX;simp only[Tr.den];rw[if_neg (by simp)]
 ·obtain⟨k',rfl⟩:∃ k',k=P.length+k':=⟨k-P.length,by omega⟩;obtain⟨h',rfl⟩:∃ h',h=P.length+h':=⟨h-P.length,by omega⟩;rw[e2 _ (by omega)]at h4 ⊢;simp only[Bool.not_eq_true']at h4 ⊢;exact Lj hA (by omega) (by omega) y h4
 ·intro z hz;cases z with
  | inr z=>exact hz
  | inl z=>
   obtain⟨n,rfl,h1,h2,h3,h4⟩:=hz;refine⟨n-P.length,by omega,by omega,fun k hk=>?_,fun k hk1 hk2=>?_⟩
   ·have:=h3 (P.length+k) (by omega) (by omega);rw[e2 k (by omega)]at this; simpa using this
   ·have:=h4 (P.length+k) (by omega) (by omega);rw[e2 k hk2]at this; simpa using this
end
theorem Srt.take{l:List aB}(h:Srt nd l)(n:Nat):Srt nd (l.take n):=List.Pairwise.sublist (List.take_sublist _ _) h
theorem Srt.drop{l:List aB}(h:Srt nd l)(n:Nat):Srt nd (l.drop n):=List.Pairwise.sublist (List.drop_sublist _ _) h
theorem yM{x:aB}{n:Nat}(h:Srt nd l)(h1:∀ k,k<n->k<l.length->(ltL nd) x (l.getD k default)=false)(h2:∀ k,n<=k->k<l.length->(ltL nd) (l.getD k default) x=false):Srt nd (l.take n++x::l.drop n):=by
 rw[show x::l.drop n=[x]++l.drop n from rfl,Srt.app,Srt.app];refine⟨h.take n,⟨List.pairwise_singleton _ _,h.drop n,fun a ha y hy=>?_⟩,fun a ha y hy=>?_⟩
 ·simp only[List.mem_singleton]at ha;subst ha;obtain⟨k,h3,h4,rfl⟩:=dN hy;exact h2 k h3 h4
 ·obtain⟨k,h3,h4,rfl⟩:=dV ha;simp only[List.mem_append,List.mem_singleton]at hy;rcases hy with rfl | hy
  ·exact h1 k h3 h4
  ·obtain⟨k',h5,h6,rfl⟩:=dN hy;exact h.get (by omega) h6
theorem aDH{A B:List aB}(hA:Srt nd A)(hB:Srt nd B){u v:Nat}(hu:u<=A.length)(hv:v<=B.length)
  (h1:0<u->v<B.length->(ltL nd) (B.getD v default) (A.getD (u-1) default)=false)(h2:0<v->u<A.length->(ltL nd) (A.getD u default) (B.getD (v-1) default)=false)
  {C D:List aB}(hC:C.Perm (A.take u++B.take v))(hD:D.Perm (A.drop u++B.drop v))(sC:Srt nd C)(sD:Srt nd D):Srt nd (C++D)/\(C++D).Perm (A++B):=by
 constructor
 ·rw[Srt.app];refine⟨sC,sD,fun x hx y hy=>?_⟩;have hx:=hC.mem_iff.1 hx;have hy:=hD.mem_iff.1 hy;rw[List.mem_append]at hx hy;rcases hx with hx | hx
  ·obtain⟨i,i1,i2,rfl⟩:=dV hx;rcases hy with hy | hy
   ·obtain⟨j,j1,j2,rfl⟩:=dN hy;exact hA.get (by omega) j2
   ·obtain⟨j,j1,j2,rfl⟩:=dN hy;exact(iV nd).ntrans _ _ _ (hB.get j1 j2) ((iV nd).ntrans _ _ _ (h1 (by omega) (by omega)) (hA.get (i:=i) (j:=u-1) (by omega) (by omega)))
  ·obtain⟨i,i1,i2,rfl⟩:=dV hx;rcases hy with hy | hy
   ·obtain⟨j,j1,j2,rfl⟩:=dN hy;exact(iV nd).ntrans _ _ _ (hA.get j1 j2) ((iV nd).ntrans _ _ _ (h2 (by omega) (by omega)) (hB.get (i:=i) (j:=v-1) (by omega) (by omega)))
   ·obtain⟨j,j1,j2,rfl⟩:=dN hy;exact hB.get (by omega) j2
 ·refine(hC.append hD).trans ?_;have e:(A++B).Perm (A.take u++(A.drop u++(B.take v++B.drop v))):=by rw[List.take_append_drop,<-List.append_assoc,List.take_append_drop]
  refine List.Perm.trans ?_ e.symm;rw[List.append_assoc];refine List.Perm.append_left _ ?_;rw[<-List.append_assoc,<-List.append_assoc];exact List.Perm.append_right _ List.perm_append_comm
section
variable (b:Bool) (P A B Q:List aB)
theorem Fp(hAB:Bef A B)(hA:Srt nd A)(hB:Srt nd B)(ho:okTs nd (P++(A++(B++Q))))(hn:(P++(A++(B++Q))).length<=1000000000000000)(i0 j0:Nat)(mid:Nat)(hmid:mid=(P.length+(P.length+A.length+B.length)) / 2)
  (h1:P.length<=i0)(h2:i0<=j0)(h3:j0<=P.length+A.length)(h4:j0<=mid)(h5:mid<=B.length+i0):
  Sq b (cK (fun s=>(pW (P.length:Int) ((P.length+A.length:Nat):Int) ((P.length+A.length+B.length:Nat):Int) (P++(A++(B++Q))) nd s).den) ((i0:Int),(j0:Int)))
   (sel (fun r:Int=>∃ n:Nat,r=(n:Int)/\i0<=n/\n<=j0/\(∀ c,i0<=c->c<n->(ltL nd) (B.getD (mid-1-c) default) (A.getD (c-P.length) default)=false)/\(∀ c,n<=c->c<j0->(ltL nd) (B.getD (mid-1-c) default) (A.getD (c-P.length) default)=true)) (fun _=>False)):=by
 simp only[List.length_append]at hn;have hL:(P++(A++(B++Q))).length=P.length+A.length+B.length+Q.length:=by simp; omega
 have e1:∀ k,P.length<=k->k<P.length+A.length->(P++(A++(B++Q))).getD k default=A.getD (k-P.length) default:=by intro k k1 k2;rw[bH,if_neg (by omega),bH,if_pos (by omega)]
 have e2:∀ k,P.length+A.length<=k->k<P.length+A.length+B.length->(P++(A++(B++Q))).getD k default=B.getD (k-(P.length+A.length)) default:=by
  intro k k1 k2;rw[bH,if_neg (by omega),bH,if_neg (by omega),bH,if_pos (by omega)]
  congr 1; omega
 refine(Kk b _ (fun c=>!(ltL nd) (B.getD (mid-1-c) default) (A.getD (c-P.length) default)) i0 j0 h2 (fun i j q1 q2 q3=>?_) (fun i q1 q2=>?_) (fun h k q1 q2 q3 q4=>?_)).imp ?_
 ·unfold pW;simp only[Tr.den];rw[pA (i:=P.length) (j:=P.length+A.length+B.length) (by omega),<-hmid,pA (i:=i) (j:=j) (by omega)];have w1:IntKind.i64.wrap (IntKind.i64.wrap (IntKind.i64.wrap ((mid:Int)+((P.length+A.length:Nat):Int))-1)-(((i+j) / 2:Nat):Int))=((mid+(P.length+A.length)-1-(i+j) / 2:Nat):Int):=by rw[dQ (by omega),bE (n:=((mid+(P.length+A.length):Nat):Int)-1) (by omega) (by omega),bE (by omega) (by omega)];omega
  rw[w1];simp only[Int.toNat_natCast];rw[hL];rw[if_pos (by simp; omega),if_pos (by omega),if_pos (by omega),if_pos (by omega),if_pos (by omega)];rw[pT (ho.get (k:=mid+(P.length+A.length)-1-(i+j) / 2) (by omega)) (ho.get (k:=(i+j) / 2) (by omega))];simp only[Option.bind_some];rw[e1 ((i+j) / 2) (by omega) (by omega),e2 (mid+(P.length+A.length)-1-(i+j) / 2) (by omega) (by omega),show mid+(P.length+A.length)-1-(i+j) / 2-(P.length+A.length)=mid-1-(i+j) / 2 by omega];rw[Ow (nd:=nd) (a:=B.getD (mid-1-(i+j) / 2) default) (b:=A.getD ((i+j) / 2-P.length) default) (hAB _ (aQ (by omega)) _ (aQ (by omega)))];cases (ltL nd) (B.getD (mid-1-(i+j) / 2) default) (A.getD ((i+j) / 2-P.length) default) with
  | true=>simp
  | false=>simp; rw[bE] <;> omega
 ·unfold pW;simp only[Tr.den];rw[if_neg (by simp)]
 ·simp only[Bool.not_eq_true']at q4 ⊢;exact(iV nd).ntrans _ _ _ (hB.get (i:=mid-1-h) (j:=mid-1-k) (by omega) (by omega)) ((iV nd).ntrans _ _ _ q4 (hA.get (i:=k-P.length) (j:=h-P.length) (by omega) (by omega)))
 ·intro z hz;cases z with
  | inr z=>exact hz
  | inl z=>obtain⟨n,rfl,q1,q2,q3,q4⟩:=hz;refine⟨n,rfl,q1,q2,fun c c1 c2=>by simpa using q3 c c1 c2,fun c c1 c2=>by simpa using q4 c c1 c2⟩
end
theorem aUE(b:Bool)(f:Te)(P A B Q:List aB)(hAB:Bef A B)(hA0:A≠[])(hB0:B≠[])(hA:Srt nd A)(hB:Srt nd B)(ho:okTs nd (P++(A++(B++Q))))(hn:(P++(A++(B++Q))).length<=1000000000000000)
  (hrec:∀ P' A' B' Q',Bef A' B'->A'≠[]->B'≠[]->Srt nd A'->Srt nd B'->okTs nd (P'++(A'++(B'++Q')))->(P'++(A'++(B'++Q'))).length<=1000000000000000->A'.length+B'.length<A.length+B.length ->
   Sq b (f.1 (gQ nd P' A' B' Q')) (fun d=>∃ C,d=P'++(C++Q')/\C.Perm (A'++B')/\Srt nd C)):
  Sq b (Ba f (P.length:Int) ((P.length+A.length:Nat):Int) ((P.length+A.length+B.length:Nat):Int) (P++(A++(B++Q))) nd).den (fun d=>∃ C,d=P++(C++Q)/\C.Perm (A++B)/\Srt nd C):=by
 have hA1:0<A.length:=List.length_pos_iff.2 hA0;have hB1:0<B.length:=List.length_pos_iff.2 hB0;have hn':=hn;simp only[List.length_append]at hn;have hL:(P++(A++(B++Q))).length=P.length+A.length+B.length+Q.length:=by simp; omega
 unfold Ba;simp only[Tr.den,aRY,aVI,aMX];rw[eT (n:=P.length+A.length) (m:=P.length) (by omega) (by omega),eT (n:=P.length+A.length+B.length) (m:=P.length+A.length) (by omega) (by omega)];by_cases c1:A.length=1
 ·obtain⟨x,rfl⟩:=List.length_eq_one_iff.1 c1;rw[if_pos (by simp)];simp only[List.singleton_append,List.length_singleton]at *
  refine Sq.bind _ (Fq b P B Q x hAB hB ho hn') (fun z hz=>?_);cases z with
  | inr z=>exact hz.elim
  | inl z=>
   obtain⟨n,rfl,h1,h2,h3⟩:=hz;simp only[sel];have hb:B++Q=B.take n++(B.drop n++Q):=by rw[<-List.append_assoc,List.take_append_drop]
   rw[hb,aDN P (B.take n) (B.drop n++Q) x _ (by simp; omega) (by rw[<-hb]; exact hn')];simp only[Option.bind_some,sel];refine aC.2 ⟨B.take n++x::B.drop n,by simp,?_,yM hB (fun k k1 k2=>Ai (h2 k k1)) h3⟩;rw[List.perm_middle.congr_left,List.take_append_drop]
 ·rw[if_neg (by simp; omega)];by_cases c2:B.length=1
  ·obtain⟨y,rfl⟩:=List.length_eq_one_iff.1 c2;rw[if_pos (eX (by simp))];simp only[List.singleton_append,List.length_singleton]at *
   refine Sq.bind _ (Ae b P A Q y hAB hA ho hn') (fun z hz=>?_);cases z with
   | inr z=>exact hz.elim
   | inl z=>
    obtain⟨n,rfl,h1,h2,h3⟩:=hz;simp only[sel];have hb:P++(A++y::Q)=(P++A.take n)++(A.drop n++y::Q):=by rw[List.append_assoc,<-List.append_assoc (A.take n),List.take_append_drop]
    rw[hb,Qt (P++A.take n) (A.drop n) Q y _ _ (by simp; omega) (by simp; omega) (by rw[<-hb]; exact hn')];simp only[Option.bind_some,sel];refine aC.2 ⟨A.take n++y::A.drop n,by simp,?_,yM hA (fun k k1 k2=>h2 k k1) (fun k k1 k2=>Ai (h3 k k1 k2))⟩;refine List.perm_middle.trans ?_;rw[List.take_append_drop];exact(List.perm_append_singleton y A).symm
  ·rw[if_neg (by simp; omega)];rw[pA (i:=P.length) (j:=P.length+A.length+B.length) (by omega)];generalize hmid:(P.length+(P.length+A.length+B.length)) / 2=mid;have key:∀ (i0 j0:Nat),P.length<=i0->i0<=j0->j0<=P.length+A.length->j0<=mid->mid<=B.length+i0->(i0=P.length\/mid=B.length+i0)->(j0=P.length+A.length\/j0=mid) ->
     ∀ K:Int->Option (List aB),(∀ u v:Nat,u<=A.length->v<=B.length->u+v+P.length=mid->(0<u->v<B.length->(ltL nd) (B.getD v default) (A.getD (u-1) default)=false)->(0<v->u<A.length->(ltL nd) (A.getD u default) (B.getD (v-1) default)=false) ->
      Sq b (K ((P.length+u:Nat):Int)) (fun d=>∃ C,d=P++(C++Q)/\C.Perm (A++B)/\Srt nd C)) ->
     Sq b ((cK (fun s=>(pW (P.length:Int) ((P.length+A.length:Nat):Int) ((P.length+A.length+B.length:Nat):Int) (P++(A++(B++Q))) nd s).den) ((i0:Int),(j0:Int))).bind (sel K some)) (fun d=>∃ C,d=P++(C++Q)/\C.Perm (A++B)/\Srt nd C):=by
    intro i0 j0 h1 h2 h3 h4 h5 h6 h7 K hK;refine Sq.bind _ (Fp b P A B Q hAB hA hB ho hn' i0 j0 mid hmid.symm h1 h2 h3 h4 h5) (fun z hz=>?_);cases z with
    | inr z=>exact hz.elim
    | inl z=>
     obtain⟨n,rfl,q1,q2,q3,q4⟩:=hz;simp only[sel];have:=hK (n-P.length) (mid-n) (by omega) (by omega) (by omega) (fun u1 u2=>?_) (fun u1 u2=>?_)
     ·rwa [show P.length+(n-P.length)=n by omega]at this
     ·have:=q3 (n-1) (by omega) (by omega)
      rwa [show mid-1-(n-1)=mid-n by omega,show n-1-P.length=n-P.length-1 by omega]at this
     ·have:=q4 n (by omega) (by omega);rw[show mid-1-n=mid-n-1 by omega]at this;exact Ai this
   have body:∀ u v:Nat,u<=A.length->v<=B.length->u+v+P.length=mid->(0<u->v<B.length->(ltL nd) (B.getD v default) (A.getD (u-1) default)=false)->(0<v->u<A.length->(ltL nd) (A.getD u default) (B.getD (v-1) default)=false) ->
     Sq b ((if decide (((P.length+u:Nat):Int)<((P.length+A.length:Nat):Int))=true then some (decide (((P.length+A.length:Nat):Int)<IntKind.i64.wrap (IntKind.i64.wrap ((mid:Int)+((P.length+A.length:Nat):Int))-((P.length+u:Nat):Int)))) else some false).bind fun j27=>
      (if j27=true then (wH ((P.length+u:Nat):Int) ((P.length+A.length:Nat):Int) (IntKind.i64.wrap (IntKind.i64.wrap ((mid:Int)+((P.length+A.length:Nat):Int))-((P.length+u:Nat):Int))) (P++(A++(B++Q)))).bind (fun r=>some r) else some (P++(A++(B++Q)))).bind fun j28=>
      (if decide ((P.length:Int)<((P.length+u:Nat):Int))=true then some (decide (((P.length+u:Nat):Int)<(mid:Int))) else some false).bind fun j30=>
      (if j30=true then (f.1 ((P.length:Int),((P.length+u:Nat):Int),(mid:Int),j28,nd)).bind (fun r=>some r) else some j28).bind fun j31=>
      (if decide ((mid:Int)<IntKind.i64.wrap (IntKind.i64.wrap ((mid:Int)+((P.length+A.length:Nat):Int))-((P.length+u:Nat):Int)))=true then some (decide (IntKind.i64.wrap (IntKind.i64.wrap ((mid:Int)+((P.length+A.length:Nat):Int))-((P.length+u:Nat):Int))<((P.length+A.length+B.length:Nat):Int))) else some false).bind fun j33=>
      (if j33=true then (f.1 ((mid:Int),IntKind.i64.wrap (IntKind.i64.wrap ((mid:Int)+((P.length+A.length:Nat):Int))-((P.length+u:Nat):Int)),((P.length+A.length+B.length:Nat):Int),j31,nd)).bind (fun r=>some r) else some j31).bind fun j34=>some j34)
      (fun d=>∃ C,d=P++(C++Q)/\C.Perm (A++B)/\Srt nd C):=by
    intro u v hu hv huv f1 f2;have w2:IntKind.i64.wrap (IntKind.i64.wrap ((mid:Int)+((P.length+A.length:Nat):Int))-((P.length+u:Nat):Int))=((P.length+A.length+v:Nat):Int):=by rw[dQ (by omega),eT (by omega) (by omega)]; congr 1; omega
    rw[w2];simp only[oK,Option.bind_some];have eA:=List.take_append_drop u A;have eB:=List.take_append_drop v B;have lA1:(A.take u).length=u:=by simp; omega
    have lB1:(B.take v).length=v:=by simp; omega
    have lA2:(A.drop u).length=A.length-u:=by simp
    have lB2:(B.drop v).length=B.length-v:=by simp
    have hs:P++(A++(B++Q))=(P++A.take u)++(A.drop u++(B.take v++(B.drop v++Q))):=by
     conv=>lhs; rw[<-eA,<-eB]
     simp only[List.append_assoc]
    refine Sq.bind (fun d=>d=P++(A.take u++(B.take v++(A.drop u++(B.drop v++Q))))) ?_ (fun j28 h28=>?_)
    ·by_cases hc:(((P.length+u:Nat):Int)<((P.length+A.length:Nat):Int))/\(((P.length+A.length:Nat):Int)<((P.length+A.length+v:Nat):Int))
     ·rw[if_pos (by simpa using hc)];rw[hs]at hn' ⊢;have h:=Kh b (P++A.take u) (A.drop u) (B.take v) (B.drop v++Q) (fun h0=>by have:=congrArg List.length h0; simp only[List.length_drop,List.length_nil]at this; omega) (fun h0=>by have:=congrArg List.length h0; simp only[List.length_take,List.length_nil]at this; omega)
       ((P.length+u:Nat):Int) ((P.length+A.length:Nat):Int) ((P.length+A.length+v:Nat):Int) (by simp; omega) (by simp; omega) (by simp; omega) hn'
      refine Sq.bind _ h (fun d hd=>aC.2 ?_);rw[hd]; simp only[List.append_assoc]
     ·rw[if_neg (by simpa using hc)];refine aC.2 ?_;rw[hs];by_cases hu':u=A.length
      ·have:A.drop u=[]:=by subst hu'; simp
       rw[this]; simp
      ·have:v=0:=by omega
       subst this; simp
    subst h28;have oD:okTs nd (P++(A.take u++(B.take v++(A.drop u++(B.drop v++Q))))):=by refine ho.perm ?_;rw[hs];simp only[List.append_assoc];exact List.Perm.append_left _ (List.Perm.append_left _ (List.perm_append_comm_assoc _ _ _))
    refine Sq.bind (fun d=>∃ C,d=P++(C++(A.drop u++(B.drop v++Q)))/\C.Perm (A.take u++B.take v)/\Srt nd C) ?_ (fun j31 h31=>?_)
    ·by_cases hc:((P.length:Int)<((P.length+u:Nat):Int))/\(((P.length+u:Nat):Int)<(mid:Int))
     ·rw[if_pos (by simpa using hc)];have e:((P.length:Int),((P.length+u:Nat):Int),(mid:Int),P++(A.take u++(B.take v++(A.drop u++(B.drop v++Q)))),nd)=gQ nd P (A.take u) (B.take v) (A.drop u++(B.drop v++Q)):=by unfold gQ; rw[lA1,lB1,<-huv]; simp; omega
      rw[e];refine Sq.bind _ (hrec _ _ _ _ (fun x hx y hy=>hAB x (List.mem_of_mem_take hx) y (List.mem_of_mem_take hy)) (fun h0=>by have:=congrArg List.length h0; simp only[List.length_take,List.length_nil]at this; omega) (fun h0=>by have:=congrArg List.length h0; simp only[List.length_take,List.length_nil]at this; omega) (hA.take u) (hB.take v) oD (by simp; omega) (by omega)) (fun d hd=>aC.2 hd)
     ·rw[if_neg (by simpa using hc)];refine aC.2 ⟨A.take u++B.take v,by simp,.refl _,?_⟩;by_cases hu':u=0
      ·subst hu'; simpa using hB.take v
      ·have:v=0:=by omega
       subst this; simpa using hA.take u
    obtain⟨C,rfl,pC,sC⟩:=h31;have lC:C.length=u+v:=by rw[pC.length_eq]; simp; omega
    have fin:∀ D:List aB,D.Perm (A.drop u++B.drop v)->Srt nd D->Srt nd (C++D)/\(C++D).Perm (A++B):=fun D pD sD=>aDH hA hB hu hv f1 f2 pC pD sC sD;refine Sq.bind (fun d=>∃ C,d=P++(C++Q)/\C.Perm (A++B)/\Srt nd C) ?_ (fun j34 h34=>aC.2 h34);by_cases hc:((mid:Int)<((P.length+A.length+v:Nat):Int))/\(((P.length+A.length+v:Nat):Int)<((P.length+A.length+B.length:Nat):Int))
    ·rw[if_pos (by simpa using hc)];have e:((mid:Int),((P.length+A.length+v:Nat):Int),((P.length+A.length+B.length:Nat):Int),P++(C++(A.drop u++(B.drop v++Q))),nd)=gQ nd (P++C) (A.drop u) (B.drop v) Q:=by unfold gQ; rw[lA2,lB2,<-huv]; simp; omega
     rw[e];refine Sq.bind _ (hrec _ _ _ _ (fun x hx y hy=>hAB x (List.mem_of_mem_drop hx) y (List.mem_of_mem_drop hy)) (fun h0=>by have:=congrArg List.length h0; simp only[List.length_drop,List.length_nil]at this; omega) (fun h0=>by have:=congrArg List.length h0; simp only[List.length_drop,List.length_nil]at this; omega) (hA.drop u) (hB.drop v) ?_ (by simp; omega) (by omega)) (fun d hd=>?_)
     ·refine oD.perm ?_;rw[List.append_assoc];refine List.Perm.append_left _ ?_;rw[<-List.append_assoc];exact List.Perm.append_right _ pC.symm
     ·obtain⟨D,rfl,pD,sD⟩:=hd;exact aC.2 ⟨C++D,by simp,(fin D pD sD).2,(fin D pD sD).1⟩
    ·rw[if_neg (by simpa using hc)];have:=fin (A.drop u++B.drop v) (.refl _) (by
      by_cases hu':u=A.length
      ·have:A.drop u=[]:=by subst hu'; simp
       rw[this]; simpa using hB.drop v
      ·have:B.drop v=[]:=by rw[show v=B.length by omega]; simp
       rw[this]; simpa using hA.drop u)
     exact aC.2 ⟨C++(A.drop u++B.drop v),by simp,this.2,this.1⟩
   by_cases hm:mid<P.length+A.length
   ·rw[if_pos (by simp; omega)];simp only[Option.bind_some];rw[dQ (n:=mid) (m:=P.length+A.length) (by omega),eT (n:=mid+(P.length+A.length)) (by omega) (by omega),<-dQ (n:=mid) (m:=P.length+A.length) (by omega)];exact key (mid+(P.length+A.length)-(P.length+A.length+B.length)) mid (by omega) (by omega) (by omega) (by omega) (by omega) (by omega) (by omega) _ body
   ·rw[if_neg (by simp; omega)];simp only[Option.bind_some];exact key P.length (P.length+A.length) (by omega) (by omega) (by omega) (by omega) (by omega) (by omega) (by omega) _ body
theorem Oc(nd:aG)(P A B Q:List aB)(hAB:Bef A B)(hA0:A≠[])(hB0:B≠[])(hA:Srt nd A)(hB:Srt nd B)(ho:okTs nd (P++(A++(B++Q))))(hn:(P++(A++(B++Q))).length<=1000000000000000):
  Sp (Th (P.length:Int) ((P.length+A.length:Nat):Int) ((P.length+A.length+B.length:Nat):Int) (P++(A++(B++Q))) nd) (fun d=>∃ C,d=P++(C++Q)/\C.Perm (A++B)/\Srt nd C):=by
 have h:=mJ (C:=fun (a:Int×Int×Int×List aB×aG) (x:Option (List aB))=>fD Proofs.Tryz.prog 272 [.own 30000,.t (.int .i64 (a.1)),.t (.int .i64 (a.2.1)),.t (.int .i64 (a.2.2.1)),.fn (.func 176) 0 [.ptr 30001 0]] [(30000,.arr 50 3 (a.2.2.2.1.length) (eF aH a.2.2.2.1)),(30001,bN a.2.2.2.2)] [30000,30001] x (fun (y:List aB)=>.tup []) (fun (y:List aB)=>[(30000,aD y),(30001,bN a.2.2.2.2)]))
  (fun a=>⟨bS Proofs.Tryz.func272 (by kernel_rfl),fun _ h=>nomatch h⟩) (fun rec a=>Ba rec a.1 a.2.1 a.2.2.1 a.2.2.2.1 a.2.2.2.2) (fun rec a=>Jy rec a.1 a.2.1 a.2.2.1 a.2.2.2.1 a.2.2.2.2)
  (aXG nd) (fun a=>(a.2.2.1-a.1).toNat) (aSQ nd) (fun b f a ha hrec=>?_) true (gQ nd P A B Q) ⟨P,A,B,Q,rfl,hAB,hA0,hB0,hA,hB,ho,hn⟩
 ·exact h.imp fun d hd=>hd P A B Q rfl
 ·obtain⟨P,A,B,Q,rfl,hAB,hA0,hB0,hA,hB,ho,hn⟩:=ha;refine(aUE b f P A B Q hAB hA0 hB0 hA hB ho hn (fun P' A' B' Q' a0 a1 a2 a3 a4 a5 a6 a7=>?_)).imp fun d hd P' A' B' Q' he=>?_
  ·exact(hrec (gQ nd P' A' B' Q') ⟨P',A',B',Q',rfl,a0,a1,a2,a3,a4,a5,a6⟩ (by simp only[gQ]; omega)).imp fun d hd=>hd P' A' B' Q' rfl
  ·obtain⟨rfl,rfl,rfl,rfl⟩:=zX he;exact hd
def eW(nd:aG)(a b:Nat)(l:List aB):Prop:=∀ i j,a<=i->i<j->j<b->(ltL nd) (l.getD j default) (l.getD i default)=false
structure PI (a b:Nat)(l d:List aB):Prop where
 len:d.length=l.length
 out:∀ k,k<a\/b<=k->d.getD k default=l.getD k default
 perm:d.Perm l
 mem:∀ k,a<=k->k<b->∃ k',a<=k'/\k' < b/\d.getD k default=l.getD k' default
theorem eW.congr{b:Nat}{d:List aB}(h:eW nd a b l)(he:∀ k,a<=k->k<b->d.getD k default=l.getD k default):eW nd a b d:=by intro i j h1 h2 h3;rw[he i h1 (by omega),he j (by omega) h3];exact h i j h1 h2 h3
theorem eW.sub{b a' b':Nat}(h:eW nd a b l)(h1:a<=a')(h2:b'<=b):eW nd a' b' l:=fun i j q1 q2 q3=>h i j (by omega) q2 (by omega)
theorem tS(nd:aG)(a m b:Nat)(l:List aB)(h1:a<m)(h2:m<b)(h3:b<=l.length)(ha:eW nd a m l)(hb:eW nd m b l)(hD:∀ i j,a<=i->i<m->m<=j->j<b->dF (l.getD i default) (l.getD j default)<0)(ho:okTs nd l)(hn:l.length<=1000000000000000):
  Sp (Th (a:Int) (m:Int) (b:Int) l nd) (fun d=>PI a b l d/\eW nd a b d):=by
 have e:l=l.take a++((l.drop a).take (m-a)++((l.drop m).take (b-m)++l.drop b)):=by
  have e1:l.drop m=(l.drop m).take (b-m)++l.drop b:=by
   conv=>lhs; rw[<-List.take_append_drop (b-m) (l.drop m)]
   rw[List.drop_drop,show m+(b-m)=b by omega]
  have e2:l.drop a=(l.drop a).take (m-a)++l.drop m:=by
   conv=>lhs; rw[<-List.take_append_drop (m-a) (l.drop a)]
   rw[List.drop_drop,show a+(m-a)=m by omega]
  rw[<-e1,<-e2,List.take_append_drop]
 have lP:(l.take a).length=a:=by simp; omega
 have lA:((l.drop a).take (m-a)).length=m-a:=by simp; omega
 have lB:((l.drop m).take (b-m)).length=b-m:=by simp; omega
 have gA:∀ k,k<m-a->((l.drop a).take (m-a)).getD k default=l.getD (a+k) default:=by intro k hk;rw[bL (by omega),bL (by omega)]; simp
 have gB:∀ k,k<b-m->((l.drop m).take (b-m)).getD k default=l.getD (m+k) default:=by intro k hk;rw[bL (by omega),bL (by omega)]; simp
 have hBef:Bef ((l.drop a).take (m-a)) ((l.drop m).take (b-m)):=fun x hx y hy=>by obtain⟨i,i1,i2,rfl⟩:=dV hx;obtain⟨j,j1,j2,rfl⟩:=dV hy;have e3:=gA i i1;have e4:=gB j j1;rw[bL (by omega),List.getElem_take,<-bL i2]at e3;rw[bL (by omega),List.getElem_take,<-bL j2]at e4;rw[e3,e4];exact hD _ _ (by omega) (by omega) (by omega) (by omega)
 have h:=Oc nd (l.take a) ((l.drop a).take (m-a)) ((l.drop m).take (b-m)) (l.drop b) hBef (fun h0=>by rw[h0]at lA; simp at lA; omega) (fun h0=>by rw[h0]at lB; simp at lB; omega)
  (rC fun i j hij hj=>by rw[gA i (by omega),gA j (by omega)]; exact ha _ _ (by omega) (by omega) (by omega))
  (rC fun i j hij hj=>by rw[gB i (by omega),gB j (by omega)]; exact hb _ _ (by omega) (by omega) (by omega)) (by rw[<-e]; exact ho) (by rw[<-e]; exact hn)
 rw[lP,lA,lB,<-e,show a+(m-a)=m by omega,show m+(b-m)=b by omega]at h;refine h.imp fun d hd=>?_;obtain⟨C,rfl,pC,sC⟩:=hd;have lC:C.length=b-a:=by rw[pC.length_eq,List.length_append,lA,lB]; omega
 have lD:(l.drop b).length=l.length-b:=by simp
 refine⟨⟨by rw[List.length_append,List.length_append,lP,lC,lD]; omega,fun k hk=>?_,?_,?_⟩,?_⟩
 ·rcases hk with hk | hk
  ·rw[bH,if_pos (by omega),bL (by omega)];by_cases hl:k<l.length
   ·rw[bL hl]; simp
   ·omega
  ·rw[bH,if_neg (by omega),bH,if_neg (by omega),lP,lC];by_cases hl:k<l.length
   ·rw[bL (by omega),bL hl]; simp; congr 1; omega
   ·rw[List.getD_eq_getElem?_getD,List.getElem?_eq_none (by omega),List.getD_eq_getElem?_getD,List.getElem?_eq_none (by omega)]
 ·conv=>rhs; rw[e]
  refine List.Perm.append_left _ ?_;rw[<-List.append_assoc];exact List.Perm.append_right _ pC
 ·intro k k1 k2;rw[bH,if_neg (by omega),bH,if_pos (by omega),lP];rcases List.mem_append.1 (pC.mem_iff.1 (aQ (show k-a<C.length by omega))) with hx | hx
  ·obtain⟨i,i1,i2,h5⟩:=dV hx;rw[h5];have e3:=gA i i1;rw[bL (by omega),List.getElem_take,<-bL i2]at e3;exact⟨a+i,by omega,by omega,e3⟩
  ·obtain⟨j,j1,j2,h5⟩:=dV hx;rw[h5];have e4:=gB j j1;rw[bL (by omega),List.getElem_take,<-bL j2]at e4;exact⟨m+j,by omega,by omega,e4⟩
 ·intro i j q1 q2 q3;rw[bH,if_neg (by omega),bH,if_pos (by omega),bH,if_neg (by omega),bH,if_pos (by omega)];exact sC.get (by omega) (by omega)
theorem xO(nd:aG)(a b:Nat)(l:List aB)(hab:a<=b)(hb:b<=l.length)(hD:∀ k m,a<=k->k<m->m<b->dF (l.getD k default) (l.getD m default)<0)(ho:okTs nd l)(hn:l.length<=1000000000000000):Sp (Ly (a:Int) (b:Int) l nd) (fun d=>PI a b l d/\eW nd a b d):=by
 refine Sq.of_eq (aBP nd a b l hb hab hn ho hD) ?_;have h:=Sort.insertionSort_holds (iV nd) l.toArray a b hab (by simpa using hb);obtain⟨⟨h1,h2,h3⟩,h4⟩:=h;have g:∀ (k:Nat),(Sort.insertionSort (ltL nd) l.toArray a b).toList.getD k default=(Sort.insertionSort (ltL nd) l.toArray a b)[k]!:=fun k=>by rw[<-fX]
 refine⟨⟨by simpa using h1,fun k hk=>by rw[g,h2 k hk,fX],?_,fun k k1 k2=>?_⟩,fun i j q1 q2 q3=>by rw[g,g]; exact h4 i j q1 q2 q3⟩;have h5:=Sort.permIn_mono _ _ a b 0 l.length (by omega) (by omega) (by simp) (show Sort.PermIn a b l.toArray (Sort.insertionSort (ltL nd) l.toArray a b) from ⟨h1,h2,h3⟩);have h6:=h5.2.2;rw[show l.length=l.toArray.size by simp]at h6;rw[show (Sort.insertionSort (ltL nd) l.toArray a b).extract 0 l.toArray.size=Sort.insertionSort (ltL nd) l.toArray a b by rw[<-h1]; simp]at h6;simpa using h6;have hm:(Sort.insertionSort (ltL nd) l.toArray a b)[k]! ∈ ((Sort.insertionSort (ltL nd) l.toArray a b).extract a b).toList:=by
  have hs:k<(Sort.insertionSort (ltL nd) l.toArray a b).size:=by rw[h1]; simp; omega
  rw[getElem!_pos (Sort.insertionSort (ltL nd) l.toArray a b) k hs];rw[Array.toList_extract];rw[List.extract_eq_take_drop];refine List.mem_iff_getElem.2 ⟨k-a,by simp; omega,?_⟩;simp[show a+(k-a)=k by omega]
 have hm2:=h3.mem_iff.1 hm;rw[Array.toList_extract,List.extract_eq_take_drop]at hm2;obtain⟨j,j1,j2,h7⟩:=dV hm2;simp only[List.length_drop]at j2;refine⟨a+j,by omega,by omega,?_⟩;rw[g,h7];rw[bL (by simp; omega),bL (by omega)];simp
theorem aGB(hw:0<w)(h:i / (2*w)<j / (2*w)):i / w<j / w:=by refine Nat.lt_of_not_le fun h1=>?_;rw[Nat.mul_comm,<-Nat.div_div_eq_div_mul,<-Nat.div_div_eq_div_mul]at h;have:=Nat.div_le_div_right (c:=2) h1;omega
theorem aAV(hw:0<w)(ha:w∣a)(h1:a<=i)(h2:i<a+w)(h3:a+w<=j):i / w<j / w:=by obtain⟨c,rfl⟩:=ha;have e1:i / w=c:=Nat.div_eq_of_lt_le (by rw[Nat.mul_comm]; exact h1) (by rw[Nat.add_mul,Nat.mul_comm c w]; omega);have e2:c+1<=j / w:=(Nat.le_div_iff_mul_le hw).2 (by rw[Nat.add_mul,Nat.mul_comm c w]; omega);omega
theorem Ru(hw:0<w)(ha:w∣a)(h1:a<=i)(h2:i<a+w)(h3:a<=j)(h4:j<a+w):i / w=j / w:=by obtain⟨c,rfl⟩:=ha;have e:∀ q,w*c<=q->q<w*c+w->q / w=c:=fun q q1 q2=>Nat.div_eq_of_lt_le (by rw[Nat.mul_comm]; exact q1) (by rw[Nat.add_mul,Nat.mul_comm c w]; omega);rw[e i h1 h2,e j h3 h4]
theorem aRQ{n:Nat}{d d':List aB}(ha:w∣a)(hn:a+w<=n)(hp:PI a (a+w) d d')(h:∀ i j,j<n->i / w<j / w->dF (d.getD i default) (d.getD j default)<0):∀ i j,j<n->i / w<j / w->dF (d'.getD i default) (d'.getD j default)<0:=by
 intro i j j1 j2;by_cases hw:w=0
 ·subst hw; simp at j2
 have src:∀ q,q<n->∃ q',q' < n/\q' / w=q / w/\d'.getD q default=d.getD q' default:=fun q hq=>by
  by_cases r0:a<=q/\q<a+w
  ·obtain⟨q',r1,r2,r3⟩:=hp.mem q r0.1 r0.2;exact⟨q',by omega,Ru (by omega) ha r1 r2 r0.1 r0.2,r3⟩
  ·exact⟨q,hq,rfl,hp.out q (by omega)⟩
 have hij:i<j:=Nat.lt_of_not_le fun h=>by have:=Nat.div_le_div_right (c:=w) h; omega
 obtain⟨i',i1,i2,i3⟩:=src i (by omega);obtain⟨j',m1,m2,m3⟩:=src j j1;rw[i3,m3];exact h i' j' m1 (by rw[i2,m2]; exact j2)
theorem aBZ(nd:aG)(l:List aB)(hP:l.Pairwise (fun x y=>dF x y<0))(ho:okTs nd l)(hn:l.length<=100000000000000):Sp (Vi (l.length:Int) l nd) (fun d=>d.Perm l/\Srt nd d):=by
 have hL:∀ i j,i<j->j<l.length->dF (l.getD i default) (l.getD j default)<0:=fun i j h1 h2=>by rw[bL h2,bL (show i<l.length by omega)];exact List.pairwise_iff_getElem.1 hP i j (by omega) h2 h1
 unfold Vi Uo;simp only[Tr.den,bU];refine Sq.while (fun s:List aB×Int×Int=>∃ a:Nat,s.2.1=a/\s.2.2=((a+20:Nat):Int)/\20∣a/\a<=l.length/\s.1.Perm l/\(∀ c,20∣c->c+20<=a->eW nd c (c+20) s.1)/\(∀ k,a<=k->s.1.getD k default=l.getD k default)/\∀ i j,j<l.length->i / 20<j / 20->dF (s.1.getD i default) (s.1.getD j default)<0) (fun s=>(l.length-s.2.1).toNat) (fun s hs=>?_)
  ⟨0,rfl,rfl,by simp,by omega,.refl _,fun c h1 h2=>by omega,fun _ _=>rfl,fun i j h1 h2=>hL i j (by omega) h1⟩
 obtain⟨d,i,j⟩:=s;obtain⟨a,h1,h2,h3,h4,h5,h6,h7,h8⟩:=hs;simp only at h1 h2 h5 h6 h7 h8;subst h1 h2;have hlen:=h5.length_eq;unfold Ip;simp only[Tr.den];by_cases hc:a+20<=l.length
 ·rw[if_pos (by simp; omega)];refine bU.2 ((xO nd a (a+20) d (by omega) (by omega) (fun k m k1 k2 k3=>by rw[h7 k k1,h7 m (by omega)]; exact hL k m k2 (by omega)) (ho.perm h5.symm) (by omega)).imp fun d' hd'=>?_);rw[bE (by omega) (by omega)];refine aC.2 ⟨⟨a+20,rfl,by simp,?_,hc,hd'.1.perm.trans h5,fun c q1 q2=>?_,fun k hk=>by rw[hd'.1.out k (.inr (by omega))]; exact h7 k (by omega),aRQ h3 (by omega) hd'.1 h8⟩,by simp only; omega⟩
  ·omega
  ·by_cases hca:c<a
   ·exact(h6 c q1 (jB h3 q1 hca)).congr fun k k1 k2=>hd'.1.out k (.inl (by have:=jB h3 q1 hca; omega))
   ·have:c=a:=by omega
    subst this; exact hd'.2
 ·rw[if_neg (by simp; omega)];refine aC.2 ?_;simp only[sel];refine bU.2 ((xO nd a l.length d h4 (by omega) (fun k m k1 k2 k3=>by rw[h7 k k1,h7 m (by omega)]; exact hL k m k2 k3) (ho.perm h5.symm) (by omega)).imp fun d2 hd2=>?_);obtain⟨p2,s2⟩:=hd2;have hp2:d2.Perm l:=p2.perm.trans h5;have b2:∀ c,20∣c->eW nd c (min (c+20) l.length) d2:=by
   intro c hc';by_cases hca:c<a
   ·have:=jB h3 hc' hca;exact((h6 c hc' this).congr fun k k1 k2=>p2.out k (.inl (by omega))).sub (by omega) (by omega)
   ·exact s2.sub (by omega) (by omega)
  have x2:∀ i j,j<l.length->i / 20<j / 20->dF (d2.getD i default) (d2.getD j default)<0:=fun i j j1 j2=>by
   obtain⟨a',rfl⟩:=h3;have src:∀ q,q<l.length->∃ q',q' < l.length/\q' / 20=q / 20/\d2.getD q default=d.getD q' default:=fun q hq=>by
    by_cases q1:q<20*a'
    ·exact⟨q,hq,rfl,p2.out q (.inl q1)⟩
    ·obtain⟨q',r1,r2,r3⟩:=p2.mem q (by omega) hq;exact⟨q',r2,by omega,r3⟩
   obtain⟨i',i1,i2,i3⟩:=src i (by omega);obtain⟨j',k1,k2,k3⟩:=src j j1;rw[i3,k3];exact h8 i' j' k1 (by omega)
  clear h6 p2 s2 h7 h8;refine bU.2 ?_;refine Sq.while (fun s:List aB×Int=>∃ w:Nat,s.2=w/\0<w/\w<=400000000000000/\s.1.Perm l/\(∀ c,w∣c->eW nd c (min (c+w) l.length) s.1)/\∀ i j,j<l.length->i / w<j / w->dF (s.1.getD i default) (s.1.getD j default)<0) (fun s=>(l.length-s.2).toNat) (fun s hs=>?_) ⟨20,rfl,by omega,by omega,hp2,b2,x2⟩;obtain⟨d,i⟩:=s;obtain⟨w,k1,k2,k3,k4,k5,k6⟩:=hs;simp only at k1 k4 k5 k6;subst k1;unfold Ix;simp only[Tr.den];by_cases hw:w<l.length
  ·rw[if_pos (by simp; omega)];have e2w:IntKind.i64.wrap (2*(w:Int))=((2*w:Nat):Int):=by rw[bE] <;> omega
   rw[e2w];refine bU.2 ?_;refine Sq.while (fun s:List aB×Int×Int=>∃ a:Nat,s.2.1=a/\s.2.2=((a+2*w:Nat):Int)/\(2*w)∣a/\a<=l.length/\s.1.Perm l/\(∀ c,(2*w)∣c->c+2*w<=a->eW nd c (c+2*w) s.1)/\(∀ c,w∣c->a<=c->eW nd c (min (c+w) l.length) s.1)/\(∀ k,a<=k->s.1.getD k default=d.getD k default)/\∀ i j,j<l.length->i / (2*w)<j / (2*w)->dF (s.1.getD i default) (s.1.getD j default)<0) (fun s=>(l.length-s.2.1).toNat) (fun s hs=>?_)
    ⟨0,rfl,by simp,by simp,by omega,k4,fun c q1 q2=>by omega,fun c q1 q2=>k5 c q1,fun _ _=>rfl,fun i j j1 j2=>k6 i j j1 (aGB k2 j2)⟩
   have hd0:=k4.length_eq;obtain⟨d1,i,j⟩:=s;obtain⟨a,g1,g2,g3,g4,g5,g6,g7,g8,g9⟩:=hs;simp only at g1 g2 g5 g6 g7 g8 g9;have cross:∀ i j,a<=i->i<a+w->a+w<=j->j<l.length->dF (d1.getD i default) (d1.getD j default)<0:=fun i j i1 i2 j1 j2=>by rw[g8 i i1,g8 j (by omega)];exact k6 i j j2 (aAV k2 (Nat.dvd_trans ⟨2,by omega⟩ g3) i1 i2 j1)
   subst g1 g2;have hlen:=g5.length_eq;have gw:w∣a:=Nat.dvd_trans ⟨2,by omega⟩ g3;have gw':w∣a+w:=Nat.dvd_add gw (Nat.dvd_refl w);unfold Km;simp only[Tr.den];by_cases hb:a+2*w<=l.length
   ·rw[if_pos (by simp; omega),dQ (by omega),e2w,dQ (by omega)];refine bU.2 ((tS nd a (a+w) (a+2*w) d1 (by omega) (by omega) (by omega) ((g7 a gw (by omega)).sub (by omega) (by omega)) ((g7 (a+w) gw' (by omega)).sub (by omega) (by omega)) (fun i j i1 i2 j1 j2=>cross i j i1 i2 j1 (by omega)) (ho.perm g5.symm) (by omega)).imp fun d' hd'=>?_);refine aC.2 ⟨⟨a+2*w,rfl,rfl,Nat.dvd_add g3 (Nat.dvd_refl _),hb,hd'.1.perm.trans g5,fun c q1 q2=>?_,fun c q1 q2=>?_,fun k hk=>?_,?_⟩,by simp only; omega⟩
    ·by_cases hca:c<a
     ·have:=jB g3 q1 hca;exact(g6 c q1 this).congr fun k k1 k2=>hd'.1.out k (.inl (by omega))
     ·have:c=a:=by omega
      subst this; exact hd'.2
    ·exact(g7 c q1 (by omega)).congr fun k k1 k2=>hd'.1.out k (.inr (by omega))
    ·rw[hd'.1.out k (.inr (by omega))]; exact g8 k (by omega)
    ·exact aRQ g3 (by omega) hd'.1 g9
   ·rw[if_neg (by simp; omega)];refine aC.2 ?_;simp only[sel];rw[dQ (by omega)];refine Sq.bind (fun d'=>d'.Perm l/\eW nd a l.length d'/\(∀ k,k<a->d'.getD k default=d1.getD k default)/\∀ k,a<=k->k<l.length->∃ k',a<=k'/\k' < l.length/\d'.getD k default=d1.getD k' default) ?_ (fun d' hd'=>?_)
    ·by_cases hm:a+w<l.length
     ·rw[if_pos (by simp; omega)];refine bU.2 ((tS nd a (a+w) l.length d1 (by omega) (by omega) (by omega) ((g7 a gw (by omega)).sub (by omega) (by omega)) ((g7 (a+w) gw' (by omega)).sub (by omega) (by omega)) (fun i j i1 i2 j1 j2=>cross i j i1 i2 j1 (by omega)) (ho.perm g5.symm) (by omega)).imp fun d' hd'=>?_);exact aC.2 ⟨hd'.1.perm.trans g5,hd'.2,fun k hk=>hd'.1.out k (.inl hk),hd'.1.mem⟩
     ·rw[if_neg (by simp; omega)];exact aC.2 ⟨g5,(g7 a gw (by omega)).sub (by omega) (by omega),fun _ _=>rfl,fun k k1 k2=>⟨k,k1,k2,rfl⟩⟩
    ·obtain⟨q1,q2,q3,q4⟩:=hd';rw[show IntKind.i64.wrap ((w:Int)*2)=((2*w:Nat):Int) by rw[bE] <;> omega];refine aC.2 ⟨⟨2*w,rfl,by omega,by omega,q1,fun c hc'=>?_,fun i j j1 j2=>?_⟩,by simp only; omega⟩;by_cases hca:c<a
     ·have:=jB g3 hc' hca;exact((g6 c hc' this).congr fun k k1 k2=>q3 k (by omega)).sub (by omega) (by omega)
     ·exact q2.sub (by omega) (by omega)
     ·have src:∀ q,q<l.length->∃ q',q' < l.length/\q' / (2*w)=q / (2*w)/\d'.getD q default=d1.getD q' default:=fun q hq=>by
       by_cases r0:q<a
       ·exact⟨q,hq,rfl,q3 q r0⟩
       ·obtain⟨q',r1,r2,r3⟩:=q4 q (by omega) hq;exact⟨q',r2,Ru (by omega) g3 r1 (by omega) (by omega) (by omega),r3⟩
      have hij:i<j:=Nat.lt_of_not_le fun h=>by have:=Nat.div_le_div_right (c:=2*w) h; omega
      obtain⟨i',i1,i2,i3⟩:=src i (by omega);obtain⟨j',m1,m2,m3⟩:=src j j1;rw[i3,m3];exact g9 i' j' m1 (by rw[i2,m2]; exact j2)
  ·rw[if_neg (by simp; omega)];refine aC.2 ?_;simp only[sel];refine aC.2 ⟨k4,rC fun i j hij hj=>?_⟩;have:=k5 0 (by simp);rw[k4.length_eq]at hj;exact this i j (by omega) hij (by omega)
theorem G63s1_sp(nd:aG)(l:List aB)(hP:l.Pairwise (fun x y=>dF x y<0))(ho:okTs nd l)(hn:l.length<=100000000000000):Sp (Gr l nd) (fun d=>d.Perm l/\Srt nd d):=by unfold Gr aHK;simp only[Tr.den,bU];exact(aBZ nd l hP ho hn).imp fun d hd=>aC.2 hd
end
end Go.PL.St
namespace Go.PL
open Go
set_option linter.unusedVariables false
set_option maxRecDepth 20000
variable {A B a l:List aB} {d:aB} {fs:List aV} {n:aG} {ta ts:List Int}
theorem aMO{R:List aB}(hw:okW R){a:aB}(ha:a.Row.length<=1000)(hn:rY a.N):okD (qT n R a):=by
 unfold qT;split
 ·have:=aEN (n:=n) (i:=0) (l:=[a]) (r:=R) (fun d hd=>by rw[bY.1 hd]; exact ha) hw;simpa[aRT] using this
 ·have:=aDY (n:=n) (l:=[a]) (r:=R) (fun d hd=>by rw[bY.1 hd]; exact ha) hw (fun d hd=>by rw[bY.1 hd]; exact hn);simpa[aRU] using this
theorem Qx(n:aG)(R:List aB)(a:aB):(qT n R a).length<=R.length+1:=by
 unfold qT;split
 ·exact gY (aBY n 0 R a) (by omega)
 ·exact gY (Iv n R a) (by omega)
theorem Lw(hA:okI n 0 A)(hB:okI n 1 B):okD (rG n A B):=by unfold rG;refine Fa fun a ha=>aMO (fun d hd=>hB.r d (jX.1 hd).1) (hA.r a ha) (hA.n a ha)
theorem Fw{c:Nat}(hB:B.length<=c):(rG n A B).length<=A.length*(c+1):=by unfold rG;refine tE (fun a=>?_) A;have h1:=Qx n (ofK n 1 (kd n 0 a) B) a;have h2:=iU n 1 (kd n 0 a) B;omega
def nz(d:aB):Bool:=!(d.N==0)
theorem Yv(d:aB):aYM d=some (!nz d):=by unfold aYM aXE nz;simp only[Tr.den,Bool.not_not]
theorem aBH(l:List aB)(hn:l.length<=1000000000000):
  Sp (Sw l) (fun r=>(r = -1/\∀ x,x∈l->nz x=true)\/∃ k:Nat,r=k/\k<l.length/\(∀ x,x∈l.take k->nz x=true)/\nz (l.getD k default)=false):=by
 unfold Sw Sy;simp only[Tr.den,bU];refine Sq.while (fun s:Int=>∃ k:Nat,s=k/\k<=l.length/\∀ x,x∈l.take k->nz x=true) (fun s=>(l.length-s).toNat) (fun s hs=>?_) ⟨0,rfl,by omega,by simp⟩;obtain⟨k,rfl,h1,h2⟩:=hs;unfold Iq;simp only[Tr.den,aR];by_cases hk:k<l.length
 ·rw[aA (bJ (by omega)),aA (by omega),aA hk,Yv];simp only[aJ];cases ha:nz (l.getD k default) with
  | true=>
   rw[aE (by simp),aN (by omega)];refine aC.2 ⟨⟨k+1,rfl,by omega,fun x hx=>?_⟩,by omega⟩;rw[aO hk,dH,bY]at hx;rcases hx with hx | rfl
   ·exact h2 x hx
   ·exact ha
  | false=>rw[aA (by simp)];exact aC.2 (aC.2 (.inr ⟨k,rfl,hk,h2,ha⟩))
 ·rw[aE (cB (by omega))];refine aC.2 (aC.2 (.inl ⟨rfl,?_⟩))
  rwa [lV (by omega)]at h2
theorem aFV(l:List aB)(hn:l.length<=1000000000000):Sp (aGZ l) (fun d=>d=l.filter nz):=by
 unfold aGZ aIY;simp only[Tr.den];refine Sq.bind _ (aBH l hn) (fun r hr=>?_);rcases hr with⟨rfl,h⟩ | ⟨k,rfl,h1,h2,h3⟩
 ·rw[aA (eX rfl)];refine aC.2 ?_;exact(zP.2 h).symm
 ·rw[aE (dS (by omega)),aN (by omega)];simp only[bU];refine Sq.while (fun s:List aB×Int×Int=>∃ i j:Nat,s.2.1=i/\s.2.2=j/\i<j/\j<=l.length/\s.1.length=l.length/\s.1.take i=(l.take j).filter nz/\s.1.drop j=l.drop j) (fun s=>(l.length-s.2.2).toNat) (fun s hs=>?_)
   ⟨k,k+1,rfl,rfl,by omega,by omega,rfl,?_,rfl⟩
  ·obtain⟨d,i,j⟩:=s;obtain⟨i,j,e1,e2,q1,q2,q3,q4,q5⟩:=hs;simp only at e1 e2 q3 q4 q5;subst e1 e2;unfold Pb;simp only[Tr.den,aR];by_cases hj:j<l.length
   ·have gj:d.getD j default=l.getD j default:=by have:=congrArg (fun x:List aB=>x.getD 0 default) q5;rw[cU (show j<d.length by omega),cU hj]at this;simpa using this
    rw[aA (bJ (by omega)),aA (by omega),aA (by omega),gj,Yv];simp only[aJ,Bool.not_not];cases ha:nz (l.getD j default) with
    | true=>
     rw[aA rfl,aA (by omega),aA (by omega)];refine bU.2 (pG (by simp; omega) (aC.2 ?_));rw[aN (by omega),aN (by omega)];refine aC.2 ⟨⟨i+1,j+1,rfl,rfl,by omega,by omega,by simp; omega,?_,?_⟩,by simp only; omega⟩
     ·rw[aO (show i<(d.set i (l.getD j default)).length by simp; omega),aO hj,qU,jA,aA ⟨rfl,by omega⟩];rw[List.take_set_of_le (cR i),q4,On ha,wK]
     ·rw[List.drop_set_of_lt (by omega)];have:=congrArg (List.drop 1) q5;rw[xD,xD]at this;exact this
    | false=>
     rw[aE (by simp)];simp only[aJ];rw[aN (by omega)];refine aC.2 ⟨⟨i,j+1,rfl,rfl,by omega,by omega,q3,?_,?_⟩,by simp only; omega⟩
     ·rw[aO hj,qU,q4,Gq (by rw[ha]; simp),wK,eU]
     ·have:=congrArg (List.drop 1) q5;rw[xD,xD]at this;exact this
   ·rw[aE (cB (by omega))];refine aC.2 ?_;simp only[sel,aR];have e:(d.take i++List.replicate (d.length-i) default).take i=d.take i:=by rw[Mn (by simp; omega),List.take_take,Nat.min_self]
    rw[aA (by omega),aA (by simp; omega),e,q4,lV (by omega)];exact aC.2 rfl
  ·rw[aO h1,qU,zP.2 h2,Gq (by rw[h3]; simp),wK,eU]
structure Gs (d out:List aB)(k:Nat):Prop where
 lt:out.Pairwise (fun x y=>dF x y<0)
 n64:∀ x,x∈out->rY x.N
 ok:jV out
 len:out.length<=k
 last:0<k->out≠[]/\pl (out.getD (out.length-1) default)=pl (d.getD (k-1) default)
 wt:∀ p,W (wt p out)=W (wt p (d.take k))
theorem Jo{α:Type}[Inhabited α]{l:List α}(h:l≠[]):∃ r x,l=r++[x]/\l.getD (l.length-1) default=x/\r.length=l.length-1:=by refine⟨l.dropLast,l.getLast h,(List.dropLast_concat_getLast h).symm,?_,by simp⟩;have h0:0<l.length:=gR.2 h;rw[bL (by omega),List.getLast_eq_getElem]
theorem aYZ{out:List aB}(h1:out.Pairwise (fun x y=>dF x y<0))(h2:∀ x,x∈out->rY x.N):Can (out.filter nz) where
 lt:=zL nI h1
 nz:=fun x hx=>by have:=(fE.1 hx).2;unfold nz at this;intro h0;rw[h0]at this;cases this
 n64:=fun x hx=>h2 x (fE.1 hx).1
theorem aRR(p:Pl->Bool):∀ l:List aB,wt p (l.filter nz)=wt p l
 | []=>rfl
 | x::l=>by
  have ih:=aRR p l;by_cases h:x.N=0
  ·rw[Gq (by unfold nz; rw[h]; simp),ih];simp only[wt,h];split <;> omega
  ·rw[On (by unfold nz; rw[lN]; exact Bool.eq_false_iff.2 (dS h))];simp only[wt,ih]
theorem aQH{d out:List aB}{k:Nat}(hk:k<d.length)(hs:Srt d)(ho:jV d)(hN:okN d)(h:Gs d out k):
  (0<k->pl (out.getD (out.length-1) default)=pl (d.getD k default)->Gs d (out.set (out.length-1) ⟨(out.getD (out.length-1) default).Time,(out.getD (out.length-1) default).Row,W ((out.getD (out.length-1) default).N+(d.getD k default).N)⟩) (k+1)) /\
  ((k=0\/pl (out.getD (out.length-1) default)≠pl (d.getD k default))->Gs d (out++[⟨(d.getD k default).Time,(d.getD k default).Row,(d.getD k default).N⟩]) (k+1)):=by
 have hmem:=aQ hk;constructor
 ·intro h0 he;obtain⟨hne,hl⟩:=h.last h0;obtain⟨r,x,e1,e2,e3⟩:=Jo hne;rw[e2]at he hl ⊢;have hset:out.set (out.length-1) ⟨x.Time,x.Row,W (x.N+(d.getD k default).N)⟩=r++[⟨x.Time,x.Row,W (x.N+(d.getD k default).N)⟩]:=by rw[<-e3,e1];simp
  have e4:pl (⟨x.Time,x.Row,W (x.N+(d.getD k default).N)⟩:aB)=pl x:=rfl;have hp:=h.lt;rw[e1]at hp;obtain⟨p1,_,p3⟩:=wT.1 hp;rw[hset];have hlen:=h.len;have hrl:r.length+1=out.length:=by rw[e1]; simp
  refine⟨wT.2 ⟨p1,sQ _ _,fun a ha b hb=>?_⟩,fun y hy=>?_,fun y hy=>?_,by simp; omega,fun _=>⟨by simp,?_⟩,fun p=>?_⟩
  ·rw[bY.1 hb,mT (x':=a) (y':=x) rfl e4];exact p3 a ha x (bY.2 rfl)
  ·rcases dH.1 hy with hy | hy
   ·exact h.n64 y (by rw[e1]; exact pZ _ hy)
   ·rw[bY.1 hy]; exact aLV _
  ·rcases dH.1 hy with hy | hy
   ·exact h.ok y (by rw[e1]; exact pZ _ hy)
   ·rw[bY.1 hy]; exact h.ok x (by rw[e1]; simp)
  ·rw[bH,aE (by simp)];simp only[bX,eE,Nat.add_sub_cancel,sP];exact e4.trans he
  ·have hw:=h.wt p;rw[e1,gE]at hw;rw[gE,aO hk,gE];have hw':W (wt p r+wt p [x]+wt p [d.getD k default])=W (wt p (d.take k)+wt p [d.getD k default]):=wD hw rfl;rw[<-hw'];simp only[wt,e4,he];split
   ·have:=wD (a:=wt p r) (c:=wt p r) (b:=W (x.N+(d.getD k default).N)) (d:=x.N+(d.getD k default).N) rfl (W_W _);rw[Int.add_zero,this]
    congr 1; omega
   ·congr 1; omega
 ·intro hc;have hgt:∀ a,a∈out->dF a (d.getD k default)<0:=by
   intro a ha;have hk0:0<k:=by refine Nat.pos_of_ne_zero fun h0=>?_;have:=h.len;have:out=[]:=sH (by omega);rw[this]at ha; cases ha
   obtain⟨hne,hl⟩:=h.last hk0;have hc':=hc.resolve_left (by omega);obtain⟨r,x,e1,e2,e3⟩:=Jo hne;rw[e2]at hl hc';have hx:dF x (d.getD k default)<0:=by
    have hle:=hs.get (i:=k-1) (j:=k) (by omega) hk;have h1:¬ dF (d.getD k default) x<0:=by rw[mT (x':=d.getD k default) (y':=d.getD (k-1) default) rfl hl];exact aAD hle
    have h2:dF x (d.getD k default)≠0:=fun h0=>hc' (lH.1 h0);have h3:¬ 0<dF x (d.getD k default):=fun h0=>h1 (xY.1 h0);omega
   rw[e1]at ha;rcases dH.1 ha with ha | ha
   ·have hp:=h.lt;rw[e1]at hp;exact TO.place.tr (pl a) (pl x) (pl _) ((wT.1 hp).2.2 a ha x (bY.2 rfl)) hx
   ·rw[bY.1 ha]; exact hx
  have hlen:=h.len;refine⟨wT.2 ⟨h.lt,sQ _ _,fun a ha b hb=>?_⟩,fun y hy=>?_,fun y hy=>?_,by simp; omega,fun _=>⟨by simp,?_⟩,fun p=>?_⟩
  ·rw[bY.1 hb]; exact hgt a ha
  ·rcases dH.1 hy with hy | hy
   ·exact h.n64 y hy
   ·rw[bY.1 hy]; exact hN _ hmem
  ·rcases dH.1 hy with hy | hy
   ·exact h.ok y hy
   ·rw[bY.1 hy]; exact ho _ hmem
  ·rw[bH,aE (by simp)];simp only[bX,eE,Nat.add_sub_cancel,sP];rfl
  ·rw[gE,aO hk,gE];exact wD (h.wt p) rfl
theorem aRF(l d:List aB)(hd:d.Perm l)(hs:Srt d)(ho:jV l)(hN:okN l)(hn:l.length<=1000000000000):
  Sp (cK (fun s=>(Nk d s).den) (([]:List aB),d,0)) (sel (fun r=>Gs d r d.length) (fun _=>False)):=by
 have ho':jV d:=fun x hx=>ho x (hd.mem_iff.1 hx);have hN':okN d:=fun x hx=>hN x (hd.mem_iff.1 hx);have hlen:=hd.length_eq;refine dY (fun s:List aB×List aB×Int=>s.2.2) d.length (by omega) (fun s=>s.2.1=d/\Gs d s.1 s.2.2.toNat) (fun s k hI hk hkN=>?_) ⟨rfl,⟨List.Pairwise.nil,(fun x h=>by simp at h),(fun x h=>by simp at h),cR _,fun h=>absurd h (Nat.lt_irrefl 0),fun p=>rfl⟩⟩ rfl;obtain⟨out,v,i⟩:=s;obtain⟨h1,h2⟩:=hI;simp only at hk h1 h2;subst hk h1;rw[aR]at h2;unfold Nk;simp only[Tr.den,aR];by_cases hcnt:k<v.length
 ·obtain⟨q1,q2⟩:=aQH hcnt hs ho' hN' h2;have hol:=h2.len;have hmem:=aQ hcnt;rw[aA (bJ (by omega)),aA (by omega),aA hcnt];have fin:∀ o:List aB,Gs v o (k+1)->Sp (some (Sum.inl (o,v,IntKind.i64.wrap ((k:Int)+1))):Option ((List aB×List aB×Int)⊕(List aB⊕List aB)))
    (sel (fun s':List aB×List aB×Int=>s'.2.2=IntKind.i64.wrap ((k:Int)+1)/\k<v.length/\s'.2.1=v/\Gs v s'.1 s'.2.2.toNat) (sel (fun r=>Gs v r v.length) (fun _:List aB=>False))):=by
   intro o ho;refine aC.2 ⟨rfl,hcnt,rfl,?_⟩;simp only;rw[show (IntKind.i64.wrap ((k:Int)+1)).toNat=k+1 by rw[aN (by omega),aR]];exact ho
  have app:(k=0\/pl (out.getD (out.length-1) default)≠pl (v.getD k default)) ->
    Sp (((Xs (v.getD k default).Row).bind fun r13=>if (out.length+([(⟨(v.getD k default).Time,r13,(v.getD k default).N⟩:aB)]:List aB).length)*40<=140737488355328 then some (out++[⟨(v.getD k default).Time,r13,(v.getD k default).N⟩],v) else none).bind fun r=>some (Sum.inl (r.1,r.2,IntKind.i64.wrap ((k:Int)+1))):Option ((List aB×List aB×Int)⊕(List aB⊕List aB)))
     (sel (fun s':List aB×List aB×Int=>s'.2.2=IntKind.i64.wrap ((k:Int)+1)/\k<v.length/\s'.2.1=v/\Gs v s'.1 s'.2.2.toNat) (sel (fun r=>Gs v r v.length) (fun _:List aB=>False))):=by
   intro hc;rw[aFC _ (by have:=ho' _ hmem; unfold okR at this; omega)];simp only[aJ,eE];rw[aA (by omega)];exact fin _ (q2 hc)
  by_cases hk0:k=0
  ·have hout:out=[]:=sH (by omega);rw[aE (cB (by rw[hout]; simp))];simp only[aJ,dO,dL];exact app (.inl hk0)
  ·obtain⟨hne,hl⟩:=h2.last (by omega);have hpos:=gR.2 hne;have e1:IntKind.i64.wrap ((out.length:Int)-1)=((out.length-1:Nat):Int):=by have:=eT (n:=out.length) (m:=1) (by omega) (by omega);simpa using this
   rw[e1];simp only[aR];rw[aA (bJ (by omega)),aA (by omega),aA (by omega),vC _ _ (h2.ok _ (aQ (by omega))) (ho' _ hmem)];simp only[aJ];by_cases he:pl (out.getD (out.length-1) default)=pl (v.getD k default)
   ·rw[aA (eX (lH.2 he)),aA (by omega),aA (by omega),aA (by omega),aA (by omega)];rw[aA (by simp; omega)];simp only[aJ];exact fin _ (q1 (by omega) he)
   ·rw[aE (dS fun h0=>he (lH.1 h0))];exact app (.inr he)
 ·rw[aE (cB (by omega))];refine aC.2 ?_;have:k=v.length:=by omega
  subst this;exact h2
theorem oL(l:List aB)(ho:jV l)(hN:okN l)(hn:l.length<=1000000000000):aRZ l=some (PL.cons l):=by
 refine Sp.eq ?_;unfold aRZ aWQ;simp only[Tr.den];rw[aJG l hn];simp only[aJ];refine Sq.bind _ (aGF l ho (by omega)) (fun d hd=>?_);refine Sq.bind _ (aRF l d hd.1 hd.2 ho hN hn) (fun z hz=>?_);cases z with
 | inr z=>exact hz.elim
 | inl z=>have hz':Gs d z d.length:=hz;have h1:=hz'.len;have h2:=hd.1.length_eq;simp only[sel];refine Sq.bind _ (aFV z (by omega)) (fun r hr=>?_);subst hr;refine aC.2 (Na (aYZ hz'.lt hz'.n64) hN fun p=>?_).symm;rw[aRR,hz'.wt p,dI,Xm p hd.1]
theorem aEJ(row:List aF)(cols:List Int)(hc:An cols row)(hl:cols.length<=1000):aAF row cols=some (cols.map fun c=>row.getD c.toNat default):=by
 have w:IntKind.i64.wrap ((cols.length:Int)+2)=((cols.length+2:Nat):Int):=bE (by omega) (by omega);unfold aAF aQB;simp only[Tr.den];rw[w,aR,aA (by omega)];have h1:=bB (bd:=fun s=>(rL row cols s).den) (fun k=>((cols.take k).map fun c=>row.getD c.toNat default,(k:Int))) cols.length (r:=.inl (cols.map fun c=>row.getD c.toNat default)) (fun k hk=>?_) ?_
 ·refine(congrArg (fun x=>Option.bind x _) h1).trans ?_;rfl
 ·unfold rL;simp only[Tr.den,aR];have h2:=hc _ (aQ hk);rw[aA (bJ (by omega)),aA (by omega),aA h2,aA (by simp; omega),aN (by omega),aO hk,lR];rfl
 ·unfold rL;simp only[Tr.den];rw[aE (cB (by omega)),dI]
theorem Fv{i:Int}{row:List aF}(hv:Hw row)(hc:An (iM n i) row)(hl:(iM n i).length<=1000):(aAF row (iM n i)).bind aKN=some (La n i row):=by rw[aEJ row _ hc hl,aJ,Xa _ (fun v hv'=>by obtain⟨c,_,rfl⟩:=dC.1 hv';exact hv.get _) (by rw[bQ]; exact hl)];rfl
theorem Kd(n:aG)(l:List aB)(hk:okI n 1 l)(hc:(iM n 1).length<=1000)(hn:l.length<=1000000000000):Sr l n.Key2=some (bW n 1 l):=by
 unfold Sr Um;simp only[Tr.den];have h1:=bB (bd:=fun s=>(uI l n.Key2 s).den) (fun k=>(bW n 1 (l.take k),(k:Int))) l.length (r:=.inl (bW n 1 l)) (fun k hk'=>?_) ?_
 ·refine(congrArg (fun x=>Option.bind x _) h1).trans ?_;rfl
 ·unfold uI;simp only[Tr.den,aR];have hm:=aQ hk';have hkey:=Fv (n:=n) (i:=1) (hk.v _ hm) (hk.c _ hm) hc;rw[aA (bJ (by omega)),aA (by omega),<-Option.bind_assoc,show n.Key2=iM n 1 from rfl];refine(congrArg (fun x=>Option.bind x _) hkey).trans ?_;simp only[aJ];have h2:=iU n 1 (La n 1 (l.getD k default).Row) (l.take k);simp only[cE]at h2;rw[aA (by rw[qQ]; simp only[dA,fG]; omega),aN (by omega)]
  congr 3
  unfold bW;rw[aO hk',zU];rfl
 ·unfold uI;simp only[Tr.den];rw[aE (cB (by omega)),dI]
theorem Ya(a b:aB)(t n:Int)(ha:a.Row.length<=1000)(hb:b.Row.length<=1000):aUW a b t n=some (tH a b t n):=by unfold aUW aSK;simp only[Tr.den];rw[aKM [a.Row,b.Row] (by simp; omega) (by simp)];simp[tH]
theorem Yg(a b:aB):mG 0 a b=tH a b (if b.Time>a.Time then b.Time else a.Time) (W (a.N*b.N)):=by unfold mG;rw[aE (by decide)]
theorem wY{p:Nat}(hp:p<l.length)(a b:Int):bZ (l.take (p+1)) a b=bZ (l.take p) a b++(if (decide (a<=(l.getD p default).Time)&&decide ((l.getD p default).Time<=b))=true then [l.getD p default] else []):=by unfold bZ;rw[aO hp,qU,kG,wK]
theorem aRH(hN:Nj n)(h6:n.Op=6)(hB:okB n)(hA:okI n 0 A)(hBB:okI n 1 B)(lA:A.length<=100000)(lB:B.length<=100000):aYY n A B=some (rG n A B):=by
 have hb:=hB.b;have ha:=hB.a;have tA:=hA.tm;have tB:=hBB.tm;have wA:=hA.w;have wB:=hBB.w;have len0:∀ l,(l:List aB).length<=100000->(l.flatMap fun a=>qT n (ofK n 1 (kd n 0 a) B) a).length<=100000*100001:=fun l hl=>
  gY (tE (c:=100001) (fun a=>gY (Qx _ _ _) (by have:=iU n 1 (kd n 0 a) B; omega)) l) (sX hl (cR _))
 unfold aYY aXK;simp only[Tr.den];rw[Kd n B hBB (hN.cols 1) (by omega)];simp only[aJ];have h1:=bB (bd:=fun z=>(Ee n A (bW n 1 B) z).den) (fun q=>((A.take q).flatMap fun a=>qT n (ofK n 1 (kd n 0 a) B) a,(q:Int))) A.length (r:=.inl (rG n A B)) (fun q hq=>?_) ?_
 ·refine(congrArg (fun x=>Option.bind x _) h1).trans ?_;rfl
 ·have hm:=aQ hq;have tq:=tA.get q;have hl0:=len0 (A.take q) (by rw[cE]; omega);have hkey:=Fv (n:=n) (i:=0) (hA.v _ hm) (hA.c _ hm) (hN.cols 0);unfold Ee;simp only[Tr.den,aR];rw[aA (bJ (by omega)),aA (by omega),<-Option.bind_assoc,show n.Key=iM n 0 from rfl];refine(congrArg (fun x=>Option.bind x _) hkey).trans ?_;simp only[aJ];have hmo:=qQ n 1 (La n 0 (A.getD q default).Row) B;have hcl:=iU n 1 (kd n 0 (A.getD q default)) B;have tc:kK (ofK n 1 (kd n 0 (A.getD q default)) B):=fun d hd=>tB d (fE.1 hd).1;have wc':okW (ofK n 1 (kd n 0 (A.getD q default)) B):=fun d hd=>wB d (fE.1 hd).1;have hrow:qT n (ofK n 1 (kd n 0 (A.getD q default)) B) (A.getD q default)=tX n 0 (ofK n 1 (kd n 0 (A.getD q default)) B) (A.getD q default):=by unfold qT; rw[aA h6]
  rw[aO hq,qX,nC,hrow];generalize (A.take q).flatMap (fun a=>qT n (ofK n 1 (kd n 0 a) B) a)=out at *
  change _=ofK n 1 (kd n 0 (A.getD q default)) B at hmo;generalize ofK n 1 (kd n 0 (A.getD q default)) B=c at *
  have w1:IntKind.i64.wrap ((A.getD q default).Time-n.Before)=(A.getD q default).Time-n.Before:=bE (by omega) (by omega);have w2:IntKind.i64.wrap ((A.getD q default).Time+n.After)=(A.getD q default).Time+n.After:=bE (by omega) (by omega);have e0:tX n 0 c (A.getD q default)=(bZ c ((A.getD q default).Time-n.Before) ((A.getD q default).Time+n.After)).map (mG 0 (A.getD q default)):=by unfold tX;rw[aE (by decide),aE (by decide)]
  rw[e0];have inner:cK (fun z=>(yL n A (bW n 1 B) (q:Int) c (c.length:Int) z).den) (out,0)=some (.inl (out++(bZ c ((A.getD q default).Time-n.Before) ((A.getD q default).Time+n.After)).map (mG 0 (A.getD q default)))):=by
   have h2:=bB (bd:=fun z=>(yL n A (bW n 1 B) (q:Int) c (c.length:Int) z).den) (fun p=>(out++(bZ (c.take p) ((A.getD q default).Time-n.Before) ((A.getD q default).Time+n.After)).map (mG 0 (A.getD q default)),(p:Int))) c.length (r:=.inl (out++(bZ c ((A.getD q default).Time-n.Before) ((A.getD q default).Time+n.After)).map (mG 0 (A.getD q default)))) (fun p hp=>?_) ?_
   ·rw[<-h2]; simp[bZ]
   ·have tp:=tc.get p;have f1:=pM (c.take p) ((A.getD q default).Time-n.Before) ((A.getD q default).Time+n.After);rw[cE]at f1;unfold yL;simp only[Tr.den,aR];rw[aA (bJ (by omega)),aA (by omega)];simp only[w1,w2];rw[wY hp,lR,<-cL,aN (by omega)];have f2:(out++(bZ (c.take p) ((A.getD q default).Time-n.Before) ((A.getD q default).Time+n.After)).map (mG 0 (A.getD q default))).length<=100000*100001+100000:=by rw[bX,bQ]; omega
    generalize out++(bZ (c.take p) ((A.getD q default).Time-n.Before) ((A.getD q default).Time+n.After)).map (mG 0 (A.getD q default))=o at *
    by_cases c1:(A.getD q default).Time-n.Before<=(c.getD p default).Time
    ·rw[aA (bJ c1)];simp only[aJ];by_cases c2:(c.getD p default).Time<=(A.getD q default).Time+n.After
     ·rw[bJ c1,bJ c2];simp only[fJ,Bool.and_self];rw[Ya _ _ _ _ (wA.get q) (wc'.get p)];simp only[aJ,eE];rw[aA (by omega)];simp only[aJ,fI,xG];rw[Yg]
     ·rw[bJ c1,gI c2];simp only[Bool.and_false,dO,dL,aJ,xG,eU]
    ·rw[aE (cB c1)];simp only[aJ];rw[gI c1];simp only[Bool.false_and,dO,dL,aJ,xG,eU]
   ·unfold yL;simp only[Tr.den];rw[aE (cB (by omega)),dI]
  generalize bF (bW n 1 B) (La n 0 (A.getD q default).Row)=o at *
  cases o with
  | none=>simp only[Option.getD_none]at hmo;subst hmo;refine(congrArg (fun x=>Option.bind x _) inner).trans ?_;simp only[aJ,sel];rw[aN (by omega)]
  | some o=>simp only[sY]at hmo;subst hmo;refine(congrArg (fun x=>Option.bind x _) inner).trans ?_;simp only[aJ,sel];rw[aN (by omega)]
 ·unfold Ee;simp only[Tr.den];rw[aE (cB (by omega)),dI];rfl
theorem Iz{c:List aB}{p:Nat}{lo hi:Int}(hp:p<=c.length)(h:∀ j,p<=j->j<c.length->hi<(c.getD j default).Time):bZ c lo hi=bZ (c.take p) lo hi:=by
 have e:bZ (c.drop p) lo hi=[]:=by
  unfold bZ;refine Au.2 fun d hd=>?_;obtain⟨j,hj,rfl⟩:=Cq.1 hd;have hj':j<c.length-p:=by simpa using hj
  have:=h (p+j) (by omega) (by omega);rw[bL (by omega)]at this;rw[List.getElem_drop];simp only[cI,eJ];omega
 have e2:bZ c lo hi=bZ (c.take p) lo hi++bZ (c.drop p) lo hi:=by unfold bZ;rw[<-qU,iQ]
 rw[e2,e,eU]
theorem aNQ(n:aG)(A:List aB)(M:List (ByteArray×List aB))(q:Nat)(hq:q<A.length)(c out:List aB)(hK:1<=n.Keep/\n.Keep<=10000)(tq:0<=(A.getD q default).Time/\(A.getD q default).Time<=2199023255552)
  (wq:(A.getD q default).Row.length<=1000)(tc:kK c)(wc':okW c)(ts:TS c)(lc:c.length<=100000)(lo:out.length<=1000000):
  Sp (cK (fun z=>(Oi n A M (q:Int) c z).den) (out,(c.length:Int)-1)) (fun z=>z = .inl (out++kJ n c (A.getD q default))):=by
 have w1:IntKind.i64.wrap ((A.getD q default).Time-n.Keep)=(A.getD q default).Time-n.Keep:=bE (by omega) (by omega);refine Sq.while (fun s:List aB×Int=>∃ p:Nat,s=(out,(p:Int)-1)/\p<=c.length/\∀ j,p<=j->j<c.length->(A.getD q default).Time<(c.getD j default).Time) (fun s=>(s.2+1).toNat) (fun s hs=>?_) ⟨c.length,rfl,cR _,fun j h1 h2=>by omega⟩;obtain⟨p,rfl,hp,hl⟩:=hs;unfold Oi;simp only[Tr.den,aR];by_cases h0:p=0
 ·subst h0;rw[aE (cB (by omega))];refine aC.2 ?_;have e:kJ n c (A.getD q default)=[]:=by unfold kJ;rw[Iz (p:=0) (by omega) hl];rfl
  rw[e,eU];rfl
 ·have e1:((p:Int)-1).toNat=p-1:=by omega
  have hp1:p-1<c.length:=by omega
  have tp:=tc.get (p-1);rw[aA (bJ (by omega)),aA (by omega),e1];by_cases h1:(c.getD (p-1) default).Time<=(A.getD q default).Time
  ·rw[aA (bJ h1)];have e2:=Iz (lo:=(A.getD q default).Time-n.Keep+1) (hi:=(A.getD q default).Time) hp hl;have e3:=wY hp1 ((A.getD q default).Time-n.Keep+1) (A.getD q default).Time;rw[show p-1+1=p by omega]at e3;by_cases h2:(c.getD (p-1) default).Time>(A.getD q default).Time-n.Keep
   ·rw[aA (bJ (by omega)),Ya _ _ _ _ wq (wc'.get _)];simp only[aJ,eE];rw[aA (by omega)];refine aC.2 ?_;rw[aA (by rw[bJ (show (A.getD q default).Time-n.Keep+1<=_ by omega),bJ h1]; rfl)]at e3;have e:kJ n c (A.getD q default)=[tH (A.getD q default) (c.getD (p-1) default) (A.getD q default).Time (A.getD q default).N]:=by
     unfold kJ;rw[e2,e3,aE (by simp)]
     congr 2
     rw[bH,aE (by simp)];simp
    rw[e];rfl
   ·rw[aE (cB (by omega))];refine aC.2 ?_;have e:kJ n c (A.getD q default)=[]:=by
     unfold kJ;rw[aA];rw[e2];unfold bZ;refine Au.2 fun d hd=>?_;obtain⟨j,hj,rfl⟩:=Cq.1 hd;have hj':j<p:=by have:=List.length_take_le p c;omega
     have:=ts.get (i:=j) (j:=p-1) (by omega) hp1;rw[bL (show j<c.length by omega)]at this;rw[List.getElem_take];simp only[cI,eJ];omega
    rw[e,eU];rfl
  ·rw[aE (cB h1),bE (by omega) (by omega)];refine aC.2 ⟨⟨p-1,by rw[show ((p-1:Nat):Int)=(p:Int)-1 by omega],by omega,fun j q1 q2=>?_⟩,by simp only; omega⟩;by_cases hj:j=p-1
   ·subst hj; omega
   ·exact hl j (by omega) q2
theorem aMY(hN:Nj n)(h6:¬ n.Op=6)(hK:1<=n.Keep/\n.Keep<=10000)(hA:okI n 0 A)(hBB:okI n 1 B)(tsB:TS B)(lA:A.length<=1000)(lB:B.length<=1000):aSU n A B=some (rG n A B):=by
 have tA:=hA.tm;have tB:=hBB.tm;have wA:=hA.w;have wB:=hBB.w;have hr:∀ R a,qT n R a=kJ n R a:=fun R a=>by unfold qT; rw[aE h6]
 have len0:∀ l,(l:List aB).length<=1000->(l.flatMap fun a=>qT n (ofK n 1 (kd n 0 a) B) a).length<=1000*1:=fun l hl=>
  gY (tE (c:=1) (fun a=>by rw[hr]; exact Iv _ _ _) l) (sX hl (cR _))
 unfold aSU aSR;simp only[Tr.den];rw[Kd n B hBB (hN.cols 1) (by omega)];simp only[aJ];have h1:=bB (bd:=fun z=>(Dx n A (bW n 1 B) z).den) (fun q=>((A.take q).flatMap fun a=>qT n (ofK n 1 (kd n 0 a) B) a,(q:Int))) A.length (r:=.inl (rG n A B)) (fun q hq=>?_) ?_
 ·refine(congrArg (fun x=>Option.bind x _) h1).trans ?_;rfl
 ·have hm:=aQ hq;have hl0:=len0 (A.take q) (by rw[cE]; omega);have hkey:=Fv (n:=n) (i:=0) (hA.v _ hm) (hA.c _ hm) (hN.cols 0);unfold Dx;simp only[Tr.den,aR];rw[aA (bJ (by omega)),aA (by omega),<-Option.bind_assoc,show n.Key=iM n 0 from rfl];refine(congrArg (fun x=>Option.bind x _) hkey).trans ?_;simp only[aJ];have hmo:=qQ n 1 (La n 0 (A.getD q default).Row) B;change _=ofK n 1 (kd n 0 (A.getD q default)) B at hmo;have hcl:=iU n 1 (kd n 0 (A.getD q default)) B;have tc:kK (ofK n 1 (kd n 0 (A.getD q default)) B):=fun d hd=>tB d (fE.1 hd).1;have wc':okW (ofK n 1 (kd n 0 (A.getD q default)) B):=fun d hd=>wB d (fE.1 hd).1;have ts':TS (ofK n 1 (kd n 0 (A.getD q default)) B):=zL nI tsB;rw[aO hq,qX,nC,hr];generalize (A.take q).flatMap (fun a=>qT n (ofK n 1 (kd n 0 a) B) a)=out at *
  generalize ofK n 1 (kd n 0 (A.getD q default)) B=c at *
  have inner:=(aNQ n A (bW n 1 B) q hq c out hK (tA.get q) (wA.get q) tc wc' ts' (by omega) (by omega)).eq;have wl:IntKind.i64.wrap ((c.length:Int)-1)=(c.length:Int)-1:=bE (by omega) (by omega);rw[<-wl]at inner;generalize bF (bW n 1 B) (La n 0 (A.getD q default).Row)=o at *
  cases o with
  | none=>simp only[Option.getD_none]at hmo;subst hmo;refine(congrArg (fun x=>Option.bind x _) inner).trans ?_;simp only[aJ,sel];rw[aN (by omega)]
  | some o=>simp only[sY]at hmo;subst hmo;refine(congrArg (fun x=>Option.bind x _) inner).trans ?_;simp only[aJ,sel];rw[aN (by omega)]
 ·unfold Dx;simp only[Tr.den];rw[aE (cB (by omega)),dI];rfl
noncomputable def Ax (n:aG)(l:List aB):List aB:=(Gr l n).getD []
abbrev DS (l:List aB):Prop:=l.Pairwise (fun x y=>dF x y<0)
theorem Wt(hD:DS l)(ho:St.okTs n l)(hl:l.length<=1000000):Gr l n=some (Ax n l)/\(Ax n l).Perm l/\St.Srt n (Ax n l):=by obtain⟨d,h1,h2⟩:=(St.G63s1_sp n l hD ho (by omega)).get;unfold Ax;rw[h1];exact⟨rfl,h2⟩
theorem aKZ{x y:aB}(h1:St.ltL n x y=false)(h2:St.ltL n y x=false):pl x=pl y:=by have h1:=gM h1;have h2:=gM h2;have s:=St.TO.key.sw (St.kT n y) (St.kT n x);have:=(St.TO.key.eq (St.kT n x) (St.kT n y)).1 (by omega);exact congrArg Prod.snd this
theorem aOV{d:List aB}(hD:DS l)(hp:d.Perm l)(hs:St.Srt n d){e:List aB}(hp':e.Perm l)(hs':St.Srt n e):d=e:=by
 have inj:∀ x,x∈l->∀ y,y∈l->pl x=pl y->x=y:=by
  intro x hx y hy h;obtain⟨i,hi,rfl⟩:=Cq.1 hx;obtain⟨j,hj,rfl⟩:=Cq.1 hy;rcases Nat.lt_trichotomy i j with h1 | h1 | h1
  ·exact absurd h (yU (wQ.1 hD i j hi hj h1))
  ·subst h1; rfl
  ·exact absurd h.symm (yU (wQ.1 hD j i hj hi h1))
 refine List.Perm.eq_of_pairwise (le:=fun x y=>St.ltL n y x=false) (fun a b ha hb h1 h2=>inj a (hp.mem_iff.1 ha) b (hp'.mem_iff.1 hb) (aKZ h2 h1)) hs hs' (hp.trans hp'.symm)
theorem aCA{r:List aB}(h:l.Perm r)(hn:okN l):cons l=cons r:=by have hn':okN r:=fun x hx=>hn x (h.mem_iff.2 hx);exact(iO hn).ext (iO hn') ((iW l).trans ((jS.of_perm h).trans (iW r).symm))
theorem Gd(hn:Ep n)(ks:List ByteArray)(l:List aB):okD (jT n ks l):=⟨fun x hx=>by
  obtain⟨k,hk,hx⟩:=nF.1 hx;obtain⟨w,hw,rfl⟩:=dC.1 hx;have:=hn.key;have:=hn.aggs;unfold okR sE;simp only[bX,Qy,bQ,eE]; omega,fun x hx=>by
  obtain⟨k,hk,hx⟩:=nF.1 hx;obtain⟨w,hw,rfl⟩:=dC.1 hx;exact⟨by show -9223372036854775808<=(1:Int); decide,by show (1:Int)<=9223372036854775807; decide⟩⟩
theorem Hk{n:aG}(hn:Ep n){l:List aB}(ht:kK l)(hl:l.length<=1000):∀ ks:List ByteArray,(jT n ks l).length<=ks.length*10000000
 | []=>by simp[jT]
 | k::ks=>by have h1:=xI hn (l:=ofK n 0 k l) (fun d hd=>ht d (jX.1 hd).1) (by have:=iU n 0 k l; omega);have h2:=Hk hn ht hl ks;unfold jT at h2 ⊢;rw[fH,bX,bQ,dA]; omega
theorem aRP(n:aG)(hl:l.length<=1000):(cS (aW (bW n 0 l))).length<=1000:=by have:=jG n 0 l;rw[jP]; unfold aW; rw[bQ]; omega
theorem Uj(h4:n.Op=4)(hn:Ep n)(h:okI n 0 l)(ha:Kv n l)(hl:l.length<=1000)(r:List (List aB)):mC fs n (l::r)=some (cons (jT n (cS (aW (bW n 0 l))) l)):=by have z0:(l::r).getD (0:Int).toNat default=l:=rfl;have hd:=Gd hn (cS (aW (bW n 0 l))) l;have h1:=Hk hn h.t hl (cS (aW (bW n 0 l)));have h2:=aRP n hl;unfold mC Hz;simp only[Tr.den,z0];rw[aE (dS (by omega)),aE (dS (by omega)),aE (dS (by omega)),aA (eX h4),aA (by simp),aPC hn h ha hl];simp only[aJ];rw[oL _ hd.r hd.n (by omega)]; rfl
theorem Ql{S:List aB->List aB}{ks:List ByteArray}(hN:∀ d,d∈l->0<=d.N)(hk:0<=n.Keep)(hS:∀ r,r.Sublist l->(S r).Perm r):∀ x,x∈oQ n S ks l->(∃ d,d∈l/\x.Row=d.Row)/\0<=x.N/\x.N<=n.Keep:=fun x hx=>by
 obtain⟨k,hk',hx⟩:=nF.1 hx;obtain⟨b,hb,hx⟩:=nF.1 hx;have hsub:(inB n.Size n.Size b (ofK n 0 k l)).Sublist l:=List.Sublist.trans nI nI;have hp:=hS _ hsub;have:∀ (tm left:Int) (r:List aB),(∀ d,d∈r->0<=d.N)->0<=left->∀ x,x∈rZ tm left r->(∃ d,d∈r/\x.Row=d.Row)/\0<=x.N/\x.N<=left:=by
  intro tm left r
  induction r generalizing left with
  | nil=>intro _ _ x hx; cases hx
  | cons d r ih=>
   intro hr hl x hx;have hm:0<=jJ left d.N/\jJ left d.N<=left:=by unfold jJ; have:=hr d cC; split <;> omega
   rw[rZ]at hx;rcases aU.1 hx with rfl | hx
   ·exact⟨⟨d,cC,rfl⟩,hm⟩
   ·obtain⟨⟨e,he,h1⟩,h2,h3⟩:=ih (left-jJ left d.N) (fun d hd=>hr d (cH _ hd)) (by omega) x hx;exact⟨⟨e,cH _ he,h1⟩,h2,by omega⟩
 obtain⟨⟨d,hd,h1⟩,h2⟩:=this _ _ _ (fun d hd=>hN d (hsub.subset (hp.mem_iff.1 hd))) hk x hx;exact⟨⟨d,hsub.subset (hp.mem_iff.1 hd),h1⟩,h2⟩
theorem Gw{n:aG}(hn:aAP n){S:List aB->List aB}{l:List aB}(ht:kK l)(hl:l.length<=1000)(hS:∀ r,r.Sublist l->(S r).Perm r):∀ ks:List ByteArray,(oQ n S ks l).length<=ks.length*1000000
 | []=>by simp[oQ,yQ]
 | k::ks=>by
  have hz:=hn.size;have h0:=iU n 0 k l;have hwb:(kL n.Size n.Size (ofK n 0 k l)).length<=1000:=by have:=pO (len:=n.Size) (step:=n.Size) (c:=1) (show 0<n.Size by omega) (by omega) (l:=ofK n 0 k l) (fun d hd=>ht d (jX.1 hd).1);omega
  have hF:∀ r:List Int,(r.flatMap fun b=>Cr n S b (inB n.Size n.Size b (ofK n 0 k l))).length<=r.length*1000:=fun r=>by
   induction r with
   | nil=>simp
   | cons b r ih=>have:=(hS (inB n.Size n.Size b (ofK n 0 k l)) (List.Sublist.trans nI nI)).length_eq;have h3:=rH n.Size n.Size b (ofK n 0 k l);unfold Cr at ih ⊢;rw[fH,bX,zA,dA]; omega
  have h1:=hF (kL n.Size n.Size (ofK n 0 k l));have h2:=Gw hn ht hl hS ks;unfold oQ yQ at h2 ⊢;rw[fH,bX,dA]; omega
theorem Ky(hc:DS l)(ho:St.okTs n l)(hl:l.length<=1000):∀ r,r.Sublist l->Gr r n=some (Ax n r)/\(Ax n r).Perm r:=fun r hr=>by have:=Wt (n:=n) (l:=r) (zL hr hc) (fun x hx=>ho x (hr.subset hx)) (by have:=hr.length_le; omega);exact⟨this.1,this.2.1⟩
theorem aHG(h5:n.Op=5)(hn:aAP n)(h:okI n 0 l)(hN:∀ d,d∈l->0<=d.N/\d.N<=1000)(hc:DS l)(ho:St.okTs n l)(hl:l.length<=1000)(r:List (List aB)):
  mC fs n (l::r)=some (cons (oQ n (Ax n) (cS (aW (bW n 0 l))) l)):=by
 have z0:(l::r).getD (0:Int).toNat default=l:=rfl;have hS:=Ky hc ho hl;have hS2:∀ r,r.Sublist l->(Ax n r).Perm r:=fun r hr=>(hS r hr).2;have hkp:=hn.keep;have hm:=Ql (n:=n) (S:=Ax n) (ks:=cS (aW (bW n 0 l))) (fun d hd=>(hN d hd).1) (by omega) hS2;have h1:=Gw hn h.t hl hS2 (cS (aW (bW n 0 l)));have h2:=aRP n hl;unfold mC Hz;simp only[Tr.den,z0];rw[aE (dS (by omega)),aE (dS (by omega)),aE (dS (by omega)),aE (dS (by omega)),aA (eX h5),aA (by simp),aMD hn h hN hl hS];simp only[aJ];rw[oL _ (fun x hx=>by
  obtain⟨⟨d,hd,e⟩,_⟩:=hm x hx;have:=h.r d hd;unfold okR; rw[e]; omega) (fun x hx=>by
  have:=(hm x hx).2;exact⟨by omega,by omega⟩) (by omega)]; rfl
def sR(a b:Int):List aF:=[vI a,vI b]
def sL:List aB:=[⟨3,sR 7 5,1⟩,⟨8,sR 7 6,1⟩,⟨12,sR 7 1,1⟩]
def sAg:List jR:=[⟨0,0,⟨#[110]⟩⟩,⟨1,1,⟨#[115]⟩⟩]
def sA:aG:=⟨4,[],⟨#[]⟩,0,[],0,10,0,[0],[],0,0,0,sAg,[],[]⟩
def sB:aG:=⟨4,[],⟨#[]⟩,0,[],2,100,5,[0],[],0,0,0,sAg,[],[]⟩
def sC:aG:=⟨5,[],⟨#[]⟩,0,[],0,10,1,[],[],0,0,1,[],[],[]⟩
theorem aRV{x:Int}(h:rY x):okV (vI x):=⟨⟨by show -9223372036854775808<=(0:Int); decide,by show (0:Int)<=9223372036854775807; decide⟩,h,vY _⟩
theorem bAN{a b:Int}(ha:rY a)(hb:rY b):Hw (sR a b):=fun v hv=>by
 rcases aU.1 hv with rfl | hv
 ·exact aRV ha
 ·rw[bY.1 hv]; exact aRV hb
theorem sJ(h:d∈sL):d=⟨3,sR 7 5,1⟩\/d=⟨8,sR 7 6,1⟩\/d=⟨12,sR 7 1,1⟩:=by unfold sL at h;simpa using h
theorem aHU(n:aG)(hk:∀ c,c∈iM n 0->0<=c/\c<2)(hl:∀ d,d∈l->d∈sL):okI n 0 l:=by
 refine⟨fun d hd=>?_,fun d hd=>?_,fun d hd=>?_,fun d hd=>?_,fun d hd=>?_⟩ <;> rcases sJ (hl d hd) with rfl | rfl | rfl
 all_goals first
  | exact bAN ⟨by decide,by decide⟩ ⟨by decide,by decide⟩
  | exact fun c hc=>hk c hc
  | (simp only[sR,dA,fG]; omega)
  | exact⟨by decide,by decide⟩
theorem aZL(h:n.Key=[0]):∀ c,c∈iM n 0->0<=c/\c<2:=by intro c hc;have h1:iM n 0=[0]:=h;rw[h1,bY]at hc;subst hc; decide
theorem ks1{k0:ByteArray}(h:∀ d,d∈l->kd n 0 d=k0)(h0:l≠[]):cS (aW (bW n 0 l))=[k0]/\ofK n 0 k0 l=l:=by
 have e:ofK n 0 k0 l=l:=zP.2 fun d hd=>bJ (h d hd);refine⟨List.perm_singleton.1 ((List.perm_ext_iff_of_nodup ((nG _).nodup_iff.2 ((Ji n 0 l).nodup LO.bytes)) (by simp)).2 fun k=>?_),e⟩;rw[(nG _).mem_iff,rI,bY];constructor
 ·intro hk;obtain⟨d,hd⟩:=List.exists_mem_of_ne_nil _ hk;obtain⟨h1,h2⟩:=jX.1 hd;rw[<-h2]; exact h d h1
 ·rintro rfl;rw[e]; exact h0
theorem Aw{len step:Int}{bs:List Int}(h:aW (tZ len step l)=bs):(kL len step l).Perm bs:=by unfold kL; rw[h]; exact rK _
theorem bBC:mC [] sA [sL]=some [⟨9,[vI 7,vI 0,vI 2,vI 11],1⟩,⟨19,[vI 7,vI 10,vI 1,vI 1],1⟩]:=by
 have hn:Ep sA:=⟨by decide,.inl rfl,by decide,by decide⟩;have hI:okI sA 0 sL:=aHU sA (aZL (n:=sA) rfl) fun d hd=>hd;have hag:Kv sA sL:=fun g hg=>by
  rcases aU.1 hg with rfl | hg
  ·exact .inl rfl
  ·rw[bY.1 hg];exact .inr fun d hd=>by rcases sJ hd with rfl | rfl | rfl <;> exact⟨by decide,by decide⟩
 rw[Uj rfl hn hI hag (by decide)];obtain⟨e1,e2⟩:=ks1 (n:=sA) (l:=sL) (k0:=kd sA 0 ⟨3,sR 7 5,1⟩) (fun d hd=>by rcases sJ hd with rfl | rfl | rfl <;> rfl) (by decide);rw[e1];have hp:=Aw (len:=10) (step:=10) (l:=sL) (bs:=[0,10]) (by kernel_rfl);have hw:(jT sA [kd sA 0 ⟨3,sR 7 5,1⟩] sL).Perm (([0,10].map fun b=>(⟨b,b+10,inB 10 10 b sL⟩:aL)).map (sE sA sL)):=by unfold jT;rw[nC,e2];exact(hp.map _).map _
 rw[aCA hw (Gd hn _ _).n];exact congrArg some (by kernel_rfl)
theorem bBD:mC [] sB [sL]=some [⟨7,[vI 7,vI 3,vI 1,vI 5],1⟩,⟨16,[vI 7,vI 8,vI 2,vI 7],1⟩]:=by
 have hn:Ep sB:=⟨by decide,.inr (.inr ⟨rfl,by decide⟩),by decide,by decide⟩;have hI:okI sB 0 sL:=aHU sB (aZL (n:=sB) rfl) fun d hd=>hd;have hag:Kv sB sL:=fun g hg=>by
  rcases aU.1 hg with rfl | hg
  ·exact .inl rfl
  ·rw[bY.1 hg];exact .inr fun d hd=>by rcases sJ hd with rfl | rfl | rfl <;> exact⟨by decide,by decide⟩
 rw[Uj rfl hn hI hag (by decide)];obtain⟨e1,e2⟩:=ks1 (n:=sB) (l:=sL) (k0:=kd sB 0 ⟨3,sR 7 5,1⟩) (fun d hd=>by rcases sJ hd with rfl | rfl | rfl <;> rfl) (by decide);rw[e1];have hp:=Aw (len:=100) (step:=100) (l:=sL) (bs:=[0]) (by kernel_rfl);have hw:jT sB [kd sB 0 ⟨3,sR 7 5,1⟩] sL=(ses 5 (0+100) (inB 100 100 0 sL)).map (sE sB sL):=by unfold jT;rw[nC,e2];show (Mf sB sL).map _=_;unfold Mf;rw[show kL sB.Size sB.Size sL=[0] from List.perm_singleton.1 hp,nC];rfl
 rw[hw];exact congrArg some (by kernel_rfl)
theorem bBB:mC [] sC [sL.take 2]=some [⟨9,sR 7 6,1⟩]:=by
 have hn:aAP sC:=⟨by decide,by decide,by decide⟩;have hsub:∀ d,d∈sL.take 2->d∈sL:=fun d hd=>El hd;have hI:okI sC 0 (sL.take 2):=aHU sC (fun c hc=>by simp[iM,sC]at hc) hsub;have hD:DS (sL.take 2):=by have:sL.take 2=[⟨3,sR 7 5,1⟩,⟨8,sR 7 6,1⟩]:=rfl;rw[this];exact lT.2 ⟨fun y hy=>by rw[bY.1 hy]; decide,sQ _ _⟩
 have ho:St.okTs sC (sL.take 2):=fun d hd=>by rcases sJ (hsub d hd) with rfl | rfl | rfl <;> exact⟨by decide,by decide⟩
 rw[aHG rfl hn hI (fun d hd=>by rcases sJ (hsub d hd) with rfl | rfl | rfl <;> exact⟨by decide,by decide⟩) hD ho (by decide)];obtain⟨e1,e2⟩:=ks1 (n:=sC) (l:=sL.take 2) (k0:=kd sC 0 ⟨3,sR 7 5,1⟩) (fun d hd=>by rcases sJ (hsub d hd) with rfl | rfl | rfl <;> rfl) (by decide);rw[e1];have hp:=Aw (len:=10) (step:=10) (l:=sL.take 2) (bs:=[0]) (by kernel_rfl);have hs:Ax sC (sL.take 2)=[⟨8,sR 7 6,1⟩,⟨3,sR 7 5,1⟩]:=by obtain⟨_,h2,h3⟩:=Wt hD ho (by decide);refine aOV hD h2 h3 (List.Perm.swap _ _ _) ?_;exact lT.2 ⟨fun y hy=>by rw[bY.1 hy]; kernel_rfl,sQ _ _⟩
 have hw:oQ sC (Ax sC) [kd sC 0 ⟨3,sR 7 5,1⟩] (sL.take 2)=rZ 9 1 [⟨8,sR 7 6,1⟩,⟨3,sR 7 5,1⟩]:=by unfold oQ yQ;rw[nC,e2,show kL sC.Size sC.Size (sL.take 2)=[0] from List.perm_singleton.1 hp,nC];unfold Cr;rw[show inB sC.Size sC.Size 0 (sL.take 2)=sL.take 2 from by kernel_rfl,hs];rfl
 rw[hw];exact congrArg some (by kernel_rfl)
theorem aLJ:aWY=some true:=by
 have g:∀ a b,bAP a b=some (sR a b):=fun a b=>rfl;have g1:∀ a b,aDQ a b=some (sR a b):=fun a b=>rfl;have hR:∀ a b,(sR a b).length=2:=fun a b=>rfl;unfold aWY aUX;simp only[Tr.den,g,aJ];refine(congrArg (fun x=>Option.bind x _) bBC).trans ?_;simp only[aJ];refine(congrArg (fun x=>Option.bind x _) bBD).trans ?_;simp only[aJ];rw[aA (by decide)];refine(congrArg (fun x=>Option.bind x _) bBB).trans ?_;have s1:Ov [vI 7,vI 0,vI 2,vI 11] (sR 7 0++sR 2 11)=some true:=by rw[yO _ _ (by decide) (by decide)]; kernel_rfl
 have s2:Ov [vI 7,vI 10,vI 1,vI 1] (sR 7 10++sR 1 1)=some true:=by rw[yO _ _ (by decide) (by decide)]; kernel_rfl
 have s3:Ov [vI 7,vI 3,vI 1,vI 5] (sR 7 3++sR 1 5)=some true:=by rw[yO _ _ (by decide) (by decide)]; kernel_rfl
 have s4:Ov [vI 7,vI 8,vI 2,vI 7] (sR 7 8++sR 2 7)=some true:=by rw[yO _ _ (by decide) (by decide)]; kernel_rfl
 have s5:Ov (sR 7 6) (sR 7 6)=some true:=by rw[yO _ _ (by decide) (by decide)]; kernel_rfl
 simp[g1,s1,s2,s3,s4,s5,hR]
structure NIn (ts:List Int)(A:List aB):Prop where
 can:Can A
 len:A.length<=200
 v:∀ d,d∈A->Hw d.Row
 t:kK A
 row:∀ d,d∈A->d.Row.length=ts.length/\TyR ts d.Row
 n:∀ d,d∈A->1<=d.N/\d.N<=1000
theorem bAD(h:∀ d,d∈a->1<=d.N/\d.N<=5)(p:Pl->Bool):0<=wt p a/\wt p a<=5*a.length:=by
 induction a with
 | nil=>exact⟨Int.le_refl _,by simp[wt]⟩
 | cons x a ih=>have h1:=h x cC;have h2:=ih fun d hd=>h d (cH _ hd);simp only[wt,dA];split <;> omega
theorem aLI(h:∀ d,d∈a->1<=d.N/\d.N<=5)(hl:a.length<=200):∀ x,x∈cons a->1<=x.N/\x.N<=1000:=fun x hx=>by
 have hn:okN a:=fun d hd=>by have:=h d hd; exact⟨by omega,by omega⟩
 have hc:=iO hn;have h1:=iW a (at1 (pl x));rw[hc.wt_mem hx,aDO (hc.n64 x hx)]at h1;have h2:=bAD h (at1 (pl x));rw[aDO ⟨by omega,by omega⟩]at h1;have:=hc.nz x hx;omega
theorem bBE{v:aF}(h:yK v):okV v:=⟨h.1,h.2.1,by have:v.S.size<=1048576:=h.2.2; omega⟩
theorem Ok.nin{m:Nat}(h:Ok ts a m)(hm:m<=200)(ho:okL 40 eC a):NIn ts (cons a):=by
 have hl:=h.len;have e:∀ d,d∈PL.cons a->∃ z,z∈a/\d.Time=z.Time/\d.Row=z.Row:=fun d hd=>by obtain⟨z,hz,he⟩:=Qs hd;exact⟨z,hz,congrArg (·.1) he,congrArg (·.2) he⟩
 refine⟨iO (eC.okd ho).n,by have:=sO a; omega,fun d hd=>?_,fun d hd=>?_,fun d hd=>?_,aLI h.n (by omega)⟩ <;> obtain⟨z,hz,h1,h2⟩:=e d hd
 ·rw[h2]; exact fun v hv=>bBE ((ho.2 z hz).2.1.2 v hv)
 ·rw[h1]; exact h.t z hz
 ·rw[h2]; exact h.r z hz
theorem NIn.okD{ts:List Int}{A:List aB}(h:NIn ts A)(ht:ts.length<=12):okD A:=⟨fun d hd=>by have:=(h.row d hd).1; unfold okR; omega,h.can.n64⟩
theorem NIn.okI{ts:List Int}{A:List aB}(h:NIn ts A)(ht:ts.length<=12){n:aG}{i:Int}(hk:okC (iM n i) ts.length):okI n i A:=
 ⟨h.v,fun d hd c hc=>by rw[(h.row d hd).1]; exact hk c hc,fun d hd=>by have:=(h.row d hd).1; omega,h.t,h.can.n64⟩
theorem NIn.sm(h:NIn ts A)(hd:d∈A):∀ v,v∈d.Row->Sm v:=fun v hv=>(h.v d hd v hv).s
theorem NIn.nil(ts:List Int):NIn ts []:=⟨.nil,by simp,by simp,by simp[kK],by simp,by simp⟩
theorem evE(hl:okL 104 eH fs)(hf:G82 fs=some true)(h:NIn ts A){e:bO}(he:dU e){t:Int}(ht:qG fs ts [] e=some (t,true))(hd:d∈A):
  Cw fs e d.Time d.Row=some (evV fs e d)/\TyV t (evV fs e d)/\Sm (evV fs e d):=by
 obtain⟨v,h1,h2⟩:=(aNZ hl hf he ht d.Time (h.row d hd).1 (h.sm hd)).get;have e:evV fs e d=v:=by unfold evV; rw[h1]; rfl
 rw[e];exact⟨h1,aQD hl hf he ht d.Time (h.row d hd).2 h1,h2⟩
noncomputable def Gi (fs:List aV)(n:aG)(r:Pl):Bool:=((evV fs (n.Exprs.getD 0 default) ⟨r.1,r.2,0⟩).Kind==(vB true).Kind)&&(((evV fs (n.Exprs.getD 0 default) ⟨r.1,r.2,0⟩).N==(vB true).N)&&(((evV fs (n.Exprs.getD 0 default) ⟨r.1,r.2,0⟩).S.toList==(vB true).S.toList)&&true))
theorem aXR(h1:n.Op=1)(hl:okL 104 eH fs)(hf:G82 fs=some true)(he:okL 56 dU n.Exprs)(hx:n.Exprs.length=1/\qG fs ta [] (n.Exprs.getD 0 default)=some (2,true))(hla:ta.length<=12)(h:NIn ta A)(r:List (List aB)):
  mC fs n (A::r)=some (cons (A.filter fun d=>Gi fs n (pl d))):=by
 have z0:(A::r).getD (0:Int).toNat default=A:=rfl;have hal:=h.len;have ho:okD (A.filter fun d=>Gi fs n (pl d)):=(h.okD hla).sub fun x hx=>(fE.1 hx).1;have hfl:=tY (fun d=>Gi fs n (pl d)) A;unfold mC Hz;simp only[Tr.den];rw[aA (eX h1),aA (by simp)];have h2:=bB (bd:=fun s=>(Dw fs n (A::r) s).den) (fun k=>((A.take k).filter fun d=>Gi fs n (pl d),(k:Int))) A.length (r:=.inl (A.filter fun d=>Gi fs n (pl d))) (fun k hk=>?_) ?_
 ·rw[show (([]:List aB),(0:Int))=(fun k:Nat=>((A.take k).filter fun d=>Gi fs n (pl d),(k:Int))) 0 from rfl,h2];simp only[aJ,sel];rw[oL _ ho.r ho.n (by omega)]; rfl
 ·have hm:=aQ hk;have hv:=(evE hl hf h (okEs.get he (show 0<n.Exprs.length by omega)) hx.2 hm).1;have hf2:=tY (fun d=>Gi fs n (pl d)) (A.take k);rw[cE]at hf2;unfold Dw;simp only[Tr.den,aR];rw[aA (by rw[z0]; exact bJ (by omega)),aA (by rw[z0]; omega),aA (by omega),z0,show (0:Int).toNat=0 from rfl,hv];simp only[aJ];rw[Zo];simp only[aJ];rw[aO hk,qU,aN (by omega)];have hc:(((evV fs (n.Exprs.getD 0 default) (A.getD k default)).Kind==(vB true).Kind)&&(((evV fs (n.Exprs.getD 0 default) (A.getD k default)).N==(vB true).N)&&(((evV fs (n.Exprs.getD 0 default) (A.getD k default)).S.toList==(vB true).S.toList)&&true)))=Gi fs n (pl (A.getD k default)):=rfl;rw[hc];cases hq:Gi fs n (pl (A.getD k default)) with
  | true=>rw[aA rfl,aA (by simp only[eE]; omega),kG,aA hq,wK];rfl
  | false=>rw[aE (by simp),kG,aE (by rw[hq]; simp),wK,eU];rfl
 ·unfold Dw;simp only[Tr.den];rw[aE (by rw[z0]; exact cB (by omega)),dI]
noncomputable def Nr (fs:List aV)(n:aG)(r:Pl):List aF:=n.Exprs.map fun e=>evV fs e ⟨r.1,r.2,0⟩
noncomputable def Mg (fs:List aV)(n:aG)(d:aB):aB:=⟨d.Time,Nr fs n (pl d),d.N⟩
theorem aOD(k:Nat)(hk:k<A.length)(v:List aB)(he:n.Exprs.length<=12)(hv:∀ i,i<n.Exprs.length->Cw fs (n.Exprs.getD i default) (A.getD k default).Time (A.getD k default).Row=some (evV fs (n.Exprs.getD i default) (A.getD k default))):
  cK (fun s=>(xU fs n.Exprs A (k:Int) s).den) (v,List.replicate n.Exprs.length (default:aF),0)=some (.inl (v,Nr fs n (pl (A.getD k default)))):=by
 have h2:=bB (bd:=fun s=>(xU fs n.Exprs A (k:Int) s).den) (fun i=>(v,((n.Exprs.take i).map fun e=>evV fs e (A.getD k default))++List.replicate (n.Exprs.length-i) (default:aF),(i:Int))) n.Exprs.length (r:=.inl (v,Nr fs n (pl (A.getD k default)))) (fun i hi=>?_) ?_
 ·rw[<-h2]; simp
 ·have hlen:(((n.Exprs.take i).map fun e=>evV fs e (A.getD k default))++List.replicate (n.Exprs.length-i) (default:aF)).length=n.Exprs.length:=by simp only[bX,bQ,cE,qW]; omega
  have hl1:((n.Exprs.take i).map fun e=>evV fs e (A.getD k default)).length=i:=by rw[bQ,cE]; omega
  unfold xU;simp only[Tr.den,aR];rw[aA (bJ (by omega)),aA (by omega),hv i hi];simp only[aJ];rw[aA (by omega),aA (by omega),aA (by simp only[List.all_cons,List.all_nil,Bool.and_true]; exact bJ (by omega)),aN (by omega)]
  congr 4
  rw[List.set_append,aE (by omega),hl1,sP,show n.Exprs.length-i=(n.Exprs.length-(i+1))+1 by omega,List.replicate_succ,List.set_cons_zero,aO hi,lR,cL];rfl
 ·unfold xU;simp only[Tr.den];rw[aE (cB (by omega)),dI,sP];simp[Nr,evV,pl]
theorem aOS(he:n.Exprs.length<=12)(hA:A.length<=1000)(hv:∀ d,d∈A->∀ i,i<n.Exprs.length->Cw fs (n.Exprs.getD i default) d.Time d.Row=some (evV fs (n.Exprs.getD i default) d)):aZE fs n.Exprs A=some (A.map (Mg fs n)):=by
 unfold aZE aVR;simp only[Tr.den];have h2:=bB (bd:=fun s=>(Db fs n.Exprs A s).den) (fun k=>((A.take k).map (Mg fs n),(k:Int))) A.length (r:=.inl (A.map (Mg fs n))) (fun k hk=>?_) ?_
 ·exact(congrArg (fun x=>Option.bind x _) h2).trans rfl
 ·unfold Db;simp only[Tr.den,aR];rw[aA (bJ (by omega)),aA (by omega),aA ⟨⟨by omega,by omega⟩,by omega⟩,aOD k hk _ he (hv _ (aQ hk))];simp only[aJ,sel];rw[aA (by simp only[bQ,cE,eE]; omega),aN (by omega),aO hk,lR];rfl
 ·unfold Db;simp only[Tr.den];rw[aE (cB (by omega)),dI]
theorem aSE(h2:n.Op=2)(hl:okL 104 eH fs)(hf:G82 fs=some true)(he:okL 56 dU n.Exprs)(hx:(1<=n.Exprs.length/\n.Exprs.length<=12)/\∀ i,i<n.Exprs.length->∃ t,qG fs ta [] (n.Exprs.getD i default)=some (t,true))(h:NIn ta A)(r:List (List aB)):
  mC fs n (A::r)=some (cons (A.map (Mg fs n))):=by
 have z0:(A::r).getD (0:Int).toNat default=A:=rfl;have hal:=h.len;have ho:okD (A.map (Mg fs n)):=⟨fun x hx'=>by
  obtain⟨d,hd,rfl⟩:=dC.1 hx';unfold okR Mg Nr;simp only[bQ]; omega,fun x hx'=>by
  obtain⟨d,hd,rfl⟩:=dC.1 hx';exact h.can.n64 d hd⟩
 unfold mC Hz;simp only[Tr.den];rw[aE (dS (by omega)),aA (eX h2),aA (by simp),z0,aOS hx.1.2 (by omega) fun d hd i hi=>by obtain⟨t,ht⟩:=hx.2 i hi;exact(evE hl hf h (okEs.get he hi) ht hd).1];simp only[aJ];rw[oL _ ho.r ho.n (by rw[bQ]; omega)]; rfl
theorem Mk(fs:List aV)(n:aG)(p:Pl->Bool):∀ A:List aB,wt p (A.map (Mg fs n))=wt (fun r=>p (r.1,Nr fs n r)) A
 | []=>rfl
 | d::A=>by simp only[fI,wt,Mk fs n p A];rfl
theorem aRX(h3:n.Op=3)(hla:ta.length<=12)(h:NIn ta A)(h':NIn ta B):mC fs n [A,B]=some (cons (A++B)):=by have hal:=h.len;have hbl:=h'.len;have ho:=(h.okD hla).app (h'.okD hla);unfold mC Hz;simp only[Tr.den];rw[aE (dS (by omega)),aE (dS (by omega)),aA (eX h3),aA (by simp),aA (by simp)];rw[show ([A,B]:List (List aB)).getD (0:Int).toNat default=A from rfl,show ([A,B]:List (List aB)).getD (1:Int).toNat default=B from rfl,aWZ [A,B] (by simp; omega) (by simp)];simp only[aJ,List.flatten_cons,List.flatten_nil,eU];rw[oL _ ho.r ho.n (by rw[bX]; omega)]; rfl
theorem aVH{tb:List Int}(h6:n.Op=6)(hB:okB n)(hk:n.Key.length<=20/\n.Key2.length<=20)(hla:ta.length<=12)(hlb:tb.length<=12)(hka:okC n.Key ta.length)(hkb:okC n.Key2 tb.length)(h:NIn ta A)(h':NIn tb B):
  mC fs n [A,B]=some (cons (rG n A B)):=by
 have hal:=h.len;have hbl:=h'.len;have iA:okI n 0 A:=h.okI hla hka;have iB:okI n 1 B:=h'.okI hlb hkb;have ho:=Lw iA iB;have hlen:(rG n A B).length<=200*201:=gY (Fw (c:=200) hbl) (sX hal (cR _));unfold mC Hz;simp only[Tr.den];rw[aE (dS (by omega)),aE (dS (by omega)),aE (dS (by omega)),aE (dS (by omega)),aE (dS (by omega)),aA (eX h6),aA (by simp),aA (by simp)];rw[show ([A,B]:List (List aB)).getD (0:Int).toNat default=A from rfl,show ([A,B]:List (List aB)).getD (1:Int).toNat default=B from rfl,aRH ⟨.inl ⟨h6,hB⟩,by omega,by omega⟩ h6 hB iA iB (by omega) (by omega)];simp only[aJ];rw[oL _ ho.r ho.n (by omega)]; rfl
theorem aBO(X:List aB)(ho:jV X)(hl:X.length<=1000000000000):aOH X X=some true:=by
 unfold aOH aVX;simp only[Tr.den];rw[aE (Qv rfl)];have h2:=bB (bd:=fun s=>(Eh X X s).den) (fun k=>(k:Int)) X.length (r:=.inl ()) (fun k hk=>?_) ?_
 ·exact(congrArg (fun x=>Option.bind x _) h2).trans rfl
 ·have hd:=ho _ (aQ hk);unfold Eh;simp only[Tr.den,aR];rw[aA (bJ (by omega)),aA (by omega),aA (by omega),Wx _ _ hd hd,(lH (x:=X.getD k default) (y:=X.getD k default)).2 rfl];simp only[aJ,bne_self_eq_false,dO,dL];rw[aA (by omega),aA (by omega)];simp only[aJ,dO,dL];rw[aN (by omega)]
 ·unfold Eh;simp only[Tr.den];rw[aE (cB (by omega))]
theorem Ug{R R':List aB}{a:aB}(h:bZ R (a.Time-n.Keep+1) a.Time=bZ R' (a.Time-n.Keep+1) a.Time):kJ n R a=kJ n R' a:=by unfold kJ; rw[h]
theorem sU{f:aB->Int}(q:aB->Bool):∀ {l:List aB},(∀ x,x∈l->q x=false->f x=0)->Em f l=Em f (l.filter q)
 | [],_=>rfl
 | x::l,h=>by
  have ih:=sU q (l:=l) fun y hy=>h y (cH _ hy);rw[kG];cases hq:q x with
  | true=>simp only[fJ,Em,ih]
  | false=>have:=h x cC hq;simp only[dO,dL,Em]; omega
theorem aTQ{tb:List Int}(h7:n.Op=7)(hK:1<=n.Keep/\n.Keep<=10000)(hk:n.Key.length<=20/\n.Key2.length<=20)(hla:ta.length<=12)(hlb:tb.length<=12)(hka:okC n.Key ta.length)(hkb:okC n.Key2 tb.length)(h:NIn ta A)(h':NIn tb B):
  mC fs n [A,B]=some (cons (rG n A B)):=by
 have hal:=h.len;have hbl:=h'.len;have iA:okI n 0 A:=h.okI hla hka;have iB:okI n 1 B:=h'.okI hlb hkb;have ho:=Lw iA iB;have hlen:(rG n A B).length<=200*201:=gY (Fw (c:=200) hbl) (sX hal (cR _));unfold mC Hz;simp only[Tr.den];rw[aE (dS (by omega)),aE (dS (by omega)),aE (dS (by omega)),aE (dS (by omega)),aE (dS (by omega)),aE (dS (by omega)),aA (eX h7),aA (by simp),aA (by simp)];rw[show ([A,B]:List (List aB)).getD (0:Int).toNat default=A from rfl,show ([A,B]:List (List aB)).getD (1:Int).toNat default=B from rfl,aMY ⟨.inr ⟨h7,hK⟩,by omega,by omega⟩ (by omega) hK iA iB h'.can.ts (by omega) (by omega)];simp only[aJ];rw[oL _ ho.r ho.n (by omega)]; rfl
theorem Pn(n:aG)(key:List aF)(lo:Int):∀ (a u:List dM),(jK n key lo u a).length<=a.length
 | [],u=>cR _
 | q::a,u=>by
  rw[jK,bX,dA];have h1:=Pn n key lo a (u++[q]);have h2:(if lo<=q.time_ then Ck n key (u++[q]) else []).length<=1:=by
   split
   ·unfold Ck; split <;> simp
   ·simp
  omega
theorem Re(n:aG)(key:List aF)(lo:Int)(hk:key.length<=10):∀ (a u:List dM),okD (jK n key lo u a)
 | [],u=>okD.nil
 | q::a,u=>by
  rw[jK];refine okD.app ?_ (Re n key lo hk a _);split
  ·unfold Ck;split
   ·refine⟨fun x hx=>?_,fun x hx=>?_⟩
    ·rw[bY.1 hx];unfold okR;simp only[bX,dA,fG]; omega
    ·rw[bY.1 hx]; exact⟨by simp only; omega,by simp only; omega⟩
   ·exact okD.nil
  ·exact okD.nil
noncomputable def rV (fs:List aV)(n:aG)(ks:List ByteArray)(a:List aB):List aB:=ks.flatMap fun k=>Nq fs n (ofK n 0 k a)
theorem Pu(hn:aID n)(l:List aB):okD (Nq fs n l):=Re _ _ _ (by unfold nT; rw[bQ]; exact hn.key) _ _
theorem Rt(hn:aID n)(ks:List ByteArray)(a:List aB):okD (rV fs n ks a):=⟨fun x hx=>by
  obtain⟨k,hk,hx⟩:=nF.1 hx;exact(Pu hn _).r x hx,fun x hx=>by
  obtain⟨k,hk,hx⟩:=nF.1 hx;exact(Pu hn _).n x hx⟩
theorem Pi(h:∀ d,d∈l->d.N<=1000):(Nq fs n l).length<=l.length*1000:=by refine gY (Pn _ _ _ _ _) ?_;rw[<-Wo,bQ];exact Ob h
theorem aTY(hn:aID n)(h:aAZ fs n a)(hc:Can a)(hl:a.length<=1000)  (r:List (List aB)):mC fs n (a::r)=some (cons (rV fs n (cS (aW (bW n 0 a))) a)):=by
 have z0:(a::r).getD (0:Int).toNat default=a:=rfl;have hop:=hn.op;have hml:=jG n 0 a;have hks:(cS (aW (bW n 0 a))).length<=1000:=by rw[jP]; unfold aW; rw[bQ]; omega
 have hkl:∀ k,(Nq fs n (ofK n 0 k a)).length<=1000000:=fun k=>by have h1:=Pi (fs:=fs) (n:=n) (l:=ofK n 0 k a) fun d hd=>h.nn d (jX.1 hd).1;have h2:=iU n 0 k a;omega
 have hal:∀ ks:List ByteArray,(rV fs n ks a).length<=ks.length*1000000:=fun ks=>by
  induction ks with
  | nil=>simp[rV]
  | cons k ks ih=>unfold rV at ih ⊢;rw[fH,bX,dA];have:=hkl k;omega
 unfold mC Hz;simp only[Tr.den,z0];rw[aE (dS (by omega)),aE (dS (by omega)),aE (dS (by omega)),aE (dS (by omega)),aE (dS (by omega)),aE (dS (by omega)),aE (dS (by omega)),aA (eX hop),aA (by simp),Nt h.i (by have:=hn.key; omega) (by omega)];simp only[aJ];generalize hKS:cS (aW (bW n 0 a))=ks at hks ⊢;have h1:=bB (bd:=fun s=>(Dn fs n (ks.map fun k=>ofK n 0 k a) s).den) (fun k=>(rV fs n (ks.take k) a,(k:Int))) ks.length (r:=.inl (rV fs n ks a)) (fun k hk=>?_) ?_
 ·rw[show (([]:List aB),(0:Int))=(fun k:Nat=>(rV fs n (ks.take k) a,(k:Int))) 0 from rfl,h1];simp only[aJ,sel];have hd:=Rt (fs:=fs) hn ks a;have hal':=hal ks;have:=sX hks (cR 1000000);rw[oL _ hd.r hd.n (by omega)];rfl
 ·unfold Dn;simp only[Tr.den,aR,bQ];have e0:(ks.map fun k=>ofK n 0 k a).getD k default=ofK n 0 (ks.getD k default) a:=by rw[bL (by rw[bQ]; exact hk),Gm,<-bL hk]
  have hsub:∀ x,x∈ofK n 0 (ks.getD k default) a->x∈a:=fun x hx=>(jX.1 hx).1;have hT:aAZ fs n (ofK n 0 (ks.getD k default) a):=⟨h.i.sub hsub,h.ev.sub hsub,fun d hd=>h.ty d (hsub d hd),fun d hd=>h.nn d (hsub d hd),by have:=iU n 0 (ks.getD k default) a; omega⟩;have hkey:∀ d,d∈ofK n 0 (ks.getD k default) a->nT n d.Row=nT n ((ofK n 0 (ks.getD k default) a).getD 0 default).Row:=fun d hd=>
   Ni (aQ (gR.2 fun h0=>by rw[h0]at hd; cases hd)) d hd
  rw[aA (bJ (by omega)),aA (by omega),e0,aKD hT hn (aKV hc).ts hkey];simp only[aJ];have h3:=hal (ks.take k);rw[cE]at h3;have h4:(jK n (nT n ((ofK n 0 (ks.getD k default) a).getD 0 default).Row) 0 [] (plA fs n (ofK n 0 (ks.getD k default) a))).length<=1000000:=hkl _;rw[aA (by omega),aN (by omega)];have e1:rV fs n (ks.take (k+1)) a=rV fs n (ks.take k) a++Nq fs n (ofK n 0 (ks.getD k default) a):=by unfold rV;rw[aO hk,qX,fH,List.flatMap_nil,eU]
  rw[e1]; rfl
 ·unfold Dn;simp only[Tr.den,bQ];rw[aE (cB (by omega)),dI]
def dR(n:aG):Int:=if n.Op=4\/n.Op=5\/n.Op=8 then n.Size-1 else if n.Op=6 then (if n.After>n.Before then n.After else n.Before) else if n.Op=7 then n.Keep-1 else 0
theorem bAY(k:Nat)(h:1<=k/\k<=8):G38 (k:Int)=some (if k<=2 then 2 else k):=by
 have:k=1\/k=2\/k=3\/k=4\/k=5\/k=6\/k=7\/k=8:=by omega
 rcases this with rfl | rfl | rfl | rfl | rfl | rfl | rfl | rfl <;> (unfold G38 T38; simp[Tr.den,xC])
theorem Tx(h:1<=n.Size/\n.Size<=10000):G96 n=some true:=by unfold G96 T96;simp only[Tr.den,xC,aJ];rw[bJ h]
theorem aIU(h:1<=n.Size/\n.Size<=10000):∃ f,G94 n=some (n.Size-1,f):=by
 unfold G94 T94;simp only[Tr.den];rw[bE (n:=n.Size-1) (by omega) (by omega)];by_cases h4:n.Op=4
 ·rw[aA (eX h4)];simp only[aJ];split <;> exact⟨_,rfl⟩
 ·rw[aE (dS h4)];simp only[aJ,dO,dL];exact⟨_,rfl⟩
theorem aYV(h:aBC n)(h4:n.Op=4):G93 n=some true:=by
 obtain⟨hz,hk⟩:=h.w h4;unfold G93 T93;simp only[Tr.den];rw[Tx hz];simp only[aJ,fJ,xC];rcases hk with hk | ⟨hk,hs,hm⟩ | ⟨hk,hs⟩
 ·rw[aA (eX hk)]
 ·rw[aE (dS (by omega)),aA (eX hk),aA (bJ (by omega)),aA (by omega),eX hm]; rfl
 ·rw[aE (dS (by omega)),aE (dS (by omega)),aA (eX hk),bJ hs]
theorem aOZ(h:aBC n)(h1:1<=n.Op):∃ f,G10 n=some (dR n,f):=by
 have ho:=h.op;obtain⟨k,hk⟩:∃ k:Nat,n.Op=k:=⟨n.Op.toNat,by omega⟩;have hk8:k=1\/k=2\/k=3\/k=4\/k=5\/k=6\/k=7\/k=8:=by omega
 have e38:=bAY k (by omega);have e91:G91 n=some true:=rfl;have e92:G92 n=some (0,0):=rfl;unfold G10 T10 G37 T37;simp only[Tr.den];rw[hk,e38];rcases hk8 with rfl | rfl | rfl | rfl | rfl | rfl | rfl | rfl
 ·refine⟨0,?_⟩;rw[show dR n=0 by unfold dR; simp[hk]];simp[Tr.den,e91,e92]
 ·refine⟨0,?_⟩;rw[show dR n=0 by unfold dR; simp[hk]];simp[Tr.den,e91,e92]
 ·refine⟨0,?_⟩;rw[show dR n=0 by unfold dR; simp[hk]];simp[Tr.den,e91,e92]
 ·have hz:=(h.w hk).1;obtain⟨f,hf⟩:=aIU hz;refine⟨f,?_⟩;rw[show dR n=n.Size-1 by unfold dR; simp[hk]];simp[Tr.den,aYV h hk,hf]
 ·obtain⟨hz,hK⟩:=h.t hk;obtain⟨f,hf⟩:=aIU hz;refine⟨f,?_⟩;have e95:G95 n=some true:=by unfold G95 T95;simp only[Tr.den];rw[Tx hz];simp only[aJ,fJ,xC,bJ hK]
  rw[show dR n=n.Size-1 by unfold dR; simp[hk]];simp[Tr.den,e95,hf]
 ·have hB:=h.j hk;refine⟨0,?_⟩;have e98:G98 n=some true:=by unfold G98 T98;simp only[Tr.den,xC,aJ];rw[aA (bJ hB.b),bJ hB.a]; rfl
  have e99:G99 n=some (if n.After>n.Before then n.After else n.Before,0):=rfl;rw[show dR n=(if n.After>n.Before then n.After else n.Before) by unfold dR; simp[hk]];simp[Tr.den,e98,e99]
 ·have hK:=h.a hk;refine⟨0,?_⟩;have e100:aYO n=some true:=by unfold aYO aXB;simp only[Tr.den,xC,aJ];rw[bJ hK]
  have e101:aTL n=some (n.Keep-1,0):=by unfold aTL aWD;simp only[Tr.den];rw[bE (by omega) (by omega)]
  rw[show dR n=n.Keep-1 by unfold dR; simp[hk]];simp[Tr.den,e100,e101]
 ·obtain⟨hz,hS⟩:=h.p hk;refine⟨0,?_⟩;have e102:aUN n=some true:=by unfold aUN aYT;simp only[Tr.den];rw[Tx hz];simp only[aJ,fJ,xC,bJ (show (1:Int)<=(n.Seq.length:Int)/\(n.Seq.length:Int)<=8 by omega)]
  have e103:aTO n=some (n.Size-1,0):=by unfold aTO aTA;simp only[Tr.den];rw[bE (by omega) (by omega)]
  rw[show dR n=n.Size-1 by unfold dR; simp[hk]];simp[Tr.den,e102,e103]
theorem Lf(l:List aB)(a b:Int)(hl:l.length<=1000000000000):aHV l a b=some (bZ l a b):=by
 unfold aHV aXM;simp only[Tr.den];have h1:=bB (bd:=fun s=>(Dk l a b s).den) (fun k=>(bZ (l.take k) a b,(k:Int))) l.length (r:=.inl (bZ l a b)) (fun k hk=>?_) ?_
 ·exact(congrArg (fun x=>Option.bind x _) h1).trans rfl
 ·have hlen:=pM (l.take k) a b;rw[cE]at hlen;unfold Dk;simp only[Tr.den,aR];rw[aA (bJ (by omega)),aA (by omega),wY hk,aN (by omega)];by_cases c1:(l.getD k default).Time>=a
  ·rw[aA (bJ c1),aA (by omega)];simp only[aJ];by_cases c2:(l.getD k default).Time<=b
   ·rw[aA (bJ c2),aA (by omega),aA (by simp only[eE]; omega),aA (by rw[bJ c2,bJ (show a<=_ from c1)]; rfl)];rfl
   ·rw[aE (cB c2),aE (by rw[gI c2]; simp),eU];rfl
  ·rw[aE (cB c1)];simp only[aJ,dO,dL];rw[aE (by rw[gI (show ¬ a<=_ from c1)]; simp),eU]
 ·unfold Dk;simp only[Tr.den];rw[aE (cB (by omega)),dI]
end Go.PL
