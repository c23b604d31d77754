/-
  Parts: Nodes that are shared, nodes that are dropped; what both programs' steps come to. Own work. Nodes that are dropped; what both programs' steps come to. Own work. The rules' step. Own work. Whether columns, expressions and functions are right is always answered; what is right may be evaluated. Own work. Expressions and functions that are right may be evaluated. Own work. What a node needs to be right, part by part. Own work. Valid plans have what the rules need. Own work. Valid plans. Own work. The example of the documentation. Own work. Chains of steps; the two laws. Own work.
-/
import Derived.Test.YtabcengbnoidlaaGreatDoorMi
import Derived.KernelRfl
set_option maxHeartbeats 4000000
namespace Go.PL
open Go
set_option linter.unusedVariables false
set_option maxRecDepth 20000
variable {A:Type} {b:Bool} {i:Nat} {l t:List Int} {m:Int} {ns:List aB}
theorem xH{S R:Type}[Inhabited A](f:A->A)(l:List A)(s:Nat)(hs:s<=l.length){st:List A->Nat->S}{bd:S->Option (S⊕R)}{r:List A->R}
  (h:∀ v (k:Nat),s<=k->k<l.length->v.length=l.length->v.getD k default=l.getD k default->bd (st v k)=some (.inl (st (v.set k (f (l.getD k default))) (k+1))))
  (hf:∀ v,v.length=l.length->bd (st v l.length)=some (.inr (r v))):bZ bd (st l s)=some (r (l.take s++(l.drop s).map f)):=by
 have:=mR (fun i=>st (l.take s++((l.drop s).take i).map f++(l.drop s).drop i) (s+i)) (l.length-s) (bd:=bd) (r:=r (l.take s++(l.drop s).map f)) (fun i hi=>?_) ?_
 ·have e0:l.take s++((l.drop s).take 0).map f++(l.drop s).drop 0=l:=by simp
  simp only[e0,tQ]at this;exact this
 ·have hi2:i<(l.drop s).length:=by rw[fG]; exact hi
  have hp:(l.take s++((l.drop s).take i).map f).length=s+i:=by rw[cY,dJ,hP,dJ,fG]; omega
  have hg:(l.take s++((l.drop s).take i).map f++(l.drop s).drop i).getD (s+i) default=l.getD (s+i) default:=by rw[cG,eG (by omega),hp,Ao,gV,gV,<-cG];rfl
  rw[h _ (s+i) (by omega) (by omega) (by simp; omega) hg];have:(l.take s++((l.drop s).take i).map f++(l.drop s).drop i).set (s+i) (f (l.getD (s+i) default))=l.take s++((l.drop s).take (i+1)).map f++(l.drop s).drop (i+1):=by
   rw[List.set_append_right _ _ (by omega),hp,Ao,yS hi2,List.set_cons_zero,dT hi2,Cj,<-gT,gT _ _ (List.drop (i+1) _)]
   congr 1
   rw[show (l.drop s).getD i default=l.getD (s+i) default by simp]; rfl
  rw[this,nY]
 ·have e1:(l.drop s).take (l.length-s)=l.drop s:=fQ (by rw[fG]; omega);have e2:(l.drop s).drop (l.length-s)=[]:=List.drop_eq_nil_of_le (by rw[fG]; omega);rw[e1,e2,jD,show s+(l.length-s)=l.length by omega];exact hf _ (by rw[cY,dJ,hP,fG]; omega)
def Kd(k m j:Int):Int:=if j=k then m else j
def Gx(k m:Int)(n:aB):aB:=inG n (Kd k m)
def iC(ns:List aB)(k:Nat)(m:Int):List aB:=ns.take (k+1)++(ns.drop (k+1)).map (Gx k m)
noncomputable def rl7 (p:aE)(k:Nat)(m:Int):Option (List aB):=open Classical in if 0<=m/\m<(k:Int)/\k+1<p.Nodes.length/\nd p k=nd p m.toNat then some (iC p.Nodes k m) else none
theorem Sh{p:aE}{k:Nat}(h:¬ (0<=m/\m<(k:Int)/\k+1<p.Nodes.length/\nd p k=nd p m.toNat)):rl7 p k m=none:=aF h
theorem Ux{p:aE}{k:Nat}(h:0<=m/\m<(k:Int)/\k+1<p.Nodes.length/\nd p k=nd p m.toNat):rl7 p k m=some (iC p.Nodes k m):=aA h
theorem Bb{k:Nat}(hk:k<ns.length):(iC ns k m).length=ns.length:=by rw[iC,cY,dJ,hP,fG]; omega
theorem Cm{k:Nat}(hk:k<ns.length)(hi:i<=k):(iC ns k m).getD i default=ns.getD i default:=by rw[iC,cG,eU (by rw[dJ]; omega),Dr (by omega),<-cG]
theorem Ce{k:Nat}(hi:k<i)(h:i<ns.length):(iC ns k m).getD i default=Gx k m (ns.getD i default):=by rw[iC,cG,eG (by rw[dJ]; omega),dJ,fA,gV,show k+1+(i-min (k+1) ns.length)=i by omega,gG h,eR h];rfl
theorem vS{k:Nat}(hk:k<ns.length){j:Int}(hj:j.toNat<ns.length):ncA (iC ns k m) j=ncA ns j:=by
 unfold ncA;by_cases h:j.toNat<=k
 ·rw[Cm hk h]
 ·rw[Ce (by omega) hj]; rfl
theorem WP.share{p:aE}(h:WP p){k:Nat}(hc:0<=m/\m<(k:Int)/\k+1<p.Nodes.length/\nd p k=nd p m.toNat):WP ⟨p.Funcs,iC p.Nodes k m⟩:=by
 obtain⟨h0,h1,h2,h3⟩:=hc;have hk:k<p.Nodes.length:=by omega
 have hlen:=Bb (m:=m) hk;refine⟨h.f,h.fB,h.fw,by show (iC p.Nodes k m).length<=40; rw[hlen]; exact h.n,fun i hi=>?_,?_⟩
 ·have hi:i<(iC p.Nodes k m).length:=hi;rw[hlen]at hi;show WN p.Funcs.length (ncA (iC p.Nodes k m)) i ((iC p.Nodes k m).getD i default);have hw:=h.w i hi;by_cases hik:i<=k
  ·rw[Cm hk hik];refine hw.nc fun j hj=>?_;have:=hw.hin j hj;exact⟨vS hk (by omega),this.2⟩
  ·rw[Ce (by omega) hi];refine hw.map _ fun j hj=>?_;have:=hw.hin j hj;unfold Kd;by_cases hjk:j=(k:Int)
   ·rw[aA hjk,vS hk (by omega)];refine⟨?_,h0,by omega⟩;have e:(nd p k).Cols.length=(nd p m.toNat).Cols.length:=by rw[h3]
    rw[hjk];show (nd p m.toNat).Cols.length=(nd p ((k:Int)).toNat).Cols.length;rw[aJ]; exact e.symm
   ·rw[aF hjk];exact⟨vS hk (by omega),this⟩
 ·intro x hx e he;have hx:x∈iC p.Nodes k m:=hx;rcases dZ.1 hx with hx | hx
  ·exact h.lw x (Af hx) e he
  ·obtain⟨y,hy,rfl⟩:=dW.1 hx;exact h.lw y (List.mem_of_mem_drop hy) e he
section
variable {p:aE} (h:WP p) {k:Nat} (hk:k<p.Nodes.length)
include h hk
theorem c7(m:Int):Lg ⟨p,k,m,nd p k⟩=some (rl7 p k m):=by
 have hn:=h.n;have hw:IntKind.i64.wrap ((p.Nodes.length:Int)-1)=(p.Nodes.length:Int)-1:=cQ (by omega) (by omega);have hw1:IntKind.i64.wrap ((k:Int)+1)=((k+1:Nat):Int):=bM (by omega);unfold Lg Nd;by_cases hc:0<=m/\m<(k:Int)/\k+1<p.Nodes.length/\nd p k=nd p m.toNat
 ·obtain⟨h0,h1,h2,h3⟩:=hc;rw[Ux ⟨h0,h1,h2,h3⟩];have hb:=Vz h (k:=m.toNat) (by omega);have q1:aDW (nd p m.toNat) (nd p k)=some true:=by rw[aEN hb,<-h3,pZ]
  have g1:(0<=m/\m<(p.Nodes.length:Int))=True:=eH (by omega);have w1:bZ (fun s=>(rA ⟨p,k,m,nd p k⟩ s).den) (p.Nodes,((k+1:Nat):Int))=some (.inl (iC p.Nodes k m)):=by
   refine xH (st:=fun v i=>(v,(i:Int))) (Gx k m) p.Nodes (k+1) (by omega) (r:=fun v=>Sum.inl v) (fun v i hsi hi hv hg=>?_) fun v hv=>?_
   ·have hbi:=(h.w i hi).b;have hii:=hbi.i;unfold rA;simp only[Tr.den,aJ,hg];rw[aA (bU (by omega)),aA (by omega),aA ⟨by omega,trivial⟩,qZ _ (by omega)];simp only[aK];rw[aA (by omega),aA (by omega),aA (by omega),aA ⟨by omega,trivial,trivial⟩];rw[oZ (st:=fun w j=>(w,j)) (Kd k m) (p.Nodes.getD i default).In (r:=fun w=>.inl (v.set i (gJ (p.Nodes.getD i default) w (p.Nodes.getD i default).Cols))) (by omega) (fun w j hj hwl hwg=>?_) fun w hwl=>?_]
    ·simp only[aK,dN,bM (show i<9223372036854775807 by omega)];rfl
    ·unfold uX;simp only[Tr.den,aJ,hwg];rw[aA (bU (by omega)),aA (by omega),aA (by omega)];by_cases hjk:(p.Nodes.getD i default).In.getD j default=(k:Int)
     ·rw[aA (dB hjk),aA (by omega),aA ⟨by omega,trivial,trivial⟩,aA (by omega),aA (by omega),aA (by simp; omega),Kd,aA hjk];rfl
     ·rw[aF (eC hjk),Kd,aF hjk,<-hwg,kO (by omega)];rfl
    ·unfold uX;simp only[Tr.den,hwl,aJ,hg];rw[aF (bP (by omega))];rfl
   ·unfold rA;simp only[Tr.den];rw[aF (bP (by omega))]
  simp only[Tr.den,cX (show m>=0 by omega),cX h1,hw,hw1,cX (show (k:Int)<(p.Nodes.length:Int)-1 by omega),bS,g1,lX,q1,aK,cS,dN,aHR p.Nodes (by omega),w1]
 ·rw[Sh hc];have hpre:(if decide (m>=0)=true then (if decide (m<(k:Int))=true then (if decide ((k:Int)<(p.Nodes.length:Int)-1)=true then (if 0<=m/\m<(p.Nodes.length:Int) then (aDW (nd p m.toNat) (nd p k)).bind (fun r=>Ag (some (Sum.inr none)) (fun _=>some (Sum.inl ():Unit⊕Option (List aB))) (if r=true then some () else none)) else none) else some (Sum.inr none)) else some (Sum.inr none)) else some (Sum.inr none))=some (Sum.inr none):=by
   by_cases h0:m>=0
   ·rw[aA (bU h0)];by_cases h1:m<(k:Int)
    ·rw[aA (bU h1)];by_cases h2:(k:Int)<(p.Nodes.length:Int)-1
     ·have hb:=Vz h (k:=m.toNat) (by omega);rw[aA (bU h2),aA (by omega),aEN hb];have:eqD (nd p m.toNat) (nd p k)=false:=by
       cases he:eqD (nd p m.toNat) (nd p k) with
       | false=>rfl
       | true=>exact absurd ⟨h0,h1,by omega,(eS.1 he).symm⟩ hc
      rw[this]; rfl
     ·rw[aF (bP h2)]
    ·rw[aF (bP h1)]
   ·rw[aF (bP h0)]
  simp only[Tr.den,hw,lX,cT,cO,bY,aK,cV]at hpre ⊢;rw[hpre];rfl
theorem r7(m:Int):∃ z,Nw ⟨p⟩ k m=some z/\RA ((rl7 p k m).map fun l=>⟨p.Funcs,l⟩) z:=by
 have hn:=h.n;have hw:IntKind.i64.wrap ((p.Nodes.length:Int)-1)=(p.Nodes.length:Int)-1:=cQ (by omega) (by omega);have hw1:IntKind.i64.wrap ((k:Int)+1)=((k+1:Nat):Int):=bM (by omega);have g0:(0<=(k:Int)/\(k:Int)<(p.Nodes.length:Int))=True:=eH (by omega);unfold Nw Kq;by_cases hc:0<=m/\m<(k:Int)/\k+1<p.Nodes.length/\nd p k=nd p m.toNat
 ·obtain⟨h0,h1,h2,h3⟩:=hc;rw[Ux ⟨h0,h1,h2,h3⟩];have hb:=Vz h hk;have q1:aCT (nd p k) (nd p m.toNat)=some true:=by rw[aGA hb,<-h3,pZ]
  have g1:(0<=m/\m<(p.Nodes.length:Int))=True:=eH (by omega);have g2:(0<=((k+1:Nat):Int)/\((k+1:Nat):Int)<=(p.Nodes.length:Int)/\(p.Nodes.length:Int)<=(p.Nodes.length:Int))=True:=eH (by omega);have w1:bZ (fun s=>(nP k m p s).den) (p.Nodes,0)=some (.inl (iC p.Nodes k m)):=by
   have:=xH (bd:=fun s=>(nP k m p s).den) (st:=fun v i=>(v,((i-(k+1):Nat):Int))) (Gx k m) p.Nodes (k+1) (by omega) (r:=fun v=>Sum.inl v) (fun v i hsi hi hv hg=>?_) fun v hv=>?_
   ·rw[Ao]at this;exact this
   ·have hbi:=(h.w i hi).b;have hii:=hbi.i;have ei:k+1+(i-(k+1))=i:=by omega
    unfold nP;simp only[Tr.den,hw1,aJ,ei,hg];rw[aA (bU (by omega)),aA (by omega),aA (by omega),aA ⟨by omega,trivial,trivial⟩];rw[oZ (st:=fun w j=>(w,j)) (Kd k m) (p.Nodes.getD i default).In (r:=fun w=>.inl (v.set i (gJ (p.Nodes.getD i default) w (p.Nodes.getD i default).Cols))) (by omega) (fun w j hj hwl hwg=>?_) fun w hwl=>?_]
    ·simp only[aK,dN];rw[bM (by omega),show i-(k+1)+1=i+1-(k+1) by omega];rfl
    ·unfold vN;simp only[Tr.den,hw1,aJ,ei,hg,hwg];rw[aA (bU (by omega)),aA (by omega),aA (by omega)];by_cases hjk:(p.Nodes.getD i default).In.getD j default=(k:Int)
     ·rw[aA (dB hjk),aA (by omega),aA (by omega),aA (by simp; omega),Kd,aA hjk];rfl
     ·rw[aF (eC hjk),Kd,aF hjk,<-hwg,kO (by omega)];rfl
    ·unfold vN;simp only[Tr.den,hw1,aJ,ei,hg];rw[aF (bP (by omega))];rfl
   ·unfold nP;simp only[Tr.den,hw1];rw[aF (bP (by omega))]
  simp only[Tr.den,eI (show ¬ m<0 by omega),eI (show ¬ m>=(k:Int) by omega),hw,hw1,bF (show (k:Int)≠(p.Nodes.length:Int)-1 by omega),cO,bY,bS,g0,g1,g2,aJ,lX,q1,aK,jF,aCF h.b,w1,dN];exact⟨_,rfl,rfl⟩
 ·rw[Sh hc];have hpre:(if decide (m<0)=true then some true else (if decide (m>=(k:Int))=true then some true else (if ((k:Int)==(p.Nodes.length:Int)-1)=true then some true else (if 0<=m/\m<(p.Nodes.length:Int) then (aCT (nd p k) (nd p m.toNat)).bind (fun r=>some (!r)) else none))))=some true:=by
   by_cases h0:m<0
   ·rw[aA (bU h0)]
   ·rw[aF (bP h0)];by_cases h1:m>=(k:Int)
    ·rw[aA (bU h1)]
    ·rw[aF (bP h1)];by_cases h2:(k:Int)=(p.Nodes.length:Int)-1
     ·rw[aA (dB h2)]
     ·rw[aF (eC h2),aA (by omega),aGA (Vz h hk)];have:eqD (nd p k) (nd p m.toNat)=false:=by
       cases he:eqD (nd p k) (nd p m.toNat) with
       | false=>rfl
       | true=>exact absurd ⟨by omega,by omega,by omega,eS.1 he⟩ hc
      rw[this]; rfl
  simp only[Tr.den,hw,g0,bS,aJ,lX,hpre,aK,fX];exact⟨_,rfl,dP⟩
end
def uM(p:aE)(k:Nat):Bool:=p.Nodes.all fun n=>!decide ((k:Int)∈n.In)
def rl8(p:aE)(k:Nat):Option (List aB):=if k+1<p.Nodes.length/\uM p k=true then some [] else none
theorem Hh{p:aE}{k:Nat}(h:¬ (k+1<p.Nodes.length/\uM p k=true)):rl8 p k=none:=aF h
theorem aHG{p:aE}{k:Nat}(h:k+1<p.Nodes.length/\uM p k=true):rl8 p k=some []:=aA h
theorem aXP{p:aE}{k:Nat}(h:uM p k=true):jM p k [] where
 n:=by simp
 w:=fun i hi=>by cases hi
 last:=Or.inl ⟨rfl,fun n hn hk=>by have:=dO.1 h n hn;simp[hk]at this⟩
section
variable {p:aE} (h:WP p) {k:Nat} (hk:k<p.Nodes.length)
include h hk
theorem c8(m:Int):Lv ⟨p,k,m,nd p k⟩=some ((rl8 p k).bind (uS p k)):=by
 have hn:=h.n;have hw:IntKind.i64.wrap ((p.Nodes.length:Int)-1)=(p.Nodes.length:Int)-1:=cQ (by omega) (by omega);have w0:bZ (fun s=>(rK ⟨p,k,m,nd p k⟩ s).den) 0=some (if uM p k=true then .inl () else .inr none):=by
  refine jV (fun n=>!decide ((k:Int)∈n.In)) p.Nodes (by omega) (fun i hi=>?_) ?_
  ·have hb:=(h.w i hi).b.i;unfold rK;simp only[Tr.den,aJ,As hb,aK,cT];rw[aA (bU (by omega)),aA (by omega)];cases decide ((k:Int)∈(p.Nodes.getD i default).In) <;> rfl
  ·unfold rK;simp only[Tr.den];rw[aF (bP (by omega))]
 unfold Lv Ow;by_cases h2:k+1<p.Nodes.length
 ·by_cases hf:uM p k=true
  ·rw[aHG ⟨h2,hf⟩];simp only[Tr.den,hw,cX (show (k:Int)<(p.Nodes.length:Int)-1 by omega),bS,aK,cS,w0,hf,dN,gP];exact qG h hk (aXP hf)
  ·rw[Hh fun hh=>hf hh.2];simp only[Tr.den,hw,cX (show (k:Int)<(p.Nodes.length:Int)-1 by omega),bS,aK,cS,w0,hf,cO,bY,fL];rfl
 ·rw[Hh fun hh=>h2 hh.1];simp only[Tr.den,hw,eI (show ¬ (k:Int)<(p.Nodes.length:Int)-1 by omega),cO,bY,aK,cV];rfl
theorem r8(m:Int):∃ z,Kv ⟨p⟩ k m=some z/\RA ((rl8 p k).bind (fin p k)) z:=by
 have hn:=h.n;have hw:IntKind.i64.wrap ((p.Nodes.length:Int)-1)=(p.Nodes.length:Int)-1:=cQ (by omega) (by omega);have w0:Pn p.Nodes k=some (!uM p k):=by
  unfold Pn Ok aHW Of;simp only[Tr.den];rw[lW (fun n=>!decide ((k:Int)∈n.In)) p.Nodes (by omega) (fun i hi=>?_) ?_]
  ·rfl
  ·unfold vI;simp only[Tr.den];rw[aF (bP (by omega))]
  ·have hb:=(h.w i hi).b.i;unfold vI aCB Kr;simp only[Tr.den,aJ,As hb,aK];rw[aA (bU (by omega)),aA (by omega)];cases decide ((k:Int)∈(p.Nodes.getD i default).In) <;> rfl
 unfold Kv Qk;simp only[Tr.den,hw,w0,aK,fC,fX];by_cases hf:uM p k=true
 ·by_cases h2:k+1<p.Nodes.length
  ·rw[aHG ⟨h2,hf⟩];simp only[hf,jF,cO,bY,bF (show (k:Int)≠(p.Nodes.length:Int)-1 by omega),aK];exact kF h hk (aXP hf)
  ·rw[Hh fun hh=>h2 hh.1];simp only[hf,jF,cO,bY,dB (show (k:Int)=(p.Nodes.length:Int)-1 by omega),aK,bS];exact⟨_,rfl,dP⟩
 ·rw[Hh fun hh=>hf hh.2];simp only[Bool.eq_false_iff.2 hf,lL,bS,aK];exact⟨_,rfl,dP⟩
end
noncomputable def rlR (p:aE)(k:Nat)(r m:Int):Option (List aB):=
 if r=0 then rl0 p k else if r=1 then rl1 p k else if r=2 then rl2 p k else if r=3 then rl3 p k else if r=4 then rl4 p k m else if r=5 then rl5 p k else if r=6 then rl6 p k else if r=8 then rl8 p k else none
def aDN(p:aE)(x:cA):Prop:=(0<=x.Node/\x.Node<(p.Nodes.length:Int))/\(0<=x.Rule/\x.Rule<9)/\(x.N=0\/x.Rule=4\/x.Rule=7)
noncomputable def xT (p:aE)(x:cA):Option aE:=open Classical in
 if aDN p x then (if x.Rule=7 then (rl7 p x.Node.toNat x.N).map (fun l=>⟨p.Funcs,l⟩) else (rlR p x.Node.toNat x.Rule x.N).bind (fin p x.Node.toNat)) else none
section
variable {p:aE} (h:WP p) {k:Nat} (hk:k<p.Nodes.length)
include h hk
theorem bBS{r:Int}:∀ l,rlR p k r m=some l->jM p k l:=by
 intro l hl;unfold rlR at hl;by_cases q0:r=0
 ·rw[aA q0]at hl; exact aWB h hk l hl
 rw[aF q0]at hl;by_cases q1:r=1
 ·rw[aA q1]at hl;by_cases hc:(nd p k).Op=1/\(inn p k).Op=2
  ·obtain⟨a,ha,hb,hB,hE,hN⟩:=in1 h hk hc.1 hc.2;rw[aGP hc.1 hc.2,ha]at hl;obtain⟨g,hg,rfl⟩:=gB.1 hl;exact hN g hg
  ·rw[Hl hc]at hl; cases hl
 rw[aF q1]at hl;by_cases q2:r=2
 ·rw[aA q2]at hl;by_cases hc:(nd p k).Op=1/\(inn p k).Op=3
  ·obtain⟨a,b,ha,hb,hb2,hN⟩:=in2 h hk hc.1 hc.2;rw[aCH hc.1 hc.2,ha]at hl;cases hl;exact hN
  ·rw[Iq hc]at hl; cases hl
 rw[aF q2]at hl;by_cases q3:r=3
 ·rw[aA q3]at hl;by_cases hc:(nd p k).Op=1/\lS p (fx p k)=false
  ·by_cases h5:(inn p k).Op=5
   ·obtain⟨a,ha,hb,hN⟩:=aXQ h hk hc.1 h5;rw[aFE hc.1 hc.2 h5,ha]at hl;split at hl
    ·cases hl; exact hN
    ·cases hl
   ·by_cases h48:(inn p k).Op=4\/(inn p k).Op=8
    ·obtain⟨a,ha,hb,hN⟩:=aUI h hk hc.1 h48;rw[aBB hc.1 hc.2 h48,ha]at hl;split at hl
     ·rename_i hA;cases hl; exact hN hA
     ·cases hl
    ·rw[aBG h5 h48]at hl; cases hl
  ·rw[Jl hc]at hl; cases hl
 rw[aF q3]at hl;by_cases q4:r=4
 ·rw[aA q4]at hl;by_cases hc:(nd p k).Op=1/\lS p (fx p k)=false/\((m=0/\((inn p k).Op=6\/(inn p k).Op=7))\/(m=1/\(inn p k).Op=6))/\(cR (fx p k)).all (iR p k m)=true
  ·obtain⟨a,b,ha,hb,hb2,hL,hsum,hle,hN0,hN1⟩:=in4 h hk hc.1 (by omega);obtain⟨c1,c2,c3,c4⟩:=hc;rcases c3 with⟨rfl,c3⟩ | ⟨rfl,c3⟩
   ·rw[aFU c1 c2 c3 c4,ha]at hl;cases hl; exact hN0 c4
   ·rw[aDQ c1 c2 c3 c4,ha]at hl;cases hl; exact hN1 c4
  ·rw[qL hc]at hl; cases hl
 rw[aF q4]at hl;by_cases q5:r=5
 ·rw[aA q5]at hl;by_cases hc:(nd p k).Op=4/\(nd p k).Kind=1/\(nd p k).Step<(nd p k).Size
  ·rw[aHU hc]at hl; cases hl; exact aVG h hk hc.1
  ·rw[aFC hc]at hl; cases hl
 rw[aF q5]at hl;by_cases q6:r=6
 ·rw[aA q6]at hl;by_cases hc:(nd p k).Op=6
  ·obtain⟨a,b,hi,ha,hb,hc1,hcc,hN⟩:=in6 h hk hc;rw[aGC hc hi]at hl; cases hl; exact hN
  ·rw[aFB hc]at hl; cases hl
 rw[aF q6]at hl;by_cases q8:r=8
 ·rw[aA q8]at hl;by_cases hc:k+1<p.Nodes.length/\uM p k=true
  ·rw[aHG hc]at hl; cases hl; exact aXP hc.2
  ·rw[Hh hc]at hl; cases hl
 rw[aF q8]at hl;cases hl
end
theorem aJO{p:aE}(h:WP p){x:cA}:∀ q,xT p x=some q->WP q:=by
 intro q hq;unfold xT at hq;by_cases hx:aDN p x
 ·rw[aA hx]at hq;have hk:x.Node.toNat<p.Nodes.length:=by have:=hx.1; omega
  by_cases h7:x.Rule=7
  ·rw[aA h7]at hq;obtain⟨l,hl,rfl⟩:=gB.1 hq;by_cases hc:0<=x.N/\x.N<(x.Node.toNat:Int)/\x.Node.toNat+1<p.Nodes.length/\nd p x.Node.toNat=nd p x.N.toNat
   ·rw[Ux hc]at hl; cases hl; exact h.share hc
   ·rw[Sh hc]at hl; cases hl
  ·rw[aF h7]at hq;obtain⟨l,hl,hq⟩:=oK.1 hq;unfold fin at hq;split at hq
   ·rename_i hc;cases hq;exact h.rep hk (bBS h hk l hl) hc.1 hc.2
   ·cases hq
 ·rw[aF hx]at hq; cases hq
theorem Tv{p:aE}(h:WP p){L:Option (List aB)}(f:List aB->Option aE)(hf:∀ l,L=some l->f l=if (l.length:Int)<=40 then some ⟨p.Funcs,l⟩ else none):
  (some L).bind (Ag (some none) fun r=>Ag (some none) (fun _=>(aBY p.Funcs).bind fun r2=>some (some ((⟨r2,r⟩:aE),true))) (if decide ((r.length:Int)<=40)=true then some () else none))=some ((L.bind f).map fun q=>(q,true)):=by
 have hf1:=h.f;cases L with
 | none=>rfl
 | some l=>
  simp only[aK,cS,cT,aTU p.Funcs (by omega),hf l rfl];by_cases h4:(l.length:Int)<=40
  ·rw[aA (bU h4),aA h4]; rfl
  ·rw[aF (bP h4),aF h4]; rfl
theorem aCU{p:aE}(h:WP p){k:Nat}(hk:k<p.Nodes.length){L:Option (List aB)}:(L.bind (uS p k)).bind (fun l=>if (l.length:Int)<=40 then some ⟨p.Funcs,l⟩ else none)=L.bind (fin p k):=by
 cases L with
 | none=>rfl
 | some l=>
  show (uS p k l).bind _=fin p k l;unfold uS fin;by_cases ho:zR p.Funcs l=true
  ·rw[aA ho];show (if ((kB p.Nodes k l).length:Int)<=40 then _ else _)=_;rw[Jn hk];by_cases h4:(p.Nodes.length:Int)+l.length-1<=40
   ·rw[aA (by omega),aA ⟨h4,ho⟩]
   ·rw[aF (by omega),aF fun hh=>h4 hh.1]
  ·rw[aF ho,aF fun hh=>ho hh.2]; rfl
theorem aHJ{p:aE}(h:WP p)(x:cA):aFA p x=some (((xT p x).map fun q=>(q,true)).getD default):=by
 unfold aFA
 suffices hs:(aPF p x).den=some ((xT p x).map fun q=>(q,true)) by rw[hs]; rfl
 unfold aPF;by_cases hx:aDN p x
 ·obtain⟨⟨x1,x2⟩,⟨x3,x4⟩,x5⟩:=id hx;have hk:x.Node.toNat<p.Nodes.length:=by omega
  have hkn:((x.Node.toNat:Nat):Int)=x.Node:=by omega
  have gin:(0<=x.Node/\x.Node<(p.Nodes.length:Int))=True:=eH ⟨x1,x2⟩;have hp2:(if (x.N==0)=true then (some (Sum.inl ()):Option (Unit⊕Option (aE×Bool))) else if (x.Rule==4)=true then some (Sum.inl ()) else if (x.Rule==7)=true then some (Sum.inl ()) else some (Sum.inr none))=some (Sum.inl ()):=by
   by_cases e0:x.N=0
   ·rw[aA (dB e0)]
   ·rw[aF (eC e0)];by_cases e4:x.Rule=4
    ·rw[aA (dB e4)]
    ·rw[aF (eC e4),aA (dB (by omega))]
  have T:∀ {L:Option (List aB)},(some (L.bind (uS p x.Node.toNat))).bind (Ag (some none) fun r=>Ag (some none) (fun _=>(aBY p.Funcs).bind fun r2=>some (some ((⟨r2,r⟩:aE),true))) (if decide ((r.length:Int)<=40)=true then some () else none))=some ((L.bind (fin p x.Node.toNat)).map fun q=>(q,true)):=by intro L;rw[Tv h _ (fun l _=>rfl),aCU h hk]
  have C0:=c0 h hk x.N; have C1:=c1 h hk x.N; have C2:=c2 h hk x.N; have C3:=c3 h hk x.N; have C4:=c4 h hk x.N; have C5:=c5 h hk x.N; have C6:=c6 h hk x.N; have C7:=c7 h hk x.N; have C8:=c8 h hk x.N;rw[hkn]at C0 C1 C2 C3 C4 C5 C6 C7 C8;simp only[Tr.den,cX (show x.Node>=0 from x1),cX x2,cX (show x.Rule>=0 from x3),cX x4,bS,aK,cS,cT,cO,bY,cV,dN,gin,hp2,lX];unfold xT;rw[aA hx];unfold rlR;by_cases q0:x.Rule=0
  ·rw[aA q0,C0,aF (by omega),aA q0];rw[<-T];simp only[cT]
  rw[aF q0,aF q0];by_cases q1:x.Rule=1
  ·rw[aA q1,C1,aF (by omega),aA q1];rw[<-T];simp only[cT]
  rw[aF q1,aF q1];by_cases q2:x.Rule=2
  ·rw[aA q2,C2,aF (by omega),aA q2];rw[<-T];simp only[cT]
  rw[aF q2,aF q2];by_cases q3:x.Rule=3
  ·rw[aA q3,C3,aF (by omega),aA q3];rw[<-T];simp only[cT]
  rw[aF q3,aF q3];by_cases q4:x.Rule=4
  ·rw[aA q4,C4,aF (by omega),aA q4];rw[<-T];simp only[cT]
  rw[aF q4,aF q4];by_cases q5:x.Rule=5
  ·rw[aA q5,C5,aF (by omega),aA q5];rw[<-T];simp only[cT]
  rw[aF q5,aF q5];by_cases q6:x.Rule=6
  ·rw[aA q6,C6,aF (by omega),aA q6];rw[<-T];simp only[cT]
  rw[aF q6,aF q6];by_cases q7:x.Rule=7
  ·rw[aA q7,C7,aA q7];have:=Tv h (L:=rl7 p x.Node.toNat x.N) (fun l=>some ⟨p.Funcs,l⟩) (fun l hl=>by
    by_cases hc:0<=x.N/\x.N<(x.Node.toNat:Int)/\x.Node.toNat+1<p.Nodes.length/\nd p x.Node.toNat=nd p x.N.toNat
    ·rw[Ux hc]at hl; cases hl;have:=h.n;rw[Bb hk,aA (by omega)]
    ·rw[Sh hc]at hl; cases hl)
   simp only[cT]at this;rw[this]
   congr 2
   cases rl7 p x.Node.toNat x.N <;> rfl
  rw[aF q7,aF q7];have q8:x.Rule=8:=by omega
  rw[aA q8,C8,aA q8];rw[<-T];simp only[cT]
 ·have hr:xT p x=none:=aF hx;rw[hr];by_cases x1:x.Node>=0
  ·by_cases x2:x.Node<(p.Nodes.length:Int)
   ·by_cases x3:x.Rule>=0
    ·by_cases x4:x.Rule<9
     ·have e0:x.N≠0:=fun e=>hx ⟨⟨x1,x2⟩,⟨x3,x4⟩,Or.inl e⟩;have e4:x.Rule≠4:=fun e=>hx ⟨⟨x1,x2⟩,⟨x3,x4⟩,Or.inr (Or.inl e)⟩;have e7:x.Rule≠7:=fun e=>hx ⟨⟨x1,x2⟩,⟨x3,x4⟩,Or.inr (Or.inr e)⟩;have gin:(0<=x.Node/\x.Node<(p.Nodes.length:Int))=True:=eH ⟨x1,x2⟩;simp only[Tr.den,cX x1,cX x2,cX x3,cX x4,bS,aK,cS,cT,cO,bY,cV,dN,gin,bF e0,bF e4,bF e7,fL];rfl
     ·simp only[Tr.den,cX x1,cX x2,cX x3,eI x4,bS,aK,cO,bY,cV,fL];rfl
    ·simp only[Tr.den,cX x1,cX x2,eI x3,bS,aK,cO,bY,cV,fL];rfl
   ·simp only[Tr.den,cX x1,eI x2,bS,aK,cO,bY,cV,fL];rfl
  ·simp only[Tr.den,eI x1,aK,cO,bY,cV,fL];rfl
theorem aRH{p:aE}(h:WP p)(x:cA):∃ z,aWS p x=some z/\RA (xT p x) z:=by
 unfold aWS aUE;have hp1:(if decide (x.Node<0)=true then some true else some (decide (x.Node>=(p.Nodes.length:Int))))=some (!decide (0<=x.Node/\x.Node<(p.Nodes.length:Int))):=by
  by_cases x1:x.Node<0
  ·rw[aA (bU x1),eI (by omega)]; rfl
  ·rw[aF (bP x1)];by_cases x2:x.Node>=(p.Nodes.length:Int)
   ·rw[cX x2,eI (by omega)]; rfl
   ·rw[eI x2,cX (by omega)]; rfl
 have hp2:(if decide (x.Rule<0)=true then some true else if decide (x.Rule>=9)=true then some true else if (x.N != 0)=true then (if (x.Rule != 4)=true then some (x.Rule != 7) else some false) else some false)=some (!decide ((0<=x.Rule/\x.Rule<9)/\(x.N=0\/x.Rule=4\/x.Rule=7))):=by
  by_cases x1:x.Rule<0
  ·rw[aA (bU x1),eI (by omega)]; rfl
  ·rw[aF (bP x1)];by_cases x2:x.Rule>=9
   ·rw[aA (bU x2),eI (by omega)]; rfl
   ·rw[aF (bP x2)];by_cases e0:x.N=0
    ·rw[aF (by rw[Gz e0]; simp),cX (by omega)]; rfl
    ·rw[aA (My e0)];by_cases e4:x.Rule=4
     ·rw[aF (by rw[Gz e4]; simp),cX (by omega)]; rfl
     ·rw[aA (My e4)];by_cases e7:x.Rule=7
      ·rw[Gz e7,cX (by omega)]; rfl
      ·rw[My e7,eI (by omega)]; rfl
 by_cases hx:aDN p x
 ·obtain⟨⟨x1,x2⟩,⟨x3,x4⟩,x5⟩:=id hx;have hk:x.Node.toNat<p.Nodes.length:=by omega
  have hkn:((x.Node.toNat:Nat):Int)=x.Node:=by omega
  rw[cX (show 0<=x.Node/\x.Node<(p.Nodes.length:Int) from ⟨x1,x2⟩)]at hp1;rw[cX (show (0<=x.Rule/\x.Rule<9)/\(x.N=0\/x.Rule=4\/x.Rule=7) from ⟨⟨x3,x4⟩,x5⟩)]at hp2;have C0:=r0 h hk x.N; have C1:=r1 h hk x.N; have C2:=r2 h hk x.N; have C3:=r3 h hk x.N; have C4:=r4 h hk x.N; have C5:=r5 h hk x.N; have C6:=r6 h hk x.N; have C7:=r7 h hk x.N; have C8:=r8 h hk x.N;rw[hkn]at C0 C1 C2 C3 C4 C5 C6 C7 C8;have g:∀ i:Int,0<=i->i<9->(0<=i/\i<9)=True:=fun i a b=>eH ⟨a,b⟩;simp only[Tr.den,hp1,hp2,aK,jF,cO,bY];have eta:∀ y:Option (aE×Int),((y.bind fun r=>some (r.1.Funcs,r.1.Nodes,r.2)).bind fun v=>some ((⟨v.1,v.2.1⟩:aE),v.2.2))=y:=fun y=>by cases y <;> rfl
  unfold xT;rw[aA hx];unfold rlR;have fin':∀ {y:Option (aE×Int)} {L:Option aE} {i:Int},0<=i/\i<9->(∃ z,y=some z/\RA L z)->∃ z,((if 0<=i/\i<9 then y.bind fun r=>some (r.1.Funcs,r.1.Nodes,r.2) else none).bind fun v=>some ((⟨v.1,v.2.1⟩:aE),v.2.2))=some z/\RA L z:=by intro y L i hi hh;rw[aA hi,eta]; exact hh
  by_cases q0:x.Rule=0
  ·rw[aA q0,aF (c:=x.Rule=7) (by omega),aA q0];exact fin' (i:=0) (by omega) C0
  rw[aF q0,aF q0];by_cases q1:x.Rule=1
  ·rw[aA q1,aF (c:=x.Rule=7) (by omega),aA q1];exact fin' (i:=1) (by omega) C1
  rw[aF q1,aF q1];by_cases q2:x.Rule=2
  ·rw[aA q2,aF (c:=x.Rule=7) (by omega),aA q2];exact fin' (i:=2) (by omega) C2
  rw[aF q2,aF q2];by_cases q3:x.Rule=3
  ·rw[aA q3,aF (c:=x.Rule=7) (by omega),aA q3];exact fin' (i:=3) (by omega) C3
  rw[aF q3,aF q3];by_cases q4:x.Rule=4
  ·rw[aA q4,aF (c:=x.Rule=7) (by omega),aA q4];exact fin' (i:=4) (by omega) C4
  rw[aF q4,aF q4];by_cases q5:x.Rule=5
  ·rw[aA q5,aF (c:=x.Rule=7) (by omega),aA q5];exact fin' (i:=5) (by omega) C5
  rw[aF q5,aF q5];by_cases q6:x.Rule=6
  ·rw[aA q6,aF (c:=x.Rule=7) (by omega),aA q6];exact fin' (i:=6) (by omega) C6
  rw[aF q6,aF q6];by_cases q7:x.Rule=7
  ·rw[aA q7,aA q7];exact fin' (i:=7) (by omega) C7
  rw[aF q7,aF q7];have q8:x.Rule=8:=by omega
  rw[aA q8,aA q8];exact fin' (i:=8) (by omega) C8
 ·have hr:xT p x=none:=aF hx;rw[hr];by_cases x1:0<=x.Node/\x.Node<(p.Nodes.length:Int)
  ·rw[cX x1]at hp1;rw[eI fun hh=>hx ⟨x1,hh⟩]at hp2;simp only[Tr.den,hp1,hp2,aK,jF,lL,cO,bY,bS,fX];exact⟨_,rfl,dP⟩
  ·rw[eI x1]at hp1;simp only[Tr.den,hp1,aK,lL,bS];exact⟨_,rfl,rfl,by decide⟩
theorem aPV{q:aE}{z:aE×Int}(h:RA (some q) z):z=(q,0):=h
theorem aQB{z:aE×Int}(h:RA none z):z.1=⟨[],[]⟩/\z.2≠0:=h
theorem bR{α:Type}{y:α}:Sq b (some y) (fun _=>True):=aC.2 trivial
theorem aSR(a:ByteArray):(eA a).length=a.size:=by rw[eA,hP]; rfl
theorem oC:(⟨#[]⟩:ByteArray).toList=[]:=by rw[ByteArray.toList_eq]
theorem Vi(a:ByteArray):Sp (aRJ a) (fun _=>True):=by
 unfold aRJ aUB;simp only[Tr.den];by_cases h0:a.toList=[]
 ·rw[aA (by rw[h0,oC]; rfl)];exact bR
 ·have hs:0<a.size:=by
   rcases Nat.eq_zero_or_pos a.size with h | h
   ·exfalso;apply h0;rw[ByteArray.toList_eq];have:a.data.toList.length=0:=h;exact pG.1 this
   ·exact h
  rw[aF (by intro h;apply h0;have h:=pY.1 h;rw[h,oC])];by_cases h20:(a.size:Int)>20
  ·rw[aA (bU h20)];exact bR
  ·rw[aF (bP h20),aA (by omega)];refine Sq.bind (fun _=>True) ?_ fun j _=>?_
   ·refine bH (fun _=>?_) (fun _=>bR);rw[aA (by omega)];exact bR
   ·refine bH (fun _=>bR) (fun _=>?_);refine Sq.bind (fun _=>True) ?_ fun z _=>by cases z <;> exact bR
    refine dM (fun s=>s) (eA a).length (by rw[aSR]; omega) (fun _=>True) (fun s k _ hk hkN=>?_) trivial rfl;subst hk;unfold Uv;simp only[Tr.den];by_cases hc:k<(eA a).length
    ·rw[aA (bU (by omega)),aA (by omega)];refine Sq.bind (fun _=>True) ?_ fun j _=>?_
     ·repeat (first | exact bR | refine bH (fun _=>?_) (fun _=>?_))
     ·exact bH (fun _=>aC.2 trivial) (fun _=>aC.2 ⟨rfl,hc,trivial⟩)
    ·rw[aF (bP (by omega))];exact aC.2 trivial
theorem aLL(a:ByteArray):Sp (aSU a) (fun _=>True):=by
 unfold aSU aXL;simp only[Tr.den];refine Sq.bind (fun r=>r.length=3) (aC.2 rfl) fun r hr=>Sq.bind (fun _=>True) ?_ fun _ _=>bR;unfold bAF aTI;simp only[Tr.den];refine Sq.bind (fun _=>True) ?_ fun z _=>by cases z <;> exact bR
 refine dM (fun s=>s) r.length (by omega) (fun _=>True) (fun s k _ hk hkN=>?_) trivial rfl;subst hk;unfold Sa;simp only[Tr.den];by_cases hc:k<r.length
 ·rw[aA (bU (by omega)),aA (by omega)];exact bH (fun _=>aC.2 trivial) (fun _=>aC.2 ⟨rfl,hc,trivial⟩)
 ·rw[aF (bP (by omega))];exact aC.2 trivial
theorem Ts(a:ByteArray):Sp (aVY a) (fun _=>True):=by unfold aVY aVN;simp only[Tr.den];exact Sq.bind _ (aLL a) fun r _=>Sq.bind _ (Vi a) fun r2 _=>Sq.bind (fun _=>True) (bH (fun _=>bR) (fun _=>bR)) fun _ _=>bR
theorem aQG(a:Int):Sp (aWA a) (fun _=>True):=by
 unfold aWA aSO;simp only[Tr.den];by_cases h1:a<0
 ·rw[aA (bU h1)]; exact bR
 ·rw[aF (bP h1)];by_cases h2:a>=3
  ·rw[bU h2]; exact bR
  ·simp only[eI h2,aK,cO,bY];refine Sq.bind (fun r=>r.length=3) (aC.2 rfl) fun r hr=>?_;rw[aA (by omega)];exact bR
theorem aKG(l:List aS)(a:ByteArray)(h:l.length<=1000000000):Sp (aUG l a) (fun _=>True):=by
 unfold aUG aTQ aFY Kp;simp only[Tr.den];refine Sq.bind (fun _=>True) ?_ fun _ _=>bR;refine Sq.bind (fun _=>True) ?_ fun z _=>by cases z <;> exact bR
 refine dM (fun s=>s) l.length (by omega) (fun _=>True) (fun s k _ hk hkN=>?_) trivial rfl;subst hk;unfold Cn aEB Kw;simp only[Tr.den];by_cases hc:k<l.length
 ·rw[aA (bU (by omega)),aA (by omega)];simp only[aK];exact bH (fun _=>aC.2 trivial) (fun _=>aC.2 ⟨rfl,hc,trivial⟩)
 ·rw[aF (bP (by omega))];exact aC.2 trivial
theorem De(l:List aS)(h:l.length<=1000000000):∀ n i,i+n<=l.length->Sp (pW l n i) (fun _=>True)
 | 0,_,_=>bR
 | n+1,i,hi=>by
  unfold pW;refine Sq.bind (fun _=>True) ?_ fun j2 _=>Sq.bind (fun _=>True) ?_ fun j4 _=>bH (fun _=>De l h n (i+1) (by omega)) (fun _=>bR)
  ·unfold TWB;simp only[Tr.den];refine bH (fun _=>bR) fun _=>bH (fun _=>Sq.bind _ (Ts _) fun _ _=>bR) fun _=>bR
  ·unfold TWC;simp only[Tr.den];refine Sq.bind _ (Ts _) fun r5 _=>bH (fun _=>?_) fun _=>bR;refine Sq.bind _ (aQG _) fun r6 _=>bH (fun _=>?_) fun _=>bR;refine bH (fun _=>?_) fun _=>bR;rw[aA (by omega),aA (by omega)];exact Sq.bind _ (aKG _ _ (by simp; omega)) fun _ _=>bR
theorem aQF(l:List aS)(h:l.length<=1000000000):Sp (aJB l) (fun _=>True):=by unfold aJB;rw[aA (by omega)];obtain⟨y,hy,_⟩:=(De l h l.length 0 (by omega)).get;rw[hy]; exact bR
theorem aDV(n:Int):aXG n=some (decide (0<=n/\n<3)):=by
 unfold aXG aVI;simp only[Tr.den];by_cases h:n>=0
 ·rw[aA (bU h)];simp only[aK]
  congr 1
  rw[decide_eq_decide]; omega
 ·rw[aF (bP h),eI (by omega)]; rfl
theorem Za(l:List Int)(h:l.length<=1000000000):Sp (Nf l) (fun _=>True):=by
 unfold Nf Ra aHD Oo;simp only[Tr.den];rw[lW (fun x=>decide (0<=x/\x<3)) l (by omega) (fun k hk=>?_) ?_]
 ·exact bR
 ·unfold wQ;simp only[Tr.den];rw[aF (bP (by omega))]
 ·unfold wQ aZI aUT;simp only[Tr.den,aJ,aDV,aK];rw[aA (bU (by omega)),aA (by omega)];cases decide (0<=l.getD k default/\l.getD k default<3) <;> rfl
theorem Wy(l:List Int)(a:Int)(h:l.length<=1000000000):Sq b (Pj l a) (fun _=>True):=by
 unfold Pj Mk aGQ Ly;simp only[Tr.den];rw[lW (fun x=>!(x != a)) l (by omega) (fun k hk=>?_) ?_]
 ·exact bR
 ·unfold uY;simp only[Tr.den];rw[aF (bP (by omega))]
 ·unfold uY aFL Po;simp only[Tr.den,aJ,aK];rw[aA (bU (by omega)),aA (by omega)];by_cases hx:(l.getD k default != a)=true
  ·rw[aA hx,aF (by rw[hx]; simp)]
  ·rw[aF hx,aA (by rw[Bool.eq_false_iff.2 hx]; rfl)]
theorem oV(t n:Int)(l:List Int)(h:l.length<=1000000000):Sq b (Qr t n l) (fun _=>True):=by unfold Qr Mc;simp only[Tr.den];exact Sq.bind (fun _=>True) (bH (fun _=>Sq.bind _ (Wy l t h) fun _ _=>bR) fun _=>bR) fun _ _=>bR
theorem Ud(l:List Int)(n:Int):Sq b (aXR l n) (fun r=>r.2=true->0<=n/\n<(l.length:Int)):=by
 unfold aXR aWH;simp only[Tr.den];by_cases h1:n<0
 ·rw[aA (bU h1)];exact aC.2 fun h=>by cases h
 ·rw[aF (bP h1)];by_cases h2:n>=(l.length:Int)
  ·rw[aA (bU h2)];exact aC.2 fun h=>by cases h
  ·rw[aF (bP h2),aA (by omega),aDV];simp only[aK];refine bH (fun _=>aC.2 fun h=>by cases h) fun _=>?_;rw[aA (by omega)];exact aC.2 fun _=>by omega
theorem aQH(sc:eW)(e:aD):Sq b (aUZ sc e) (fun r=>r.2=true->e.Op≠21/\e.Op≠22/\(e.Op=3->0<=e.N/\e.N<(sc.cols_.length:Int))):=by
 unfold aUZ aTR;simp only[Tr.den];by_cases h0:e.Op=0
 ·rw[aA (dB h0)]; exact aC.2 fun _=>by omega
 rw[aF (eC h0)];by_cases h2:e.Op=2
 ·rw[aA (dB h2)]; exact Sq.bind (fun _=>True) (bH (fun _=>bR) fun _=>bR) fun _ _=>aC.2 fun _=>by omega
 rw[aF (eC h2)];by_cases h3:e.Op=3
 ·rw[aA (dB h3)]; exact Sq.bind _ (Ud _ _) fun r hr=>aC.2 fun h=>⟨by omega,by omega,fun _=>hr h⟩
 rw[aF (eC h3)];by_cases h4:e.Op=4
 ·rw[aA (dB h4)]; exact Sq.bind _ (Ud _ _) fun r hr=>aC.2 fun h=>by omega
 rw[aF (eC h4)];by_cases h1:e.Op=1
 ·rw[aA (dB h1)]; exact Sq.bind (fun _=>True) (bH (fun _=>bR) fun _=>bR) fun _ _=>aC.2 fun _=>by omega
 rw[aF (eC h1)];by_cases h5:e.Op=5
 ·rw[aA (dB h5)]; exact aC.2 fun _=>by omega
 rw[aF (eC h5)];exact aC.2 fun h=>by cases h
theorem aPO(e:aD)(l:List Int)(hl:l.length<=1000000000)(h0:l≠[]):Sq b (aUL e l) (fun r=>r.2=true->e.Op≠3/\e.Op≠22/\(e.Op=21->3<=l.length)):=by
 have hp:0<l.length:=List.length_pos_iff.2 h0;unfold aUL aTL;simp only[Tr.den];refine bH (fun _=>aC.2 fun h=>by cases h) fun _=>?_;by_cases h6:e.Op=6
 ·rw[aA (dB h6)]; exact Sq.bind _ (oV _ _ _ hl) fun _ _=>aC.2 fun _=>by omega
 rw[aF (eC h6)];by_cases h7:e.Op=7
 ·rw[aA (dB h7)]; exact Sq.bind _ (oV _ _ _ hl) fun _ _=>aC.2 fun _=>by omega
 rw[aF (eC h7)];by_cases h20:e.Op=20
 ·rw[aA (dB h20)]; exact Sq.bind _ (oV _ _ _ hl) fun _ _=>aC.2 fun _=>by omega
 rw[aF (eC h20)];refine Sq.bind (fun j=>j=true->8<=e.Op/\e.Op<=12) ?_ fun j4 hj4=>?_
 ·by_cases h8:e.Op=8
  ·rw[aA (dB h8)]; exact aC.2 fun _=>by omega
  rw[aF (eC h8)];refine Sq.bind (fun j=>j=true->8<=e.Op/\e.Op<=12) ?_ fun j hj=>aC.2 hj;by_cases h9:e.Op=9
  ·rw[aA (dB h9)]; exact aC.2 fun _=>by omega
  rw[aF (eC h9)];refine Sq.bind (fun j=>j=true->8<=e.Op/\e.Op<=12) ?_ fun j hj=>aC.2 hj;by_cases h10:e.Op=10
  ·rw[aA (dB h10)]; exact aC.2 fun _=>by omega
  rw[aF (eC h10)];refine Sq.bind (fun j=>j=true->8<=e.Op/\e.Op<=12) ?_ fun j hj=>aC.2 hj;by_cases h11:e.Op=11
  ·rw[aA (dB h11)]; exact aC.2 fun _=>by omega
  rw[aF (eC h11)];exact aC.2 fun h=>by have:=pY.1 h; omega
 refine bH (fun hc=>Sq.bind _ (oV _ _ _ hl) fun _ _=>aC.2 fun _=>by have:=hj4 hc; omega) fun _=>?_;refine Sq.bind (fun j=>j=true->13<=e.Op/\e.Op<=16) ?_ fun j9 hj9=>?_
 ·by_cases h8:e.Op=13
  ·rw[aA (dB h8)]; exact aC.2 fun _=>by omega
  rw[aF (eC h8)];refine Sq.bind (fun j=>j=true->13<=e.Op/\e.Op<=16) ?_ fun j hj=>aC.2 hj;by_cases h9:e.Op=14
  ·rw[aA (dB h9)]; exact aC.2 fun _=>by omega
  rw[aF (eC h9)];refine Sq.bind (fun j=>j=true->13<=e.Op/\e.Op<=16) ?_ fun j hj=>aC.2 hj;by_cases h10:e.Op=15
  ·rw[aA (dB h10)]; exact aC.2 fun _=>by omega
  rw[aF (eC h10)];exact aC.2 fun h=>by have:=pY.1 h; omega
 refine bH (fun hc=>?_) fun _=>?_
 ·rw[aA (by omega)];exact Sq.bind _ (oV _ _ _ hl) fun _ _=>aC.2 fun _=>by have:=hj9 hc; omega
 refine Sq.bind (fun j=>j=true->17<=e.Op/\e.Op<=18) ?_ fun j13 hj13=>?_
 ·by_cases h8:e.Op=17
  ·rw[aA (dB h8)]; exact aC.2 fun _=>by omega
  rw[aF (eC h8)];exact aC.2 fun h=>by have:=pY.1 h; omega
 refine bH (fun hc=>Sq.bind _ (oV _ _ _ hl) fun _ _=>aC.2 fun _=>by have:=hj13 hc; omega) fun _=>?_;by_cases h19:e.Op=19
 ·rw[aA (dB h19)]; exact Sq.bind _ (oV _ _ _ hl) fun _ _=>aC.2 fun _=>by omega
 rw[aF (eC h19)];by_cases h21:e.Op=21
 ·rw[aA (dB h21),cQ (n:=(l.length:Int)-1) (by omega) (by omega)];refine Sq.bind (fun j=>j=true->3<=l.length) ?_ fun j hj=>aC.2 fun h=>⟨by omega,by omega,fun _=>hj h⟩;rw[aA (by omega)];by_cases h3:(l.length:Int)=3
  ·rw[aA (dB h3),aA (by omega)];refine bH (fun _=>?_) fun _=>aC.2 fun h=>by cases h
   rw[aA (by omega),aA (by omega)];exact aC.2 fun _=>by omega
  ·rw[aF (eC h3)];exact aC.2 fun h=>by cases h
 rw[aF (eC h21)];exact aC.2 fun h=>by cases h
theorem aMM(sc:eW)(e:aD)(h:cC e)(hf:∀ f,f∈sc.funcs_->f.Params.length<=1000000000):Sp (aRD sc e) (fun r=>r.2=true->wfE sc.funcs_.length sc.cols_.length e):=by
 unfold aRD aTG;refine fV _ _ _ (fun a=>cC a.2/\∀ f,f∈a.1.funcs_->f.Params.length<=1000000000) (fun a=>SizeOf.sizeOf a.2) (fun (a:eW×aD) (r:Int×Bool)=>r.2=true->wfE a.1.funcs_.length a.1.cols_.length a.2) (fun b f a ha hrec=>?_) true (sc,e) ⟨h,hf⟩;clear h hf sc e;obtain⟨sc,e⟩:=a;obtain⟨he,hf⟩:=ha;simp only at he hf hrec;obtain⟨hs,hl,hA⟩:=he.get;have hr:∀ i,i<e.Args.length->Sq b (f.1 (sc,e.Args.getD i default)) (fun r=>r.2=true->wfE sc.funcs_.length sc.cols_.length (e.Args.getD i default)):=fun i hi=>hrec (sc,_) ⟨hA i hi,hf⟩ (dQ (aR hi));unfold aNM;simp only[Tr.den];refine Sq.bind (fun z=>match z with | .inl l=>l.length=e.Args.length/\∀ x,x∈e.Args->wfE sc.funcs_.length sc.cols_.length x | .inr r=>r.2=false) ?_ fun z hz=>?_
 ·refine dM (fun s=>s.2) e.Args.length (by omega) (fun s=>s.1.length=s.2.toNat/\∀ i,i<s.2.toNat->wfE sc.funcs_.length sc.cols_.length (e.Args.getD i default)) (fun s k hI hk hkN=>?_) ⟨rfl,fun i hi=>absurd hi (jP _)⟩ rfl;obtain⟨v1,v2⟩:=s;simp only at hk hI;subst hk;simp only[aJ]at hI;unfold Tc;simp only[Tr.den,aJ];by_cases hc:k<e.Args.length
  ·rw[aA (bU (by omega)),aA (by omega)];refine Sq.bind _ (hr k hc) fun r hr'=>?_;cases hr2:r.2 with
   | false=>simp only[lL,bS];exact aC.2 rfl
   | true=>
    simp only[jF,cO,bY];rw[aA (by simp only[nZ]; omega)];refine aC.2 ⟨rfl,hc,?_,fun i hi=>?_⟩
    ·simp only[cY,nZ];rw[bM (by omega),aJ,hI.1]
    ·simp only at hi;rw[bM (by omega),aJ]at hi;by_cases hik:i=k
     ·subst hik; exact hr' hr2
     ·exact hI.2 i (by omega)
  ·rw[aF (bP (by omega))];refine aC.2 ?_;simp only[sel];refine⟨by omega,fun x hx=>?_⟩;obtain⟨i,hi,rfl⟩:=iS hx;exact hI.2 i (by omega)
 cases z with
 | inr r=>exact aC.2 fun h=>by rw[show r.2=false from hz]at h; cases h
 | inl l=>
  obtain⟨hlen,hargs⟩:=hz;simp only[sel];have hno:(some ((0:Int),false))=some ((0:Int),false):=rfl;refine Sq.bind (fun j=>j.1=l/\(j.2=false->e.S.toList=[]\/e.Op=1)) ?_ fun j hj=>?_
  ·by_cases h0:e.S.toList=[]
   ·rw[aF (by rw[h0,oC]; decide)];exact aC.2 ⟨rfl,fun _=>Or.inl h0⟩
   ·refine bH (fun _=>aC.2 ⟨rfl,fun h=>Or.inr ?_⟩) (fun hh=>aC.2 ⟨rfl,fun _=>Or.inl ?_⟩)
    ·simp only[bne_eq_false_iff_eq]at h; exact h
    ·rw[oC]at hh;have:=Bool.not_eq_false' ..▸hh;simpa using this
  obtain⟨j5,j6⟩:=j;simp only at hj;obtain⟨hj5,hj⟩:=hj;subst hj5;refine bH (fun _=>aC.2 fun h=>by cases h) fun hj6=>?_;have hS:=hj hj6;refine Sq.bind (fun k=>k.1=j5/\(k.2=true->e.Args=[]/\e.Op≠22)/\(k.2=false->j5≠[]\/e.Op=22)) ?_ fun k hk=>?_
  ·by_cases h0:(j5.length:Int)=0
   ·rw[aA (dB h0)];refine aC.2 ⟨rfl,fun h=>⟨pG.1 (by omega),by simpa using h⟩,fun h=>Or.inr (by simpa using h)⟩
   ·rw[aF (eC h0)];exact aC.2 ⟨rfl,fun h=>(by cases h),fun _=>Or.inl fun h=>h0 (by rw[h]; rfl)⟩
  obtain⟨j7,j8⟩:=k;simp only at hk;obtain⟨hk5,hk1,hk2⟩:=hk;subst hk5;have emp:e.S.toList=[]->e.S=⟨#[]⟩:=fun h=>xY.1 (by rw[h,oC]; rfl);refine bH (fun h8=>?_) fun h8=>?_
  ·obtain⟨a1,a2⟩:=hk1 h8;refine Sq.bind _ (aQH sc e) fun r hr9=>aC.2 fun h=>?_;obtain⟨b1,b2,b3⟩:=hr9 h;refine .mk (fun h=>absurd h b1) (fun h=>absurd h b2) (fun h3=>⟨(b3 h3).1,(b3 h3).2,emp (hS.resolve_right (by omega)),a1⟩) hargs
  ·by_cases h22:e.Op=22
   ·rw[aA (dB h22)];refine Sq.bind (fun j=>j=false->0<=e.N/\e.N<(sc.funcs_.length:Int)) ?_ fun j hj10=>?_
    ·by_cases n1:e.N<0
     ·rw[aA (bU n1)]; exact aC.2 fun h=>by cases h
     ·rw[aF (bP n1)];by_cases n2:e.N>=(sc.funcs_.length:Int)
      ·rw[aA (bU n2)]; exact aC.2 fun h=>by cases h
      ·rw[aF (bP n2),aA (by omega),nC (gY (hf _ (aR (by omega))) (by omega))];exact aC.2 fun _=>by omega
    ·refine bH (fun _=>aC.2 fun h=>by cases h) fun h10=>?_;rw[aA (hj10 h10)];exact aC.2 fun _=>.mk (fun h=>by omega) (fun _=>hj10 h10) (fun h=>by omega) hargs
   ·rw[aF (eC h22)];have hne:j7≠[]:=(hk2 h8).resolve_right h22;refine Sq.bind _ (aPO e j7 (by omega) hne) fun r hr12=>aC.2 fun h=>?_;obtain⟨b1,b2,b3⟩:=hr12 h;exact .mk (fun h=>by have:=b3 h; omega) (fun h=>absurd h b2) (fun h=>absurd h b1) hargs
theorem Tp(sc:eW)(e:aD)(h:cC e)(hf:∀ f,f∈sc.funcs_->f.Params.length<=1000000000):Sp (aWU sc e) (fun r=>r.2=true->wfE sc.funcs_.length sc.cols_.length e/\jL e<=12):=by
 unfold aWU aYJ;simp only[Tr.den,aCO h,aK];by_cases h1:jL e>12
 ·rw[aA (bU h1)]; exact aC.2 fun h=>by cases h
 ·rw[aF (bP h1)];exact Sq.bind _ (aMM sc e h hf) fun r hr=>bH (fun h2=>aC.2 fun _=>⟨hr h2,by omega⟩) fun _=>aC.2 fun h=>by cases h
theorem Sm(fs:List aU)(hn:fs.length<=1000000000)(hB:∀ f,f∈fs->BF f):Sp (aXT fs) (fun r=>r=true->FW fs):=by
 unfold aXT aQZ;simp only[Tr.den];refine bH (fun _=>aC.2 fun h=>by cases h) fun _=>?_;refine Sq.bind (fun z=>match z with | .inl _=>FW fs | .inr y=>y=false) ?_ fun z hz=>?_
 ·refine dM (fun s=>s) fs.length (by omega) (fun s=>∀ i:Nat,(i:Int)<s->i<fs.length->wfE i 0 (fs.getD i default).Body) (fun s k hI hk hkN=>?_) (fun i hi=>by omega) rfl;subst hk;unfold Uf;simp only[Tr.den,aJ];by_cases hc:k<fs.length
  ·rw[aA (bU (by omega)),aA (by omega)];have hb:=hB _ (aR hc);refine Sq.bind (fun _=>True) (bH (fun _=>bR) fun _=>Sq.bind _ (Za _ hb.p) fun _ _=>bR) fun j _=>?_;refine bH (fun _=>aC.2 rfl) fun _=>?_;have e0:(fs.drop (0:Int).toNat).take ((k:Int)-(0:Int)).toNat=fs.take k:=by rw[Int.sub_zero,aJ]; rfl
   have hg:(0:Int)<=0/\(0:Int)<=(k:Int)/\(k:Int)<=(fs.length:Int):=by omega
   rw[aA hg];refine Sq.bind (fun r=>r.2=true->wfE k 0 (fs.getD k default).Body) ?_ fun r hr4=>?_
   ·first
    | rw[aA hg,e0]
    | rw[e0]
    refine(Tp ⟨fs.take k,[],(fs.getD k default).Params⟩ _ hb.b fun f hf=>(hB f (Af hf)).p).imp fun r hr h=>?_;have:=(hr h).1
    rwa [dJ,Nat.min_eq_left (by omega)]at this
   ·cases hr2:r.2 with
    | false=>simp only[lL,bS,aK];exact aC.2 rfl
    | true=>
     simp only[jF,cO,bY,aK];refine bH (fun _=>aC.2 rfl) fun _=>aC.2 ⟨rfl,hc,fun i hi hil=>?_⟩;rw[bM (by omega)]at hi;by_cases hik:i=k
     ·subst hik; exact hr4 hr2
     ·exact hI i (by omega) hil
  ·rw[aF (bP (by omega))];exact aC.2 fun i hi=>⟨hI i (by omega) hi,(hB _ (aR hi)).b⟩
 ·cases z with
  | inl u=>exact aC.2 fun _=>hz
  | inr y=>exact aC.2 fun h=>by rw[show y=false from hz]at h; cases h
theorem Tq(fs:List aU)(hn:fs.length<=1000000000)(hB:∀ f,f∈fs->BF f)(t:List Int)(e:aD)(h:cC e):Sp (aUC fs t [] e) (fun r=>r.2=true->wfE fs.length t.length e/\jL e<=12):=by unfold aUC aTX;simp only[Tr.den];refine Sq.bind _ (Sm fs hn hB) fun r1 _=>bH (fun _=>aC.2 fun h=>by cases h) fun _=>?_;exact Sq.bind _ (Tp ⟨fs,t,[]⟩ e h fun f hf=>(hB f hf).p) fun r hr=>aC.2 hr
theorem Uc(fs:List aU)(hn:fs.length<=1000000000)(hB:∀ f,f∈fs->BF f)(t:List Int)(e:aD)(h:cC e):Sp (aVD fs t e) (fun r=>r=true->wfE fs.length t.length e/\jL e<=12):=by unfold aVD aWJ;simp only[Tr.den];refine Sq.bind _ (Tq fs hn hB t e h) fun r1 hr=>Sq.bind (fun j=>j=true->wfE fs.length t.length e/\jL e<=12) ?_ fun j hj=>aC.2 hj;exact bH (fun h1=>aC.2 fun _=>hr h1) fun _=>aC.2 fun h=>by cases h
def Aw(t:List Int)(c:Int):Bool:=decide (0<=c/\c<(t.length:Int))
theorem sQ(hn:l.length<=1000000000):aRB l t=some (l.all (Aw t)):=by
 unfold aRB aUF aIV Ko aHM Nc;simp only[Tr.den];rw[lW (Aw t) l (by omega) (fun k hk=>?_) ?_]
 ·simp
 ·unfold wB;simp only[Tr.den];rw[aF (bP (by omega))]
 ·unfold wB aHH Pw;simp only[Tr.den,aJ];rw[aA (bU (by omega)),aA (by omega)];unfold Aw;by_cases h1:l.getD k default<0
  ·rw[aA (bU h1),eI (p:=0<=_/\_) (by omega)]; rfl
  ·rw[aF (bP h1)];by_cases h2:l.getD k default>=(t.length:Int)
   ·rw[cX h2,eI (p:=0<=_/\_) (by omega)]; rfl
   ·rw[eI h2,cX (p:=0<=_/\_) (by omega)]; rfl
theorem Hb(h:l.all (Aw t)=true):∀ c,c∈l->0<=c/\c<(t.length:Int):=fun c hc=>vD (dO.1 h c hc)
theorem Mt(hn:l.length<=1000000000)(h:l.all (Aw t)=true):aPJ t l=some (l.map fun c=>t.getD c.toNat default):=by
 unfold aPJ aSI;simp only[Tr.den];have:=eO (S:=List Int×Int) (st:=fun v i=>(v,i)) (bd:=fun s=>(yG t l s).den) (fun c=>t.getD c.toNat default) l [] (r:=fun v=>.inl v) (by omega) (fun v i hi hv=>?_) (fun v=>?_)
 ·rw[this,qI]; rfl
 ·have:=Hb h _ (aR hi);unfold yG;simp only[Tr.den,aJ];rw[aA (bU (by omega)),aA (by omega),aA (by omega),aA (by simp at hv ⊢; omega)]
 ·unfold yG;simp only[Tr.den];rw[aF (bP (by omega))]
theorem Iv(hn:l.length<=1000000000)(h:l.all (Aw t)=true):Nk t l=some (l.map fun c=>t.getD c.toNat default):=by rw[<-Mt hn h];unfold Nk aPJ;rfl
theorem aOZ(n:aB)(t:List Int)(hk:n.Key.length<=1000000000)(ha:n.Aggs.length<=1000000000):Sp (aVX n t) (fun r=>r.2=true->n.Key.all (Aw t)=true/\n.Key.length<=r.1.length):=by
 unfold aVX aVO;simp only[Tr.den];refine Sq.bind (fun j=>j=false->n.Key.all (Aw t)=true) ?_ fun j hj=>?_
 ·refine bH (fun _=>aC.2 fun h=>by cases h) fun _=>bH (fun _=>aC.2 fun h=>by cases h) fun _=>?_;rw[sQ hk];exact aC.2 fun h=>by simpa using h
 refine bH (fun _=>aC.2 fun h=>by cases h) fun hj0=>?_;have hw:=hj hj0;rw[Iv hk hw];simp only[aK];rw[aA (by simp; omega)];refine Sq.bind (fun z=>match z with | .inl l=>n.Key.length<=l.length | .inr r=>r.2=false) ?_ fun z hz=>?_
 ·refine dM (fun s=>s.2) n.Aggs.length (by omega) (fun s=>s.1.length=n.Key.length+1+s.2.toNat) (fun s k hI hkk hkN=>?_) (by simp) rfl;obtain⟨v4,v5⟩:=s;simp only at hkk hI;subst hkk;simp only[aJ]at hI;unfold Tu;simp only[Tr.den,aJ];by_cases hc:k<n.Aggs.length
  ·rw[aA (bU (by omega)),aA (by omega)];refine Sq.bind (fun z=>match z with | .inl l=>l.length=v4.length+1 | .inr y=>y = .inr (.inr ([],false))) ?_ fun z hz=>?_
   ·refine Sq.bind (fun j=>j.1=v4) ?_ fun j hj=>?_
    ·refine bH (fun _=>aC.2 rfl) fun _=>bH (fun _=>aC.2 rfl) fun _=>bH (fun _=>aC.2 rfl) fun _=>aC.2 rfl
    obtain⟨j8,j9⟩:=j;simp only at hj;subst hj;refine bH (fun _=>aC.2 rfl) fun _=>bH (fun _=>?_) fun _=>?_
    ·rw[aA (by simp; omega)];exact aC.2 (by simp)
    ·rw[sQ (by simp)];simp only[aK];refine Sq.bind (fun j=>j.1=j8/\(j.2=false->0<=(n.Aggs.getD k default).Col/\(n.Aggs.getD k default).Col<(t.length:Int))) ?_ fun j hj=>?_
     ·cases hwc:([(n.Aggs.getD k default).Col]:List Int).all (Aw t) with
      | false=>exact aC.2 ⟨rfl,fun h=>by cases h⟩
      | true=>have hcol:=Hb hwc _ dI;refine bH (fun h=>by cases h) fun _=>bH (fun _=>?_) fun _=>aC.2 ⟨rfl,fun _=>hcol⟩;rw[aA hcol];exact aC.2 ⟨rfl,fun _=>hcol⟩
     ·obtain⟨j11,j12⟩:=j;simp only at hj;obtain⟨hj1,hj2⟩:=hj;subst hj1;refine bH (fun _=>aC.2 rfl) fun h12=>?_;rw[aA (hj2 h12),aA (by simp; omega)];exact aC.2 (by simp)
   ·cases z with
    | inl l=>refine aC.2 ⟨rfl,hc,?_⟩;simp only;rw[bM (by omega),aJ];have:l.length=v4.length+1:=hz;omega
    | inr y=>have:y = .inr (.inr ([],false)):=hz;subst this;exact aC.2 rfl
  ·rw[aF (bP (by omega))];refine aC.2 ?_;show n.Key.length<=v4.length;omega
 ·cases z with
  | inl l=>exact aC.2 fun _=>⟨hw,hz⟩
  | inr y=>exact aC.2 fun h=>by rw[show y.2=false from hz]at h; cases h
theorem aEQ{l:List aS}(hn:l.length<=1000000000):aXA l=some (l.map aS.Type_):=by
 unfold aXA aTF;simp only[Tr.den];have:=eO (S:=List Int×Int) (st:=fun v i=>(v,i)) (bd:=fun s=>(yA l s).den) aS.Type_ l [] (r:=fun v=>.inl v) (by omega) (fun v i hi hv=>?_) (fun v=>?_)
 ·rw[this,qI]; rfl
 ·unfold yA;simp only[Tr.den,aJ];rw[aA (bU (by omega)),aA (by omega),aA (by simp at hv ⊢; omega)]
 ·unfold yA;simp only[Tr.den];rw[aF (bP (by omega))]
def xA(op:Int):Int:=if op=0 then 0 else if op=3\/op=6\/op=7 then 2 else 1
theorem aST(op:Int):aQY op=some (xA op):=by
 unfold aQY aWO xA;simp only[Tr.den];by_cases h0:op=0
 ·rw[aA (dB h0),aA h0]
 rw[aF (eC h0),aF h0];by_cases h3:op=3
 ·rw[aA (dB h3),aA (by omega),dB h3]; rfl
 rw[aF (eC h3)];by_cases h6:op=6
 ·rw[aA (dB h6),aA (by omega),dB h6]; rfl
 rw[aF (eC h6)];by_cases h7:op=7
 ·rw[aA (by omega),dB h7]; rfl
 ·rw[aF (by omega),bF h7]; rfl
structure FL (nf:Nat)(n:aB)(ts:List (List Int))(r:List Int):Prop where
 s1:n.Op=1->n.Exprs.length=1/\r.length=(ts.getD 0 default).length
 ex:n.Op=1\/n.Op=2->∀ e,e∈n.Exprs->wfE nf (ts.getD 0 default).length e/\jL e<=12
 s3:n.Op=3->r.length=(ts.getD 0 default).length/\r.length=(ts.getD 1 default).length
 s4:n.Op=4\/n.Op=8->n.Key.all (Aw (ts.getD 0 default))=true
 s4k:n.Op=4->n.Key.length<=r.length
 s5:n.Op=5->r.length=(ts.getD 0 default).length
 s6:n.Op=6\/n.Op=7->r.length=(ts.getD 0 default).length+(ts.getD 1 default).length
theorem aOQ(fs:List aU)(n:aB)(ts:List (List Int))(hn:fs.length<=1000000000)(hB:∀ f,f∈fs->BF f)(hb:BN n)(h0:0<=n.Op)(h9:n.Op<9)(ht:(ts.length:Int)=xA n.Op)(htl:∀ t,t∈ts->t.length<=1000000000):
  Sp (aRO fs n ts) (fun r=>r.2=true->FL fs.length n ts r.1):=by
 have hbk:=hb.k; have hbk2:=hb.k2; have hba:=hb.a; have hbe:=hb.e; have hbc:=hb.c; have hbs:=hb.s;unfold xA at ht;unfold aRO aSQ;simp only[Tr.den];by_cases o0:n.Op=0
 ·rw[aA (dB o0),aEQ hbc];simp only[aK];refine Sq.bind (fun _=>True) ?_ fun j _=>aC.2 fun _=>⟨by omega,by omega,by omega,by omega,by omega,by omega,by omega⟩;exact Sq.bind _ (Vi _) fun r4 _=>bH (fun _=>bH (fun _=>bH (fun _=>Sq.bind _ (aQF _ hbc) fun _ _=>bR) fun _=>bR) fun _=>bR) fun _=>bR
 rw[aF (eC o0)];rw[aF o0]at ht;have t0:0<ts.length:=by split at ht <;> omega
 have g0:(0:Int)<=0/\(0:Int)<(ts.length:Int):=by omega
 have hm0:ts.getD 0 default∈ts:=aR t0;have hl0:=htl _ hm0;by_cases o1:n.Op=1
 ·rw[aA (dB o1),aA g0];refine Sq.bind (fun j=>j=true->n.Exprs.length=1/\∀ e,e∈n.Exprs->wfE fs.length (ts.getD 0 default).length e/\jL e<=12) ?_ fun j hj=>aC.2 fun h=>⟨fun _=>⟨(hj h).1,rfl⟩,fun _=>(hj h).2,by omega,by omega,by omega,by omega,by omega⟩;by_cases hl:(n.Exprs.length:Int)=1
  ·rw[aA (dB hl),aA g0,aA (by omega)];have hm:n.Exprs.getD (0:Int).toNat default∈n.Exprs:=aR (by show 0<_; omega);refine Sq.bind _ (Uc fs hn hB (ts.getD 0 default) _ (hb.eB _ hm)) fun r hr=>aC.2 fun h=>⟨by omega,fun e he=>?_⟩;have:e=n.Exprs.getD (0:Int).toNat default:=by
    obtain⟨i,hi,rfl⟩:=iS he;have:i=0:=by omega
    subst this; rfl
   rw[this]; exact hr h
  ·rw[aF (eC hl)];exact aC.2 fun h=>by cases h
 rw[aF (eC o1)];by_cases o2:n.Op=2
 ·rw[aA (dB o2)];refine Sq.bind (fun z=>match z with | .inl l=>∀ e,e∈n.Exprs->wfE fs.length (ts.getD 0 default).length e/\jL e<=12 | .inr r=>r.2=false) ?_ fun z hz=>?_
  ·refine dM (fun s=>s.2) n.Exprs.length (by omega) (fun s=>s.1.length=s.2.toNat/\∀ i:Nat,i<s.2.toNat->wfE fs.length (ts.getD 0 default).length (n.Exprs.getD i default)/\jL (n.Exprs.getD i default)<=12) (fun s k hI hk hkN=>?_) ⟨rfl,fun i hi=>absurd hi (jP _)⟩ rfl;obtain⟨v8,v9⟩:=s;simp only at hk hI;subst hk;simp only[aJ]at hI;unfold Sw;simp only[Tr.den,aJ];by_cases hc:k<n.Exprs.length
   ·rw[aA (bU (by omega)),aA (by omega),aA g0];refine Sq.bind _ (Tq fs hn hB (ts.getD 0 default) _ (hb.eB _ (aR hc))) fun r hr=>?_;cases hr2:r.2 with
    | false=>simp only[lL,bS];exact aC.2 rfl
    | true=>
     simp only[jF,cO,bY];rw[aA (by simp only[nZ]; omega)];refine aC.2 ⟨rfl,hc,?_,fun i hi=>?_⟩
     ·simp only[cY,nZ];rw[bM (by omega),aJ,hI.1]
     ·simp only at hi;rw[bM (by omega),aJ]at hi;by_cases hik:i=k
      ·subst hik; exact hr hr2
      ·exact hI.2 i (by omega)
   ·rw[aF (bP (by omega))];refine aC.2 fun e he=>?_;obtain⟨i,hi,rfl⟩:=iS he;exact hI.2 i (by omega)
  ·cases z with
   | inl l=>exact aC.2 fun _=>⟨by omega,fun _=>hz,by omega,by omega,by omega,by omega,by omega⟩
   | inr y=>exact aC.2 fun h=>by rw[show y.2=false from hz]at h; cases h
 rw[aF (eC o2)];by_cases o3:n.Op=3
 ·rw[aA (by omega)]at ht;have g1:(0:Int)<=1/\(1:Int)<(ts.length:Int):=by omega
  rw[aA (dB o3),aA g0,aA g0,aA g1];have e:aHX (ts.getD (0:Int).toNat default) (ts.getD (1:Int).toNat default)=some (eqD (ts.getD 0 default) (ts.getD 1 default)):=nC (gY hl0 (by omega));rw[e];refine aC.2 fun h=>⟨by omega,by omega,fun _=>⟨rfl,?_⟩,by omega,by omega,by omega,by omega⟩;have:=eS.1 h;show (ts.getD 0 default).length=_;rw[this]
 rw[aF (eC o3)];by_cases o4:n.Op=4
 ·rw[aA (dB o4),aA g0];exact Sq.bind _ (aOZ n (ts.getD 0 default) hbk hba) fun r hr=>aC.2 fun h=>⟨by omega,by omega,by omega,fun _=>(hr h).1,fun _=>(hr h).2,by omega,by omega⟩
 rw[aF (eC o4)];by_cases o5:n.Op=5
 ·rw[aA (dB o5),aA g0,aA g0,sQ hbk];simp only[aK];refine Sq.bind (fun _=>True) (bH (fun _=>?_) fun _=>bR) fun j _=>aC.2 fun _=>⟨by omega,by omega,by omega,by omega,by omega,fun _=>rfl,by omega⟩;rw[aA g0,sQ (by simp)];exact bR
 rw[aF (eC o5)];by_cases o67:n.Op=6\/n.Op=7
 ·rw[aA (by omega)]at ht;have g1:(0:Int)<=1/\(1:Int)<(ts.length:Int):=by omega
  have hm1:ts.getD 1 default∈ts:=aR (by omega);have hl1:=htl _ hm1;have hj:(if (n.Op==6)=true then some (n.Op==6) else some (n.Op==7))=some true:=by
   by_cases h4:n.Op=6
   ·rw[aA (dB h4),dB h4]
   ·rw[aF (eC h4),dB (o67.resolve_left h4)]
  rw[hj];simp only[aK,bS];refine Sq.bind (fun _=>True) ?_ fun j _=>?_
  ·rw[aA g0,sQ hbk];simp only[aK];refine bH (fun w1=>?_) fun _=>bR;rw[aA g1,sQ hbk2];simp only[aK];refine bH (fun w2=>?_) fun _=>bR;rw[aA g0,Mt hbk w1];simp only[aK];rw[aA g1,Mt hbk2 w2];simp only[aK];rw[nC (by rw[hP]; omega)];exact bR
  ·rw[aA g0,aA g1,aTS _ (by simp) (fun x hx=>by
    rcases aW.1 hx with rfl | hx
    ·exact hl0
    ·rw[cE.1 hx]; exact hl1)]
   refine aC.2 fun _=>⟨by omega,by omega,by omega,by omega,by omega,by omega,fun _=>?_⟩;simp only[sN,zQ,id,jD,cY];rfl
 ·have hj:(if (n.Op==6)=true then some (n.Op==6) else some (n.Op==7))=some false:=by rw[aF (eC (by omega)),bF (by omega)]
  rw[hj];simp only[aK,cO,bY];rw[aA g0,sQ hbk];simp only[aK];cases hw:n.Key.all (Aw (ts.getD (0:Int).toNat default)) with
  | false=>exact aC.2 fun h=>by cases h
  | true=>
   simp only[jF,cO,bY];refine Sq.bind (fun z=>match z with | .inl _=>True | .inr r=>r.2=false) ?_ fun z hz=>?_
   ·refine dM (fun s=>s) n.Seq.length (by omega) (fun s=>True) (fun s k hI hk hkN=>?_) trivial rfl;subst hk;unfold Vn;simp only[Tr.den,aJ];by_cases hc:k<n.Seq.length
    ·rw[aA (bU (by omega)),aA (by omega)];refine Sq.bind (fun _=>True) ?_ fun j _=>bH (fun _=>aC.2 rfl) fun _=>aC.2 ⟨rfl,hc,trivial⟩;refine bH (fun _=>bR) fun _=>bH (fun _=>bR) fun _=>?_;rw[aA g0];exact Sq.bind _ (Uc fs hn hB (ts.getD 0 default) _ (hb.sB _ (aR hc))) fun _ _=>bR
    ·rw[aF (bP (by omega))];exact aC.2 trivial
   ·cases z with
    | inr y=>exact aC.2 fun h=>by rw[show y.2=false from hz]at h; cases h
    | inl u=>simp only[sel];rw[aA g0,Iv hbk hw];simp only[aK];rw[aA (by rw[hP]; omega)];exact aC.2 fun _=>⟨by omega,by omega,by omega,fun _=>hw,by omega,by omega,by omega⟩
theorem bBH{a:ByteArray}(h:a.size=0):a=⟨#[]⟩:=by refine xY.1 ?_;have:a.data.toList.length=0:=h;rw[oC,ByteArray.toList_eq,pG.1 this]; rfl
theorem aLG(n:aB)(hb:BN n)(hs:n.Source.size<=1000000000):Sp (aTT n) (fun b=>b=true->n.Exprs=[]/\n.Key=[]/\n.Key2=[]/\n.Aggs=[]/\n.Seq=[]/\n.Source=⟨#[]⟩/\([n.Schema,n.Kind,n.Size,n.Step,n.Before,n.After,n.Keep]:List Int)=[0,0,0,0,0,0,0]):=by
 have h1:=hb.i; have h2:=hb.e; have h3:=hb.k; have h4:=hb.k2; have h5:=hb.a; have h6:=hb.s; have h7:=hb.c;unfold aTT aUP;simp only[Tr.den];rw[cQ (n:=(n.In.length:Int)+(n.Exprs.length:Int)) (by omega) (by omega),cQ (n:=_+(n.Key.length:Int)) (by omega) (by omega),cQ (n:=_+(n.Key2.length:Int)) (by omega) (by omega),
  cQ (n:=_+(n.Aggs.length:Int)) (by omega) (by omega),cQ (n:=_+(n.Seq.length:Int)) (by omega) (by omega),cQ (n:=_+(n.Cols.length:Int)) (by omega) (by omega),cQ (n:=_+(n.Source.size:Int)) (by omega) (by omega)]
 refine Sq.bind (fun b=>b=true->n.Exprs=[]/\n.Key=[]/\n.Key2=[]/\n.Aggs=[]/\n.Seq=[]/\n.Source=⟨#[]⟩/\([n.Schema,n.Kind,n.Size,n.Step,n.Before,n.After,n.Keep]:List Int)=[0,0,0,0,0,0,0]) ?_ fun j hj=>aC.2 hj;refine bH (fun h0=>aC.2 fun hz=>?_) fun _=>aC.2 fun h=>by cases h
 have h0:=pY.1 h0;exact⟨pG.1 (by omega),pG.1 (by omega),pG.1 (by omega),pG.1 (by omega),pG.1 (by omega),bBH (by omega),pY.1 hz⟩
structure aWK (n r:aB):Prop where
 o1:n.Op=1->r=aB.mk 1 [] n.Source n.Schema [] n.Kind n.Size n.Step n.Key n.Key2 n.Before n.After n.Keep n.Aggs n.Seq []
 ex:n.Op≠1->n.Op≠2->r.Exprs=n.Exprs
 b:BN r
 s:r.Source.size<=1000000000
theorem BN.rest{n r:aB}(hb:BN n)(h1:r.In=[]\/r.In=n.In)(h2:r.Exprs=[]\/r.Exprs=n.Exprs)(h3:r.Key=[]\/r.Key=n.Key)(h4:r.Key2=[]\/r.Key2=n.Key2)(h5:r.Aggs=[]\/r.Aggs=n.Aggs)(h6:r.Seq=[]\/r.Seq=n.Seq)(h7:r.Cols=[]\/r.Cols=n.Cols):BN r:=by
 refine⟨?_,?_,?_,?_,?_,?_,?_,?_,?_⟩
 ·rcases h1 with h | h <;> rw[h]
  ·simp
  ·exact hb.i
 ·rcases h2 with h | h <;> rw[h]
  ·simp
  ·exact hb.e
 ·rcases h2 with h | h <;> rw[h]
  ·intro x hx; cases hx
  ·exact hb.eB
 ·rcases h3 with h | h <;> rw[h]
  ·simp
  ·exact hb.k
 ·rcases h4 with h | h <;> rw[h]
  ·simp
  ·exact hb.k2
 ·rcases h5 with h | h <;> rw[h]
  ·simp
  ·exact hb.a
 ·rcases h6 with h | h <;> rw[h]
  ·simp
  ·exact hb.s
 ·rcases h6 with h | h <;> rw[h]
  ·intro x hx; cases hx
  ·exact hb.sB
 ·rcases h7 with h | h <;> rw[h]
  ·simp
  ·exact hb.c
theorem aKI(n:aB)(hb:BN n)(hs:n.Source.size<=1000000000)(h0:0<=n.Op)(h9:n.Op<9):Sp (aWN n) (aWK n):=by
 have hc:n.Op=0\/n.Op=1\/n.Op=2\/n.Op=3\/n.Op=4\/n.Op=5\/n.Op=6\/n.Op=7\/n.Op=8:=by omega
 unfold aWN aSM;have hz:(⟨#[]⟩:ByteArray).size<=1000000000:=by show (0:Nat)<=_; omega
 rcases hc with o | o | o | o | o | o | o | o | o
 ·simp (config:={ decide:=true }) only[Tr.den,o,aK,bS,bY];exact aC.2 ⟨fun h=>absurd (o.symm.trans h) (by decide),fun _ _=>rfl,hb.rest (Or.inr rfl) (Or.inr rfl) (Or.inr rfl) (Or.inr rfl) (Or.inr rfl) (Or.inr rfl) (Or.inl rfl),hz⟩
 ·simp (config:={ decide:=true }) only[Tr.den,o,aK,bS,bY];exact aC.2 ⟨fun _=>rfl,fun h=>absurd o h,hb.rest (Or.inl rfl) (Or.inl rfl) (Or.inr rfl) (Or.inr rfl) (Or.inr rfl) (Or.inr rfl) (Or.inl rfl),hs⟩
 ·simp (config:={ decide:=true }) only[Tr.den,o,aK,bS,bY];exact aC.2 ⟨fun h=>absurd (o.symm.trans h) (by decide),fun _ h=>absurd o h,hb.rest (Or.inl rfl) (Or.inl rfl) (Or.inr rfl) (Or.inr rfl) (Or.inr rfl) (Or.inr rfl) (Or.inl rfl),hs⟩
 ·simp (config:={ decide:=true }) only[Tr.den,o,aK,bS,bY];exact aC.2 ⟨fun h=>absurd (o.symm.trans h) (by decide),fun _ _=>rfl,hb.rest (Or.inl rfl) (Or.inr rfl) (Or.inr rfl) (Or.inr rfl) (Or.inr rfl) (Or.inr rfl) (Or.inl rfl),hs⟩
 ·have hj:∃ st,(if (n.Kind != 0)=true then some (0:Int) else some n.Step)=some st:=by
   by_cases h:(n.Kind != 0)=true
   ·exact⟨_,aA h⟩
   ·exact⟨_,aF h⟩
  obtain⟨st,hj⟩:=hj;simp (config:={ decide:=true }) only[Tr.den,o,aK,bS,bY];rw[hj];simp only[aK];exact aC.2 ⟨fun h=>absurd (o.symm.trans h) (by decide),fun _ _=>rfl,hb.rest (Or.inl rfl) (Or.inr rfl) (Or.inl rfl) (Or.inr rfl) (Or.inl rfl) (Or.inr rfl) (Or.inl rfl),hs⟩
 ·simp (config:={ decide:=true }) only[Tr.den,o,aK,bS,bY];exact aC.2 ⟨fun h=>absurd (o.symm.trans h) (by decide),fun _ _=>rfl,hb.rest (Or.inl rfl) (Or.inr rfl) (Or.inl rfl) (Or.inr rfl) (Or.inr rfl) (Or.inr rfl) (Or.inl rfl),hs⟩
 ·simp (config:={ decide:=true }) only[Tr.den,o,aK,bS,bY];exact aC.2 ⟨fun h=>absurd (o.symm.trans h) (by decide),fun _ _=>rfl,hb.rest (Or.inl rfl) (Or.inr rfl) (Or.inl rfl) (Or.inl rfl) (Or.inr rfl) (Or.inr rfl) (Or.inl rfl),hs⟩
 ·simp (config:={ decide:=true }) only[Tr.den,o,aK,bS,bY];exact aC.2 ⟨fun h=>absurd (o.symm.trans h) (by decide),fun _ _=>rfl,hb.rest (Or.inl rfl) (Or.inr rfl) (Or.inl rfl) (Or.inl rfl) (Or.inr rfl) (Or.inr rfl) (Or.inl rfl),hs⟩
 ·simp (config:={ decide:=true }) only[Tr.den,o,aK,bS,bY];exact aC.2 ⟨fun h=>absurd (o.symm.trans h) (by decide),fun _ _=>rfl,hb.rest (Or.inl rfl) (Or.inr rfl) (Or.inl rfl) (Or.inr rfl) (Or.inr rfl) (Or.inl rfl) (Or.inl rfl),hs⟩
theorem bBE{nf:Nat}{nc:Int->Nat}{i:Int}{n:aB}{ts:List (List Int)}{r:List Int}(hb:BN n)(h0:0<=n.Op)(h9:n.Op<9)(hin:(n.In.length:Int)=xA n.Op)(hlt:∀ j,j∈n.In->0<=j/\j<i)
  (htl:ts.length=n.In.length)(hts:∀ t,t<n.In.length->(ts.getD t default).length=nc (n.In.getD t default))(hr:r.length=n.Cols.length)(hF:FL nf n ts r)
  (h1:n.Op=1->n=aB.mk 1 n.In ⟨#[]⟩ 0 n.Exprs 0 0 0 [] [] 0 0 0 [] [] n.Cols)(he:n.Op≠1->n.Op≠2->n.Exprs=[]):WN nf nc i n:=by
 unfold xA at hin;have inp1:n.Op≠0->¬ (n.Op=3\/n.Op=6\/n.Op=7)->n.In=[n.In.getD 0 default]/\(ts.getD 0 default).length=nc (n.In.getD 0 default):=fun a b=>by rw[aF a,aF b]at hin;exact⟨aGK (by omega),hts 0 (by omega)⟩
 have inp2:n.Op=3\/n.Op=6\/n.Op=7->n.In=[n.In.getD 0 default,n.In.getD 1 default]/\(ts.getD 0 default).length=nc (n.In.getD 0 default)/\(ts.getD 1 default).length=nc (n.In.getD 1 default):=fun a=>by rw[aF (by omega),aA a]at hin;exact⟨aTN (by omega),hts 0 (by omega),hts 1 (by omega)⟩
 refine⟨hb,hlt,fun e hee=>?_,fun o=>?_,fun o=>?_,fun o=>?_,fun o=>?_,fun o=>?_,fun o=>?_,fun o=>?_,he⟩
 ·have o:n.Op=1\/n.Op=2:=by
   rcases Classical.em (n.Op=1) with h | h
   ·exact Or.inl h
   ·rcases Classical.em (n.Op=2) with h' | h'
    ·exact Or.inr h'
    ·rw[he h h']at hee; cases hee
  obtain⟨a,b⟩:=inp1 (by omega) (by omega);refine⟨n.In.getD 0 default,by rw[a]; rfl,?_⟩;rw[<-b];exact(hF.ex o e hee).1
 ·obtain⟨a,b⟩:=inp1 (by omega) (by omega);obtain⟨c,d⟩:=hF.s1 o;refine⟨n.In.getD 0 default,n.Exprs.getD 0 default,n.Cols,?_,by rw[<-hr,d,b]⟩;have e:n.Exprs=[n.Exprs.getD 0 default]:=by
   match hx:n.Exprs,c with | [x],_=>rfl
  unfold dY;rw[<-a,<-e];exact h1 o
 ·exact⟨_,(inp1 (by omega) (by omega)).1⟩
 ·obtain⟨a,b,c⟩:=inp2 (by omega);obtain⟨d,e⟩:=hF.s3 o;exact⟨_,_,a,by omega,by omega⟩
 ·obtain⟨a,b⟩:=inp1 (by omega) (by omega);refine⟨_,a,fun c hc=>?_⟩;rw[<-b];exact Hb (hF.s4 o) c hc
 ·rw[<-hr]; exact hF.s4k o
 ·obtain⟨a,b⟩:=inp1 (by omega) (by omega);have:=hF.s5 o;exact⟨_,a,by omega⟩
 ·obtain⟨a,b,c⟩:=inp2 (by omega);have:=hF.s6 o;exact⟨_,_,a,by omega⟩
structure BQ (p:aE):Prop where
 b:BP p
 s:∀ n,n∈p.Nodes->n.Source.size<=1000000000
structure aYZ (p:aE)(ts:List (List Int))(k:Nat):Prop where
 l:ts.length=k
 c:∀ i:Nat,i<k->(ts.getD i default).length=(p.Nodes.getD i default).Cols.length/\(ts.getD i default).length<=1000000000/\WN p.Funcs.length (ncA p.Nodes) i (p.Nodes.getD i default)/\∀ e,e∈(p.Nodes.getD i default).Exprs->jL e<=12
theorem Ve[Inhabited A]{l r:List A}(h:i<l.length):(l++r).getD i default=l.getD i default:=by rw[cG,eU h,<-cG]
theorem Ry[Inhabited A]{l:List A}{x:A}(h:i=l.length):(l++[x]).getD i default=x:=by subst h;rw[cG,eG (fJ _),Ao]; rfl
theorem aYB{p:aE}(hb:BP p){k:Nat}(hk:k<p.Nodes.length):Ke k t p=some (eqD ((p.Nodes.getD k default).Cols.map aS.Type_) t):=by have hc:=(hb.nB _ (aR hk)).c;unfold Ke Od;simp only[Tr.den,aJ,aEQ hc,aK];rw[aA (by omega),nC (by rw[hP]; omega)];rfl
theorem Xp{p q:aE}{k:Nat}(hk:k<p.Nodes.length)(hn:p.Nodes.length<=1000000000)(hi:(p.Nodes.getD k default).In.length<=1000000000){ts:List (List Int)}(hts:ts.length=k):
  Sp (bZ (fun s=>(vR p q k s).den) (ts,[],0)) (fun z=>match z with
   | .inl (a,b)=>a=ts/\b.length=(p.Nodes.getD k default).In.length/\(∀ j,j∈(p.Nodes.getD k default).In->0<=j/\j<(k:Int))/\∀ t:Nat,t<b.length->b.getD t default=ts.getD ((p.Nodes.getD k default).In.getD t default).toNat default
   | .inr y=>y = .inr (.inr false)):=by
 refine dM (fun s=>s.2.2) (p.Nodes.getD k default).In.length (by omega) (fun s=>s.1=ts/\s.2.1.length=s.2.2.toNat/\∀ t:Nat,t<s.2.1.length->(0<=(p.Nodes.getD k default).In.getD t default/\(p.Nodes.getD k default).In.getD t default<(k:Int))/\s.2.1.getD t default=ts.getD ((p.Nodes.getD k default).In.getD t default).toNat default) (fun s i hI hidx hiN=>?_) ⟨rfl,rfl,fun t ht=>absurd ht (jP _)⟩ rfl;obtain⟨v10,v11,v12⟩:=s;simp only at hidx hI;subst hidx;obtain⟨hI1,hI2,hI3⟩:=hI;subst hI1;rw[aJ]at hI2;unfold vR;simp only[Tr.den,aJ];by_cases hc:i<(p.Nodes.getD k default).In.length
 ·rw[aA (bU (by omega)),aA (by omega)];refine Sq.bind (fun z=>z.1=v10/\z.2.1=v11/\(z.2.2=false->0<=(p.Nodes.getD k default).In.getD i default/\(p.Nodes.getD k default).In.getD i default<(k:Int))) ?_ fun z hz=>?_
  ·by_cases h1:(p.Nodes.getD k default).In.getD i default<0
   ·rw[aA (bU h1)];exact aC.2 ⟨rfl,rfl,fun h=>by cases h⟩
   ·rw[aF (bP h1)];exact aC.2 ⟨rfl,rfl,fun h=>⟨by omega,by have:=of_decide_eq_false h; omega⟩⟩
  ·obtain⟨z1,z2,z3⟩:=z;simp only at hz;obtain⟨a1,a2,a3⟩:=hz;subst a1 a2;refine bH (fun _=>aC.2 rfl) fun hz3=>?_;have hb:=a3 hz3
   dsimp only
   rw[aA (by omega),aA (by omega),aA (by simp; omega)];refine aC.2 ⟨rfl,hc,rfl,?_,fun t ht=>?_⟩
   ·simp only;rw[bM (by omega),aJ,cY,hI2]; rfl
   ·simp only[cY,nZ]at ht ⊢;by_cases htt:t=z2.length
    ·have hti:t=i:=by omega
     rw[Ry htt,hti];exact⟨hb,rfl⟩
    ·rw[Ve (by omega)];exact hI3 t (by omega)
 ·rw[aF (bP (by omega))];have hl:v11.length=(p.Nodes.getD k default).In.length:=by omega
  refine aC.2 ⟨rfl,hl,fun j hj=>?_,fun t ht=>(hI3 t ht).2⟩;obtain⟨t,ht,rfl⟩:=iS hj;exact(hI3 t (by omega)).1
theorem aOX{p:aE}(h:BQ p)(hn40:p.Nodes.length<=40):Sp (bZ (fun s=>(wF p p s).den) ([],0)) (fun z=>match z with
   | .inl _=>∃ ts,aYZ p ts p.Nodes.length
   | .inr y=>y=false):=by
 have hb:=h.b;have hn:=hb.n;have hf:=hb.f;refine dM (fun s=>s.2) p.Nodes.length (by omega) (fun s=>aYZ p s.1 s.2.toNat) (fun s k hI hidx hkN=>?_) ⟨rfl,fun i hi=>absurd hi (jP _)⟩ rfl;obtain⟨v3,v4⟩:=s;simp only at hidx hI;subst hidx;rw[aJ]at hI;unfold wF;simp only[Tr.den,aJ];by_cases hc:k<p.Nodes.length
 ·have hbn:=hb.nB _ (aR hc);have hsn:=h.s _ (aR hc);rw[aA (bU (by omega)),aA (by omega)];refine Sq.bind (fun z=>z.1=v3/\(z.2=false->(0<=(p.Nodes.getD k default).Op/\(p.Nodes.getD k default).Op<9)/\((p.Nodes.getD k default).In.length:Int)=xA (p.Nodes.getD k default).Op /\
   ((p.Nodes.getD k default).Op=1->p.Nodes.getD k default=aB.mk 1 (p.Nodes.getD k default).In ⟨#[]⟩ 0 (p.Nodes.getD k default).Exprs 0 0 0 [] [] 0 0 0 [] [] (p.Nodes.getD k default).Cols)/\((p.Nodes.getD k default).Op≠1->(p.Nodes.getD k default).Op≠2->(p.Nodes.getD k default).Exprs=[]))) ?_ fun z hz=>?_
  ·by_cases h1:(p.Nodes.getD k default).Op<0
   ·rw[aA (bU h1)];exact aC.2 ⟨rfl,fun h=>by cases h⟩
   ·rw[aF (bP h1)];by_cases h2:(p.Nodes.getD k default).Op>=9
    ·rw[aA (bU h2)];exact aC.2 ⟨rfl,fun h=>by cases h⟩
    ·rw[aF (bP h2),aST];simp only[aK];by_cases h3:((p.Nodes.getD k default).In.length:Int)=xA (p.Nodes.getD k default).Op
     ·rw[aF (by rw[Gz h3]; simp)];refine Sq.bind _ (aKI _ hbn hsn (by omega) (by omega)) fun r hr=>?_;refine Sq.bind _ (aLG r hr.b hr.s) fun b hbr=>aC.2 ⟨rfl,fun hh=>?_⟩;have hbt:b=true:=by simpa using hh
      obtain⟨q1,q2,q3,q4,q5,q6,q7⟩:=hbr hbt;refine⟨by omega,h3,fun o=>?_,fun o o'=>by rw[<-hr.ex o o']; exact q1⟩;have e:=hr.o1 o;rw[e]at q2 q3 q4 q5 q6 q7;simp only[List.cons.injEq,and_true]at q2 q3 q4 q5 q6 q7;obtain⟨s1,s2,s3,s4,s5,s6,s7⟩:=q7;revert o q2 q3 q4 q5 q6 s1 s2 s3 s4 s5 s6 s7;cases p.Nodes.getD k default;simp only;rintro rfl rfl rfl rfl rfl rfl rfl rfl rfl rfl rfl rfl rfl;rfl
     ·rw[aA (My h3)];exact aC.2 ⟨rfl,fun h=>by cases h⟩
  ·obtain⟨j5,j6⟩:=z;simp only at hz;obtain⟨hz1,hz2⟩:=hz;subst hz1;refine bH (fun _=>aC.2 rfl) fun hj6=>?_;obtain⟨hop,har,ho1,hex⟩:=hz2 hj6;refine Sq.bind _ (Xp hc hn hbn.i hI.l) fun z hz=>?_;cases z with
   | inr y=>have:y = .inr (.inr false):=hz;subst this;exact aC.2 rfl
   | inl v=>
    obtain⟨b13,b14⟩:=v;obtain⟨hz1,hz2,hz3,hz4⟩:=hz;subst hz1;simp only[sel];have hts:∀ t:Nat,t<(p.Nodes.getD k default).In.length->(b14.getD t default).length=ncA p.Nodes ((p.Nodes.getD k default).In.getD t default)/\(b14.getD t default).length<=1000000000:=fun t ht=>by rw[hz4 t (by omega)];have hj:=hz3 _ (aR ht);have:=hI.c ((p.Nodes.getD k default).In.getD t default).toNat (by omega);exact⟨this.1,this.2.1⟩
    refine Sq.bind _ (aOQ p.Funcs (p.Nodes.getD k default) b14 hf hb.fB hbn hop.1 hop.2 (by rw[<-har]; omega) (fun t ht=>by obtain⟨i,hi,rfl⟩:=iS ht;exact(hts i (by omega)).2)) fun r18 hr18=>?_;refine Sq.bind (fun z=>z.1=b13/\(z.2=false->r18.2=true/\(p.Nodes.getD k default).Cols.map aS.Type_=r18.1)) ?_ fun z hz=>?_
    ·cases hr2:r18.2 with
     | false=>simp only[lL,bS];exact aC.2 ⟨rfl,fun h=>by cases h⟩
     | true=>simp only[jF,cO,bY];refine bH (fun _=>aC.2 ⟨rfl,fun h=>(by cases h)⟩) fun _=>bH (fun _=>aC.2 ⟨rfl,fun h=>(by cases h)⟩) fun _=>?_;rw[aYB hb hc];exact aC.2 ⟨rfl,fun h=>⟨trivial,eS.1 (by simpa using h)⟩⟩
    ·obtain⟨j19,j20⟩:=z;simp only at hz;obtain⟨hz5,hz6⟩:=hz;subst hz5;refine bH (fun _=>aC.2 rfl) fun hj20=>?_;obtain⟨g1,g2⟩:=hz6 hj20;have hl:=hI.l;have hF:=hr18 g1;have hrl:r18.1.length=(p.Nodes.getD k default).Cols.length:=by rw[<-g2,hP]
     have hbc:=hbn.c;rw[aA (by simp; omega)];refine aC.2 ⟨by trivial,hc,?_,fun i hi=>?_⟩
     ·simp only;rw[bM (by omega),aJ,cY,hl]; rfl
     ·simp only at hi ⊢;rw[bM (by omega),aJ]at hi;by_cases hik:i=k
      ·subst hik;rw[Ry hl.symm];refine⟨hrl,by show r18.1.length<=_; omega,bBE hbn hop.1 hop.2 har hz3 hz2 (fun t ht=>(hts t ht).1) hrl hF ho1 hex,fun e he=>?_⟩;by_cases o1:(p.Nodes.getD i default).Op=1
       ·exact(hF.ex (Or.inl o1) e he).2
       ·by_cases o2:(p.Nodes.getD i default).Op=2
        ·exact(hF.ex (Or.inr o2) e he).2
        ·rw[hex o1 o2]at he; cases he
      ·rw[Ve (by omega)];exact hI.c i (by omega)
 ·rw[aF (bP (by omega))];refine aC.2 ⟨v3,?_⟩
  rwa [show k=p.Nodes.length by omega]at hI
theorem Tz{p:aE}(h:BQ p):Sp (aGW p) (fun r=>r=true->WP p):=by
 have hb:=h.b;unfold aGW aUY aHE Qw;simp only[Tr.den];refine Sq.bind (fun r=>r=true->WP p) ?_ fun r hr=>aC.2 hr;refine Sq.bind (fun j=>j=false->p.Nodes.length<=40/\FW p.Funcs) ?_ fun j hj=>?_
 ·by_cases h1:(p.Nodes.length:Int)<1
  ·rw[aA (bU h1)]; exact aC.2 fun h=>by cases h
  ·rw[aF (bP h1)];by_cases h2:(p.Nodes.length:Int)>40
   ·rw[aA (bU h2)]; exact aC.2 fun h=>by cases h
   ·rw[aF (bP h2)];exact Sq.bind _ (Sm _ hb.f hb.fB) fun r hr=>aC.2 fun hh=>⟨by omega,hr (by simpa using hh)⟩
 ·refine bH (fun _=>aC.2 fun h=>by cases h) fun hj0=>?_;obtain⟨h40,hfw⟩:=hj hj0;refine Sq.bind _ (aOX h h40) fun z hz=>?_;cases z with
  | inr y=>have:y=false:=hz;subst this;exact aC.2 fun h=>by cases h
  | inl u=>obtain⟨ts,hts⟩:=hz;refine aC.2 fun _=>⟨hb.f,hb.fB,hfw,h40,fun i hi=>(hts.c i hi).2.2.1,fun x hx e he=>?_⟩;obtain⟨i,hi,rfl⟩:=iS hx;exact(hts.c i hi).2.2.2 e he
set_option maxRecDepth 100000
def Ch:List aS:=[(aS.mk (⟨#[97]⟩) 0 (⟨#[]⟩)),(aS.mk (⟨#[98]⟩) 0 (⟨#[]⟩))]
noncomputable def ex1:aD:=(aCQ 15 0 5).getD default
noncomputable def ex2:aD:=(aCQ 13 1 2).getD default
noncomputable def n0X:aB:=aB.mk 0 ([]:List Int) (⟨#[115]⟩) 1 ([]:List aD) 0 0 0 ([]:List Int) ([]:List Int) 0 0 0 ([]:List cD) ([]:List cB) Ch
noncomputable def nF (i:Int)(c:aD):aB:=aB.mk 1 ([i]:List Int) (⟨#[]⟩) 0 ([c]:List aD) 0 0 0 ([]:List Int) ([]:List Int) 0 0 0 ([]:List cD) ([]:List cB) Ch
noncomputable def pX:aE:=aE.mk [] [n0X,nF 0 ex1,nF 1 ex2]
noncomputable def qX:aE:=aE.mk [] [n0X,nF 0 ex1,nF 0 (aD.mk 17 0 (⟨#[]⟩) [ex1,ex2])]
theorem aYL:aCQ 15 0 5=some ex1:=by kernel_rfl
theorem bAP:aCQ 13 1 2=some ex2:=by kernel_rfl
theorem aCM:aGW pX=some true:=by kernel_rfl
theorem okX:okE [] (aD.mk 17 0 ⟨#[]⟩ [ex1,ex2])=true:=by kernel_rfl
theorem bAO:bAD pX qX=some false:=by kernel_rfl
theorem bBD:aYX [⟨2,0,0⟩]=some ⟨#[109,101,114,103,101,32,50,32,48,10]⟩:=by kernel_rfl
def lf(o n:Int):aD:=aD.mk o n ⟨#[]⟩ []
theorem aTE:ex1=aD.mk 15 0 ⟨#[]⟩ [lf 3 0,lf 0 5]:=by kernel_rfl
theorem aTJ:ex2=aD.mk 13 0 ⟨#[]⟩ [lf 3 1,lf 0 2]:=by kernel_rfl
theorem cC.pr2{o n:Int}{x y:aD}(hx:cC x)(hy:cC y):cC (aD.mk o n ⟨#[]⟩ [x,y]):=cC.of (e:=aD.mk o n ⟨#[]⟩ [x,y]) (by show (0:Nat)<=_; omega) (by show (2:Nat)<=_; omega) fun z hz=>by
 rcases aW.1 hz with rfl | hz
 ·exact hx
 ·rw[cE.1 hz]; exact hy
theorem Fl(o n:Int):cC (lf o n):=cC.of (e:=lf o n) (by show (0:Nat)<=_; omega) (by show (0:Nat)<=_; omega) fun x hx=>by cases hx
theorem aPE:cC ex1:=by rw[aTE]; exact .pr2 (Fl _ _) (Fl _ _)
theorem aMF:cC ex2:=by rw[aTJ]; exact .pr2 (Fl _ _) (Fl _ _)
theorem aVP:BN n0X:=⟨by show (0:Nat)<=_; omega,by show (0:Nat)<=_; omega,fun x hx=>(by cases hx),by show (0:Nat)<=_; omega,by show (0:Nat)<=_; omega,by show (0:Nat)<=_; omega,by show (0:Nat)<=_; omega,fun x hx=>(by cases hx),by show (2:Nat)<=_; omega⟩
theorem aQI{i:Int}{c:aD}(h:cC c):BN (nF i c):=⟨by show (1:Nat)<=_; omega,by show (1:Nat)<=_; omega,fun x hx=>(by rw[cE.1 (show x∈[c] from hx)]; exact h),by show (0:Nat)<=_; omega,by show (0:Nat)<=_; omega,by show (0:Nat)<=_; omega,by show (0:Nat)<=_; omega,fun x hx=>(by cases hx),by show (2:Nat)<=_; omega⟩
theorem bqX:BQ pX:=by
 refine⟨⟨by show (0:Nat)<=_; omega,fun x hx=>(by cases hx),by show (3:Nat)<=_; omega,fun x hx=>?_⟩,fun x hx=>?_⟩
 ·have hx:x∈[n0X,nF 0 ex1,nF 1 ex2]:=hx;simp only[aW,uV,or_false]at hx;rcases hx with rfl | rfl | rfl
  ·exact aVP
  ·exact aQI aPE
  ·exact aQI aMF
 ·have hx:x∈[n0X,nF 0 ex1,nF 1 ex2]:=hx;simp only[aW,uV,or_false]at hx;rcases hx with rfl | rfl | rfl
  ·show (1:Nat)<=_; omega
  ·show (0:Nat)<=_; omega
  ·show (0:Nat)<=_; omega
theorem wpX:WP pX:=by obtain⟨y,h1,h2⟩:=(Tz bqX).get;rw[aCM]at h1;exact h2 (pJ h1).symm
theorem aZU:xT pX ⟨2,0,0⟩=some qX:=by
 have hr:aDN pX ⟨2,0,0⟩:=⟨⟨by show (0:Int)<=2; omega,by show (2:Int)<3; omega⟩,⟨by show (0:Int)<=0; omega,by show (0:Int)<9; omega⟩,Or.inl rfl⟩;unfold xT;rw[aA hr,aF (by show ¬ ((0:Int)=7); omega)];have h0:rlR pX 2 0 0=some [dY 0 (aD.mk 17 0 ⟨#[]⟩ [ex1,ex2]) Ch]:=by unfold rlR;rw[aA rfl];exact Bu (p:=pX) (k:=2) rfl rfl
 show (rlR pX 2 0 0).bind (fin pX 2)=some qX;rw[h0];show fin pX 2 _=_;unfold fin;have ho:zR pX.Funcs [dY 0 (aD.mk 17 0 ⟨#[]⟩ [ex1,ex2]) Ch]=true:=by show ([dY 0 (aD.mk 17 0 ⟨#[]⟩ [ex1,ex2]) Ch].all fun n=>n.Exprs.all (okE []))=true;simp only[List.all_cons,List.all_nil,Bool.and_true,dY];exact okX
 rw[aA ⟨by show (3:Int)+1-1<=40; omega,ho⟩];rfl
theorem aYW:aFA pX ⟨2,0,0⟩=some (qX,true):=by rw[aHJ wpX,aZU]; rfl
theorem aZW:aIA pX [⟨2,0,0⟩] qX=some (-1,0):=by
 unfold aIA aNZ;simp only[Tr.den];rw[aCM];have h0:Tr.den (kE [⟨2,0,0⟩] (pX.Funcs,pX.Nodes,0))=some (.inl (qX.Funcs,qX.Nodes,1)):=by
  unfold kE;simp only[Tr.den];rw[show aFA (aE.mk pX.Funcs pX.Nodes) ([(⟨2,0,0⟩:cA)].getD (Int.toNat 0) default)=some (qX,true) from aYW]
  kernel_rfl
 have h1:Tr.den (kE [⟨2,0,0⟩] (qX.Funcs,qX.Nodes,1))=some (.inr (.inl (qX.Funcs,qX.Nodes))):=by
  unfold kE;simp only[Tr.den]
  kernel_rfl
 have hw:=(qP (b:=fun s=>Tr.den (kE [⟨2,0,0⟩] s)) h0).trans (kL (b:=fun s=>Tr.den (kE [⟨2,0,0⟩] s)) h1);refine(congrArg (fun x=>Option.bind x _) hw).trans ?_
 kernel_rfl
theorem aZD:aIA pX [] qX=some (0,26):=by
 unfold aIA aNZ;simp only[Tr.den];rw[aCM];have h1:Tr.den (kE [] (pX.Funcs,pX.Nodes,0))=some (.inr (.inl (pX.Funcs,pX.Nodes))):=by unfold kE;simp only[Tr.den];rfl
 have hw:=kL (b:=fun s=>Tr.den (kE [] s)) h1;refine(congrArg (fun x=>Option.bind x _) hw).trans ?_;refine(congrArg (fun x=>Option.bind x _) bAO).trans ?_;rfl
theorem bBN:aVV=some true:=by unfold aVV aWE;simp only[Tr.den];rw[aYL,bAP];simp only[aK];have ha:=aZW;have hb:=aZD;simp only[pX,qX,n0X,nF,Ch]at ha hb;rw[ha,hb,bBD];simp only[aK];rw[aA (by decide),aA (by decide),aA (by decide),aA (by decide)];simp only[aK];rw[xY.2 rfl]
theorem aXF{p:aE}(h:gU p):BQ p:=by
 obtain⟨hf,hn⟩:=h;have hf1:=hf.1;have hn1:=hn.1;refine⟨⟨by omega,fun x hx=>?_,by omega,fun x hx=>?_⟩,fun x hx=>?_⟩
 ·have:=hf.2 x hx;have h2:=this.2.1.1;exact⟨this.2.2.2.bnd,by omega⟩
 ·obtain⟨_,h1,_,_,h2,_,_,_,h3,h4,_,_,_,h5,h6,h7⟩:=hn.2 x hx;have:=h1.1; have:=h2.1; have:=h3.1; have:=h4.1; have:=h5.1; have:=h6.1; have:=h7.1;exact⟨by omega,by omega,fun e he=>(h2.2 e he).bnd,by omega,by omega,by omega,by omega,fun e he=>(h6.2 e he).1.bnd,by omega⟩
 ·have:x.Source.size<=1048576:=(hn.2 x hx).2.2.1;omega
theorem aKF(p:aE)(h:gU p)(n:Int):Sp (aVZ p n) (fun _=>True):=by
 obtain⟨hf,hn⟩:=h;have hn1:=hn.1;unfold aVZ aVU;simp only[Tr.den,iJ];refine jQ (fun s:Int=>s) p.Nodes.length (by omega) (fun _=>True) (fun s k _ hk hkN=>?_) trivial rfl;subst hk;unfold Td;simp only[Tr.den,aJ,tJ,aK];by_cases hc:((k:Int)<(p.Nodes.length:Int))/\(k:Int)<n
 ·rw[aA (bU hc),aA (by omega)];refine Sq.bind _ (Sq.of (aKO p.Funcs _ hf (hn.2 _ (aR (show k<p.Nodes.length by omega))))) fun r _=>?_;refine Sq.bind (fun _=>True) (bH (fun _=>bR) fun _=>bH (fun _=>bR) fun _=>bR) fun j _=>?_;cases j with
  | true=>exact aC.2 (aC.2 trivial)
  | false=>exact aC.2 ⟨rfl,by omega,trivial⟩
 ·rw[aF (bP hc)];refine aC.2 ?_;simp only[sel];exact bR
theorem bpE:BP ⟨[],[]⟩:=⟨by show (0:Nat)<=_; omega,fun x hx=>(by cases hx),by show (0:Nat)<=_; omega,fun x hx=>(by cases hx)⟩
theorem aNI{p:aE}(hp:gU p):Sp (aGW p) (fun r=>r=true->WP p):=Tz (aXF hp)
theorem Wr(p:aE)(x:cA)(hp:gU p)(hx:lP x):aAU p x=some true:=by
 obtain⟨y1,h1,_⟩:=(aKF p hp 9).get;obtain⟨y2,h2,h3⟩:=(aNI hp).get;unfold aAU aRI;simp only[Tr.den,bBN,h1,aK];cases y1 with
 | false=>rfl
 | true=>
  simp only[h2,aK];cases y2 with
  | false=>rfl
  | true=>
   have hw:=h3 rfl;obtain⟨z,h4,h5⟩:=aRH hw x;simp only[aHJ hw,h4,aK,jF,cO,bY,bS];cases hr:xT p x with
   | some q=>rw[hr]at h5;obtain rfl:=aPV h5;have hq:=aJO hw q hr;simp only[pK,Ax];rw[aA (by decide),aGD hq.b,pZ];rfl
   | none=>
    rw[hr]at h5;obtain⟨h6,h7⟩:=aQB h5;obtain⟨z1,z2⟩:=z;simp only at h6 h7;subst h6;have hd:((default:aE×Bool).2==(z2==0))=true:=by rw[bF h7]; rfl
    simp only[Option.map_none,Option.getD_none];rw[aA hd,show aQD (default:aE×Bool).1 ⟨[],[]⟩=some (eqD (⟨[],[]⟩:aE) ⟨[],[]⟩) from aGD (p:=⟨[],[]⟩) bpE,pZ];rfl
end Go.PL
