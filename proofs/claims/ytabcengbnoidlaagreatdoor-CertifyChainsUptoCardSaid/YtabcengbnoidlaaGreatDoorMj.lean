/-
  CertifyChains: for all arguments of bulk at most 1048576 the law returns true and leaves its arguments as they were; the listed tables are tied to the program's text. Own work.
  Parts ahead of it: Nodes that are shared, nodes that are dropped; what both programs' steps come to. Own work. Nodes that are dropped; what both programs' steps come to. Own work. The rules' step. Own work. Whether columns, expressions and functions are right is always answered; what is right may be evaluated. Own work. Expressions and functions that are right may be evaluated. Own work. What a node needs to be right, part by part. Own work. Valid plans have what the rules need. Own work. Valid plans. Own work. The example of the documentation. Own work. Chains of steps; the two laws. Own work. The row of CertifyChains from what its function gives, and its card. Own work.
-/
import Derived.Test.YtabcengbnoidlaaGreatDoorMi
import Derived.KernelRfl
import Derived.Test.YtabcengbnoidlaaGreatDoorCards
import Derived.Test.YtabcengbnoidlaaGreatDoorTie
import Derived.SizedLaws
import Derived.Deep.DeepHandedRow
import Derived.Deep.DeepWitnessRowRef
import Derived.Lib.LaidTab
import Derived.Deep.DeepLaidRun
set_option maxHeartbeats 4000000
namespace Go.PL
open Go
set_option linter.unusedVariables false
set_option maxRecDepth 20000
variable {A:Type} {b:Bool} {i:Nat} {l t:List Int} {m:Int} {ns:List aC}
theorem xI{S R:Type}[Inhabited A](f:A->A)(l:List A)(s:Nat)(hs:s<=l.length){st:List A->Nat->S}{bd:S->Option (S⊕R)}{r:List A->R}
  (h:∀ v (k:Nat),s<=k->k<l.length->v.length=l.length->v.getD k default=l.getD k default->bd (st v k)=some (.inl (st (v.set k (f (l.getD k default))) (k+1))))
  (hf:∀ v,v.length=l.length->bd (st v l.length)=some (.inr (r v))):cB bd (st l s)=some (r (l.take s++(l.drop s).map f)):=by
 have:=mQ (fun i=>st (l.take s++((l.drop s).take i).map f++(l.drop s).drop i) (s+i)) (l.length-s) (bd:=bd) (r:=r (l.take s++(l.drop s).map f)) (fun i hi=>?_) ?_
 ·have e0:l.take s++((l.drop s).take 0).map f++(l.drop s).drop 0=l:=by simp
  simp only[e0,tV]at this;exact this
 ·have hi2:i<(l.drop s).length:=by rw[fI]; exact hi
  have hp:(l.take s++((l.drop s).take i).map f).length=s+i:=by rw[cZ,dM,iG,dM,fI]; omega
  have hg:(l.take s++((l.drop s).take i).map f++(l.drop s).drop i).getD (s+i) default=l.getD (s+i) default:=by rw[cI,eH (by omega),hp,sM,iD,iD,<-cI];rfl
  rw[h _ (s+i) (by omega) (by omega) (by simp; omega) hg];have:(l.take s++((l.drop s).take i).map f++(l.drop s).drop i).set (s+i) (f (l.getD (s+i) default))=l.take s++((l.drop s).take (i+1)).map f++(l.drop s).drop (i+1):=by
   rw[List.set_append_right _ _ (by omega),hp,sM,tY hi2,List.set_cons_zero,dU hi2,Cn,<-gX,gX _ _ (List.drop (i+1) _)]
   congr 1
   rw[show (l.drop s).getD i default=l.getD (s+i) default by simp]; rfl
  rw[this,oH]
 ·have e1:(l.drop s).take (l.length-s)=l.drop s:=fS (by rw[fI]; omega);have e2:(l.drop s).drop (l.length-s)=[]:=List.drop_eq_nil_of_le (by rw[fI]; omega);rw[e1,e2,jJ,show s+(l.length-s)=l.length by omega];exact hf _ (by rw[cZ,dM,iG,fI]; omega)
def Jt(k m j:Int):Int:=if j=k then m else j
def Gg(k m:Int)(n:aC):aC:=inG n (Jt k m)
def hP(ns:List aC)(k:Nat)(m:Int):List aC:=ns.take (k+1)++(ns.drop (k+1)).map (Gg k m)
noncomputable def rl7 (p:aB)(k:Nat)(m:Int):Option (List aC):=open Classical in if 0<=m/\m<(k:Int)/\k+1<p.Nodes.length/\nd p k=nd p m.toNat then some (hP p.Nodes k m) else none
theorem Uf{p:aB}{k:Nat}(h:¬ (0<=m/\m<(k:Int)/\k+1<p.Nodes.length/\nd p k=nd p m.toNat)):rl7 p k m=none:=aF h
theorem Si{p:aB}{k:Nat}(h:0<=m/\m<(k:Int)/\k+1<p.Nodes.length/\nd p k=nd p m.toNat):rl7 p k m=some (hP p.Nodes k m):=aA h
theorem Af{k:Nat}(hk:k<ns.length):(hP ns k m).length=ns.length:=by rw[hP,cZ,dM,iG,fI]; omega
theorem Ct{k:Nat}(hk:k<ns.length)(hi:i<=k):(hP ns k m).getD i default=ns.getD i default:=by rw[hP,cI,eT (by rw[dM]; omega),Cc (by omega),<-cI]
theorem Dx{k:Nat}(hi:k<i)(h:i<ns.length):(hP ns k m).getD i default=Gg k m (ns.getD i default):=by rw[hP,cI,eH (by rw[dM]; omega),dM,fD,iD,show k+1+(i-min (k+1) ns.length)=i by omega,gJ h,eJ h];rfl
theorem vY{k:Nat}(hk:k<ns.length){j:Int}(hj:j.toNat<ns.length):ncA (hP ns k m) j=ncA ns j:=by
 unfold ncA;by_cases h:j.toNat<=k
 ·rw[Ct hk h]
 ·rw[Dx (by omega) hj]; rfl
theorem WP.share{p:aB}(h:WP p){k:Nat}(hc:0<=m/\m<(k:Int)/\k+1<p.Nodes.length/\nd p k=nd p m.toNat):WP ⟨p.Funcs,hP p.Nodes k m⟩:=by
 obtain⟨h0,h1,h2,h3⟩:=hc;have hk:k<p.Nodes.length:=by omega
 have hlen:=Af (m:=m) hk;refine⟨h.f,h.fB,h.fw,by show (hP p.Nodes k m).length<=40; rw[hlen]; exact h.n,fun i hi=>?_,?_⟩
 ·have hi:i<(hP p.Nodes k m).length:=hi;rw[hlen]at hi;show WN p.Funcs.length (ncA (hP p.Nodes k m)) i ((hP p.Nodes k m).getD i default);have hw:=h.w i hi;by_cases hik:i<=k
  ·rw[Ct hk hik];refine hw.nc fun j hj=>?_;have:=hw.hin j hj;exact⟨vY hk (by omega),this.2⟩
  ·rw[Dx (by omega) hi];refine hw.map _ fun j hj=>?_;have:=hw.hin j hj;unfold Jt;by_cases hjk:j=(k:Int)
   ·rw[aA hjk,vY hk (by omega)];refine⟨?_,h0,by omega⟩;have e:(nd p k).Cols.length=(nd p m.toNat).Cols.length:=by rw[h3]
    rw[hjk];show (nd p m.toNat).Cols.length=(nd p ((k:Int)).toNat).Cols.length;rw[aJ]; exact e.symm
   ·rw[aF hjk];exact⟨vY hk (by omega),this⟩
 ·intro x hx e he;have hx:x∈hP p.Nodes k m:=hx;rcases dZ.1 hx with hx | hx
  ·exact h.lw x (zU hx) e he
  ·obtain⟨y,hy,rfl⟩:=dW.1 hx;exact h.lw y (List.mem_of_mem_drop hy) e he
section
variable {p:aB} (h:WP p) {k:Nat} (hk:k<p.Nodes.length)
include h hk
theorem c7(m:Int):Lm ⟨p,k,m,nd p k⟩=some (rl7 p k m):=by
 have hn:=h.n;have hw:IntKind.i64.wrap ((p.Nodes.length:Int)-1)=(p.Nodes.length:Int)-1:=cR (by omega) (by omega);have hw1:IntKind.i64.wrap ((k:Int)+1)=((k+1:Nat):Int):=bO (by omega);unfold Lm Of;by_cases hc:0<=m/\m<(k:Int)/\k+1<p.Nodes.length/\nd p k=nd p m.toNat
 ·obtain⟨h0,h1,h2,h3⟩:=hc;rw[Si ⟨h0,h1,h2,h3⟩];have hb:=aAD h (k:=m.toNat) (by omega);have q1:aDG (nd p m.toNat) (nd p k)=some true:=by rw[Mu hb,<-h3,qT]
  have g1:(0<=m/\m<(p.Nodes.length:Int))=True:=eI (by omega);have w1:cB (fun s=>(rJ ⟨p,k,m,nd p k⟩ s).den) (p.Nodes,((k+1:Nat):Int))=some (.inl (hP p.Nodes k m)):=by
   refine xI (st:=fun v i=>(v,(i:Int))) (Gg k m) p.Nodes (k+1) (by omega) (r:=fun v=>Sum.inl v) (fun v i hsi hi hv hg=>?_) fun v hv=>?_
   ·have hbi:=(h.w i hi).b;have hii:=hbi.i;unfold rJ;simp only[Tr.den,aJ,hg];rw[aA (bS (by omega)),aA (by omega),aA ⟨by omega,trivial⟩,rH _ (by omega)];simp only[aK];rw[aA (by omega),aA (by omega),aA (by omega),aA ⟨by omega,trivial,trivial⟩];rw[oM (st:=fun w j=>(w,j)) (Jt k m) (p.Nodes.getD i default).In (r:=fun w=>.inl (v.set i (gN (p.Nodes.getD i default) w (p.Nodes.getD i default).Cols))) (by omega) (fun w j hj hwl hwg=>?_) fun w hwl=>?_]
    ·simp only[aK,dG,bO (show i<9223372036854775807 by omega)];rfl
    ·unfold vR;simp only[Tr.den,aJ,hwg];rw[aA (bS (by omega)),aA (by omega),aA (by omega)];by_cases hjk:(p.Nodes.getD i default).In.getD j default=(k:Int)
     ·rw[aA (dB hjk),aA (by omega),aA ⟨by omega,trivial,trivial⟩,aA (by omega),aA (by omega),aA (by simp; omega),Jt,aA hjk];rfl
     ·rw[aF (eE hjk),Jt,aF hjk,<-hwg,kN (by omega)];rfl
    ·unfold vR;simp only[Tr.den,hwl,aJ,hg];rw[aF (bQ (by omega))];rfl
   ·unfold rJ;simp only[Tr.den];rw[aF (bQ (by omega))]
  simp only[Tr.den,cY (show m>=0 by omega),cY h1,hw,hw1,cY (show (k:Int)<(p.Nodes.length:Int)-1 by omega),bU,g1,mN,q1,aK,cU,dG,aEU p.Nodes (by omega),w1]
 ·rw[Uf hc];have hpre:(if decide (m>=0)=true then (if decide (m<(k:Int))=true then (if decide ((k:Int)<(p.Nodes.length:Int)-1)=true then (if 0<=m/\m<(p.Nodes.length:Int) then (aDG (nd p m.toNat) (nd p k)).bind (fun r=>zX (some (Sum.inr none)) (fun _=>some (Sum.inl ():Unit⊕Option (List aC))) (if r=true then some () else none)) else none) else some (Sum.inr none)) else some (Sum.inr none)) else some (Sum.inr none))=some (Sum.inr none):=by
   by_cases h0:m>=0
   ·rw[aA (bS h0)];by_cases h1:m<(k:Int)
    ·rw[aA (bS h1)];by_cases h2:(k:Int)<(p.Nodes.length:Int)-1
     ·have hb:=aAD h (k:=m.toNat) (by omega);rw[aA (bS h2),aA (by omega),Mu hb];have:eqD (nd p m.toNat) (nd p k)=false:=by
       cases he:eqD (nd p m.toNat) (nd p k) with
       | false=>rfl
       | true=>exact absurd ⟨h0,h1,by omega,(eS.1 he).symm⟩ hc
      rw[this]; rfl
     ·rw[aF (bQ h2)]
    ·rw[aF (bQ h1)]
   ·rw[aF (bQ h0)]
  simp only[Tr.den,hw,mN,cT,cK,bY,aK,cX]at hpre ⊢;rw[hpre];rfl
theorem r7(m:Int):∃ z,Oi ⟨p⟩ k m=some z/\RA ((rl7 p k m).map fun l=>⟨p.Funcs,l⟩) z:=by
 have hn:=h.n;have hw:IntKind.i64.wrap ((p.Nodes.length:Int)-1)=(p.Nodes.length:Int)-1:=cR (by omega) (by omega);have hw1:IntKind.i64.wrap ((k:Int)+1)=((k+1:Nat):Int):=bO (by omega);have g0:(0<=(k:Int)/\(k:Int)<(p.Nodes.length:Int))=True:=eI (by omega);unfold Oi Rz;by_cases hc:0<=m/\m<(k:Int)/\k+1<p.Nodes.length/\nd p k=nd p m.toNat
 ·obtain⟨h0,h1,h2,h3⟩:=hc;rw[Si ⟨h0,h1,h2,h3⟩];have hb:=aAD h hk;have q1:aEH (nd p k) (nd p m.toNat)=some true:=by rw[aJK hb,<-h3,qT]
  have g1:(0<=m/\m<(p.Nodes.length:Int))=True:=eI (by omega);have g2:(0<=((k+1:Nat):Int)/\((k+1:Nat):Int)<=(p.Nodes.length:Int)/\(p.Nodes.length:Int)<=(p.Nodes.length:Int))=True:=eI (by omega);have w1:cB (fun s=>(nS k m p s).den) (p.Nodes,0)=some (.inl (hP p.Nodes k m)):=by
   have:=xI (bd:=fun s=>(nS k m p s).den) (st:=fun v i=>(v,((i-(k+1):Nat):Int))) (Gg k m) p.Nodes (k+1) (by omega) (r:=fun v=>Sum.inl v) (fun v i hsi hi hv hg=>?_) fun v hv=>?_
   ·rw[sM]at this;exact this
   ·have hbi:=(h.w i hi).b;have hii:=hbi.i;have ei:k+1+(i-(k+1))=i:=by omega
    unfold nS;simp only[Tr.den,hw1,aJ,ei,hg];rw[aA (bS (by omega)),aA (by omega),aA (by omega),aA ⟨by omega,trivial,trivial⟩];rw[oM (st:=fun w j=>(w,j)) (Jt k m) (p.Nodes.getD i default).In (r:=fun w=>.inl (v.set i (gN (p.Nodes.getD i default) w (p.Nodes.getD i default).Cols))) (by omega) (fun w j hj hwl hwg=>?_) fun w hwl=>?_]
    ·simp only[aK,dG];rw[bO (by omega),show i-(k+1)+1=i+1-(k+1) by omega];rfl
    ·unfold wY;simp only[Tr.den,hw1,aJ,ei,hg,hwg];rw[aA (bS (by omega)),aA (by omega),aA (by omega)];by_cases hjk:(p.Nodes.getD i default).In.getD j default=(k:Int)
     ·rw[aA (dB hjk),aA (by omega),aA (by omega),aA (by simp; omega),Jt,aA hjk];rfl
     ·rw[aF (eE hjk),Jt,aF hjk,<-hwg,kN (by omega)];rfl
    ·unfold wY;simp only[Tr.den,hw1,aJ,ei,hg];rw[aF (bQ (by omega))];rfl
   ·unfold nS;simp only[Tr.den,hw1];rw[aF (bQ (by omega))]
  simp only[Tr.den,eC (show ¬ m<0 by omega),eC (show ¬ m>=(k:Int) by omega),hw,hw1,bF (show (k:Int)≠(p.Nodes.length:Int)-1 by omega),cK,bY,bU,g0,g1,g2,aJ,mN,q1,aK,iP,aIG h.b,w1,dG];exact⟨_,rfl,rfl⟩
 ·rw[Uf hc];have hpre:(if decide (m<0)=true then some true else (if decide (m>=(k:Int))=true then some true else (if ((k:Int)==(p.Nodes.length:Int)-1)=true then some true else (if 0<=m/\m<(p.Nodes.length:Int) then (aEH (nd p k) (nd p m.toNat)).bind (fun r=>some (!r)) else none))))=some true:=by
   by_cases h0:m<0
   ·rw[aA (bS h0)]
   ·rw[aF (bQ h0)];by_cases h1:m>=(k:Int)
    ·rw[aA (bS h1)]
    ·rw[aF (bQ h1)];by_cases h2:(k:Int)=(p.Nodes.length:Int)-1
     ·rw[aA (dB h2)]
     ·rw[aF (eE h2),aA (by omega),aJK (aAD h hk)];have:eqD (nd p k) (nd p m.toNat)=false:=by
       cases he:eqD (nd p k) (nd p m.toNat) with
       | false=>rfl
       | true=>exact absurd ⟨by omega,by omega,by omega,eS.1 he⟩ hc
      rw[this]; rfl
  simp only[Tr.den,hw,g0,bU,aJ,mN,hpre,aK,gE];exact⟨_,rfl,dP⟩
end
def uT(p:aB)(k:Nat):Bool:=p.Nodes.all fun n=>!decide ((k:Int)∈n.In)
def rl8(p:aB)(k:Nat):Option (List aC):=if k+1<p.Nodes.length/\uT p k=true then some [] else none
theorem Jq{p:aB}{k:Nat}(h:¬ (k+1<p.Nodes.length/\uT p k=true)):rl8 p k=none:=aF h
theorem aJI{p:aB}{k:Nat}(h:k+1<p.Nodes.length/\uT p k=true):rl8 p k=some []:=aA h
theorem aYE{p:aB}{k:Nat}(h:uT p k=true):jN p k [] where
 n:=by simp
 w:=fun i hi=>by cases hi
 last:=Or.inl ⟨rfl,fun n hn hk=>by have:=dQ.1 h n hn;simp[hk]at this⟩
section
variable {p:aB} (h:WP p) {k:Nat} (hk:k<p.Nodes.length)
include h hk
theorem c8(m:Int):Ro ⟨p,k,m,nd p k⟩=some ((rl8 p k).bind (uY p k)):=by
 have hn:=h.n;have hw:IntKind.i64.wrap ((p.Nodes.length:Int)-1)=(p.Nodes.length:Int)-1:=cR (by omega) (by omega);have w0:cB (fun s=>(rK ⟨p,k,m,nd p k⟩ s).den) 0=some (if uT p k=true then .inl () else .inr none):=by
  refine kA (fun n=>!decide ((k:Int)∈n.In)) p.Nodes (by omega) (fun i hi=>?_) ?_
  ·have hb:=(h.w i hi).b.i;unfold rK;simp only[Tr.den,aJ,zB hb,aK,cT];rw[aA (bS (by omega)),aA (by omega)];cases decide ((k:Int)∈(p.Nodes.getD i default).In) <;> rfl
  ·unfold rK;simp only[Tr.den];rw[aF (bQ (by omega))]
 unfold Ro Pd;by_cases h2:k+1<p.Nodes.length
 ·by_cases hf:uT p k=true
  ·rw[aJI ⟨h2,hf⟩];simp only[Tr.den,hw,cY (show (k:Int)<(p.Nodes.length:Int)-1 by omega),bU,aK,cU,w0,hf,dG,gR];exact qL h hk (aYE hf)
  ·rw[Jq fun hh=>hf hh.2];simp only[Tr.den,hw,cY (show (k:Int)<(p.Nodes.length:Int)-1 by omega),bU,aK,cU,w0,hf,cK,bY,fP];rfl
 ·rw[Jq fun hh=>h2 hh.1];simp only[Tr.den,hw,eC (show ¬ (k:Int)<(p.Nodes.length:Int)-1 by omega),cK,bY,aK,cX];rfl
theorem r8(m:Int):∃ z,Se ⟨p⟩ k m=some z/\RA ((rl8 p k).bind (fin p k)) z:=by
 have hn:=h.n;have hw:IntKind.i64.wrap ((p.Nodes.length:Int)-1)=(p.Nodes.length:Int)-1:=cR (by omega) (by omega);have w0:Nv p.Nodes k=some (!uT p k):=by
  unfold Nv Pw aIM Qz;simp only[Tr.den];rw[mX (fun n=>!decide ((k:Int)∈n.In)) p.Nodes (by omega) (fun i hi=>?_) ?_]
  ·rfl
  ·unfold wG;simp only[Tr.den];rw[aF (bQ (by omega))]
  ·have hb:=(h.w i hi).b.i;unfold wG aBY On;simp only[Tr.den,aJ,zB hb,aK];rw[aA (bS (by omega)),aA (by omega)];cases decide ((k:Int)∈(p.Nodes.getD i default).In) <;> rfl
 unfold Se Ox;simp only[Tr.den,hw,w0,aK,fC,gE];by_cases hf:uT p k=true
 ·by_cases h2:k+1<p.Nodes.length
  ·rw[aJI ⟨h2,hf⟩];simp only[hf,iP,cK,bY,bF (show (k:Int)≠(p.Nodes.length:Int)-1 by omega),aK];exact kG h hk (aYE hf)
  ·rw[Jq fun hh=>h2 hh.1];simp only[hf,iP,cK,bY,dB (show (k:Int)=(p.Nodes.length:Int)-1 by omega),aK,bU];exact⟨_,rfl,dP⟩
 ·rw[Jq fun hh=>hf hh.2];simp only[Bool.eq_false_iff.2 hf,lP,bU,aK];exact⟨_,rfl,dP⟩
end
noncomputable def rlR (p:aB)(k:Nat)(r m:Int):Option (List aC):=
 if r=0 then rl0 p k else if r=1 then rl1 p k else if r=2 then rl2 p k else if r=3 then rl3 p k else if r=4 then rl4 p k m else if r=5 then rl5 p k else if r=6 then rl6 p k else if r=8 then rl8 p k else none
def aCO(p:aB)(x:aW):Prop:=(0<=x.Node/\x.Node<(p.Nodes.length:Int))/\(0<=x.Rule/\x.Rule<9)/\(x.N=0\/x.Rule=4\/x.Rule=7)
noncomputable def qR (p:aB)(x:aW):Option aB:=open Classical in
 if aCO p x then (if x.Rule=7 then (rl7 p x.Node.toNat x.N).map (fun l=>⟨p.Funcs,l⟩) else (rlR p x.Node.toNat x.Rule x.N).bind (fin p x.Node.toNat)) else none
section
variable {p:aB} (h:WP p) {k:Nat} (hk:k<p.Nodes.length)
include h hk
theorem bCJ{r:Int}:∀ l,rlR p k r m=some l->jN p k l:=by
 intro l hl;unfold rlR at hl;by_cases q0:r=0
 ·rw[aA q0]at hl; exact aVC h hk l hl
 rw[aF q0]at hl;by_cases q1:r=1
 ·rw[aA q1]at hl;by_cases hc:(nd p k).Op=1/\(inn p k).Op=2
  ·obtain⟨a,ha,hb,hB,hE,hN⟩:=in1 h hk hc.1 hc.2;rw[aCG hc.1 hc.2,ha]at hl;obtain⟨g,hg,rfl⟩:=gB.1 hl;exact hN g hg
  ·rw[Hw hc]at hl; cases hl
 rw[aF q1]at hl;by_cases q2:r=2
 ·rw[aA q2]at hl;by_cases hc:(nd p k).Op=1/\(inn p k).Op=3
  ·obtain⟨a,b,ha,hb,hb2,hN⟩:=in2 h hk hc.1 hc.2;rw[aEA hc.1 hc.2,ha]at hl;cases hl;exact hN
  ·rw[Jj hc]at hl; cases hl
 rw[aF q2]at hl;by_cases q3:r=3
 ·rw[aA q3]at hl;by_cases hc:(nd p k).Op=1/\lN p (fx p k)=false
  ·by_cases h5:(inn p k).Op=5
   ·obtain⟨a,ha,hb,hN⟩:=aUF h hk hc.1 h5;rw[aDA hc.1 hc.2 h5,ha]at hl;split at hl
    ·cases hl; exact hN
    ·cases hl
   ·by_cases h48:(inn p k).Op=4\/(inn p k).Op=8
    ·obtain⟨a,ha,hb,hN⟩:=aZE h hk hc.1 h48;rw[aFI hc.1 hc.2 h48,ha]at hl;split at hl
     ·rename_i hA;cases hl; exact hN hA
     ·cases hl
    ·rw[aDZ h5 h48]at hl; cases hl
  ·rw[Kt hc]at hl; cases hl
 rw[aF q3]at hl;by_cases q4:r=4
 ·rw[aA q4]at hl;by_cases hc:(nd p k).Op=1/\lN p (fx p k)=false/\((m=0/\((inn p k).Op=6\/(inn p k).Op=7))\/(m=1/\(inn p k).Op=6))/\(cS (fx p k)).all (iW p k m)=true
  ·obtain⟨a,b,ha,hb,hb2,hL,hsum,hle,hN0,hN1⟩:=in4 h hk hc.1 (by omega);obtain⟨c1,c2,c3,c4⟩:=hc;rcases c3 with⟨rfl,c3⟩ | ⟨rfl,c3⟩
   ·rw[aHT c1 c2 c3 c4,ha]at hl;cases hl; exact hN0 c4
   ·rw[aCA c1 c2 c3 c4,ha]at hl;cases hl; exact hN1 c4
  ·rw[qK hc]at hl; cases hl
 rw[aF q4]at hl;by_cases q5:r=5
 ·rw[aA q5]at hl;by_cases hc:(nd p k).Op=4/\(nd p k).Kind=1/\(nd p k).Step<(nd p k).Size
  ·rw[aEI hc]at hl; cases hl; exact aSY h hk hc.1
  ·rw[aEP hc]at hl; cases hl
 rw[aF q5]at hl;by_cases q6:r=6
 ·rw[aA q6]at hl;by_cases hc:(nd p k).Op=6
  ·obtain⟨a,b,hi,ha,hb,hc1,hcc,hN⟩:=in6 h hk hc;rw[aJF hc hi]at hl; cases hl; exact hN
  ·rw[aIN hc]at hl; cases hl
 rw[aF q6]at hl;by_cases q8:r=8
 ·rw[aA q8]at hl;by_cases hc:k+1<p.Nodes.length/\uT p k=true
  ·rw[aJI hc]at hl; cases hl; exact aYE hc.2
  ·rw[Jq hc]at hl; cases hl
 rw[aF q8]at hl;cases hl
end
theorem aNV{p:aB}(h:WP p){x:aW}:∀ q,qR p x=some q->WP q:=by
 intro q hq;unfold qR at hq;by_cases hx:aCO p x
 ·rw[aA hx]at hq;have hk:x.Node.toNat<p.Nodes.length:=by have:=hx.1; omega
  by_cases h7:x.Rule=7
  ·rw[aA h7]at hq;obtain⟨l,hl,rfl⟩:=gB.1 hq;by_cases hc:0<=x.N/\x.N<(x.Node.toNat:Int)/\x.Node.toNat+1<p.Nodes.length/\nd p x.Node.toNat=nd p x.N.toNat
   ·rw[Si hc]at hl; cases hl; exact h.share hc
   ·rw[Uf hc]at hl; cases hl
  ·rw[aF h7]at hq;obtain⟨l,hl,hq⟩:=oN.1 hq;unfold fin at hq;split at hq
   ·rename_i hc;cases hq;exact h.rep hk (bCJ h hk l hl) hc.1 hc.2
   ·cases hq
 ·rw[aF hx]at hq; cases hq
theorem Sv{p:aB}(h:WP p){L:Option (List aC)}(f:List aC->Option aB)(hf:∀ l,L=some l->f l=if (l.length:Int)<=40 then some ⟨p.Funcs,l⟩ else none):
  (some L).bind (zX (some none) fun r=>zX (some none) (fun _=>(aCS p.Funcs).bind fun r2=>some (some ((⟨r2,r⟩:aB),true))) (if decide ((r.length:Int)<=40)=true then some () else none))=some ((L.bind f).map fun q=>(q,true)):=by
 have hf1:=h.f;cases L with
 | none=>rfl
 | some l=>
  simp only[aK,cU,cT,aYJ p.Funcs (by omega),hf l rfl];by_cases h4:(l.length:Int)<=40
  ·rw[aA (bS h4),aA h4]; rfl
  ·rw[aF (bQ h4),aF h4]; rfl
theorem aFF{p:aB}(h:WP p){k:Nat}(hk:k<p.Nodes.length){L:Option (List aC)}:(L.bind (uY p k)).bind (fun l=>if (l.length:Int)<=40 then some ⟨p.Funcs,l⟩ else none)=L.bind (fin p k):=by
 cases L with
 | none=>rfl
 | some l=>
  show (uY p k l).bind _=fin p k l;unfold uY fin;by_cases ho:Ak p.Funcs l=true
  ·rw[aA ho];show (if ((kB p.Nodes k l).length:Int)<=40 then _ else _)=_;rw[Jg hk];by_cases h4:(p.Nodes.length:Int)+l.length-1<=40
   ·rw[aA (by omega),aA ⟨h4,ho⟩]
   ·rw[aF (by omega),aF fun hh=>h4 hh.1]
  ·rw[aF ho,aF fun hh=>ho hh.2]; rfl
theorem La{p:aB}(h:WP p)(x:aW):Py p x=some (((qR p x).map fun q=>(q,true)).getD default):=by
 unfold Py
 suffices hs:(aKW p x).den=some ((qR p x).map fun q=>(q,true)) by rw[hs]; rfl
 unfold aKW;by_cases hx:aCO p x
 ·obtain⟨⟨x1,x2⟩,⟨x3,x4⟩,x5⟩:=id hx;have hk:x.Node.toNat<p.Nodes.length:=by omega
  have hkn:((x.Node.toNat:Nat):Int)=x.Node:=by omega
  have gin:(0<=x.Node/\x.Node<(p.Nodes.length:Int))=True:=eI ⟨x1,x2⟩;have hp2:(if (x.N==0)=true then (some (Sum.inl ()):Option (Unit⊕Option (aB×Bool))) else if (x.Rule==4)=true then some (Sum.inl ()) else if (x.Rule==7)=true then some (Sum.inl ()) else some (Sum.inr none))=some (Sum.inl ()):=by
   by_cases e0:x.N=0
   ·rw[aA (dB e0)]
   ·rw[aF (eE e0)];by_cases e4:x.Rule=4
    ·rw[aA (dB e4)]
    ·rw[aF (eE e4),aA (dB (by omega))]
  have T:∀ {L:Option (List aC)},(some (L.bind (uY p x.Node.toNat))).bind (zX (some none) fun r=>zX (some none) (fun _=>(aCS p.Funcs).bind fun r2=>some (some ((⟨r2,r⟩:aB),true))) (if decide ((r.length:Int)<=40)=true then some () else none))=some ((L.bind (fin p x.Node.toNat)).map fun q=>(q,true)):=by intro L;rw[Sv h _ (fun l _=>rfl),aFF h hk]
  have C0:=c0 h hk x.N; have C1:=c1 h hk x.N; have C2:=c2 h hk x.N; have C3:=c3 h hk x.N; have C4:=c4 h hk x.N; have C5:=c5 h hk x.N; have C6:=c6 h hk x.N; have C7:=c7 h hk x.N; have C8:=c8 h hk x.N;rw[hkn]at C0 C1 C2 C3 C4 C5 C6 C7 C8;simp only[Tr.den,cY (show x.Node>=0 from x1),cY x2,cY (show x.Rule>=0 from x3),cY x4,bU,aK,cU,cT,cK,bY,cX,dG,gin,hp2,mN];unfold qR;rw[aA hx];unfold rlR;by_cases q0:x.Rule=0
  ·rw[aA q0,C0,aF (by omega),aA q0];rw[<-T];simp only[cT]
  rw[aF q0,aF q0];by_cases q1:x.Rule=1
  ·rw[aA q1,C1,aF (by omega),aA q1];rw[<-T];simp only[cT]
  rw[aF q1,aF q1];by_cases q2:x.Rule=2
  ·rw[aA q2,C2,aF (by omega),aA q2];rw[<-T];simp only[cT]
  rw[aF q2,aF q2];by_cases q3:x.Rule=3
  ·rw[aA q3,C3,aF (by omega),aA q3];rw[<-T];simp only[cT]
  rw[aF q3,aF q3];by_cases q4:x.Rule=4
  ·rw[aA q4,C4,aF (by omega),aA q4];rw[<-T];simp only[cT]
  rw[aF q4,aF q4];by_cases q5:x.Rule=5
  ·rw[aA q5,C5,aF (by omega),aA q5];rw[<-T];simp only[cT]
  rw[aF q5,aF q5];by_cases q6:x.Rule=6
  ·rw[aA q6,C6,aF (by omega),aA q6];rw[<-T];simp only[cT]
  rw[aF q6,aF q6];by_cases q7:x.Rule=7
  ·rw[aA q7,C7,aA q7];have:=Sv h (L:=rl7 p x.Node.toNat x.N) (fun l=>some ⟨p.Funcs,l⟩) (fun l hl=>by
    by_cases hc:0<=x.N/\x.N<(x.Node.toNat:Int)/\x.Node.toNat+1<p.Nodes.length/\nd p x.Node.toNat=nd p x.N.toNat
    ·rw[Si hc]at hl; cases hl;have:=h.n;rw[Af hk,aA (by omega)]
    ·rw[Uf hc]at hl; cases hl)
   simp only[cT]at this;rw[this]
   congr 2
   cases rl7 p x.Node.toNat x.N <;> rfl
  rw[aF q7,aF q7];have q8:x.Rule=8:=by omega
  rw[aA q8,C8,aA q8];rw[<-T];simp only[cT]
 ·have hr:qR p x=none:=aF hx;rw[hr];by_cases x1:x.Node>=0
  ·by_cases x2:x.Node<(p.Nodes.length:Int)
   ·by_cases x3:x.Rule>=0
    ·by_cases x4:x.Rule<9
     ·have e0:x.N≠0:=fun e=>hx ⟨⟨x1,x2⟩,⟨x3,x4⟩,Or.inl e⟩;have e4:x.Rule≠4:=fun e=>hx ⟨⟨x1,x2⟩,⟨x3,x4⟩,Or.inr (Or.inl e)⟩;have e7:x.Rule≠7:=fun e=>hx ⟨⟨x1,x2⟩,⟨x3,x4⟩,Or.inr (Or.inr e)⟩;have gin:(0<=x.Node/\x.Node<(p.Nodes.length:Int))=True:=eI ⟨x1,x2⟩;simp only[Tr.den,cY x1,cY x2,cY x3,cY x4,bU,aK,cU,cT,cK,bY,cX,dG,gin,bF e0,bF e4,bF e7,fP];rfl
     ·simp only[Tr.den,cY x1,cY x2,cY x3,eC x4,bU,aK,cK,bY,cX,fP];rfl
    ·simp only[Tr.den,cY x1,cY x2,eC x3,bU,aK,cK,bY,cX,fP];rfl
   ·simp only[Tr.den,cY x1,eC x2,bU,aK,cK,bY,cX,fP];rfl
  ·simp only[Tr.den,eC x1,aK,cK,bY,cX,fP];rfl
theorem aDX{p:aB}(h:WP p)(x:aW):∃ z,aCJ p x=some z/\RA (qR p x) z:=by
 unfold aCJ aVS;have hp1:(if decide (x.Node<0)=true then some true else some (decide (x.Node>=(p.Nodes.length:Int))))=some (!decide (0<=x.Node/\x.Node<(p.Nodes.length:Int))):=by
  by_cases x1:x.Node<0
  ·rw[aA (bS x1),eC (by omega)]; rfl
  ·rw[aF (bQ x1)];by_cases x2:x.Node>=(p.Nodes.length:Int)
   ·rw[cY x2,eC (by omega)]; rfl
   ·rw[eC x2,cY (by omega)]; rfl
 have hp2:(if decide (x.Rule<0)=true then some true else if decide (x.Rule>=9)=true then some true else if (x.N != 0)=true then (if (x.Rule != 4)=true then some (x.Rule != 7) else some false) else some false)=some (!decide ((0<=x.Rule/\x.Rule<9)/\(x.N=0\/x.Rule=4\/x.Rule=7))):=by
  by_cases x1:x.Rule<0
  ·rw[aA (bS x1),eC (by omega)]; rfl
  ·rw[aF (bQ x1)];by_cases x2:x.Rule>=9
   ·rw[aA (bS x2),eC (by omega)]; rfl
   ·rw[aF (bQ x2)];by_cases e0:x.N=0
    ·rw[aF (by rw[Fc e0]; simp),cY (by omega)]; rfl
    ·rw[aA (Bq e0)];by_cases e4:x.Rule=4
     ·rw[aF (by rw[Fc e4]; simp),cY (by omega)]; rfl
     ·rw[aA (Bq e4)];by_cases e7:x.Rule=7
      ·rw[Fc e7,cY (by omega)]; rfl
      ·rw[Bq e7,eC (by omega)]; rfl
 by_cases hx:aCO p x
 ·obtain⟨⟨x1,x2⟩,⟨x3,x4⟩,x5⟩:=id hx;have hk:x.Node.toNat<p.Nodes.length:=by omega
  have hkn:((x.Node.toNat:Nat):Int)=x.Node:=by omega
  rw[cY (show 0<=x.Node/\x.Node<(p.Nodes.length:Int) from ⟨x1,x2⟩)]at hp1;rw[cY (show (0<=x.Rule/\x.Rule<9)/\(x.N=0\/x.Rule=4\/x.Rule=7) from ⟨⟨x3,x4⟩,x5⟩)]at hp2;have C0:=r0 h hk x.N; have C1:=r1 h hk x.N; have C2:=r2 h hk x.N; have C3:=r3 h hk x.N; have C4:=r4 h hk x.N; have C5:=r5 h hk x.N; have C6:=r6 h hk x.N; have C7:=r7 h hk x.N; have C8:=r8 h hk x.N;rw[hkn]at C0 C1 C2 C3 C4 C5 C6 C7 C8;have g:∀ i:Int,0<=i->i<9->(0<=i/\i<9)=True:=fun i a b=>eI ⟨a,b⟩;simp only[Tr.den,hp1,hp2,aK,iP,cK,bY];have eta:∀ y:Option (aB×Int),((y.bind fun r=>some (r.1.Funcs,r.1.Nodes,r.2)).bind fun v=>some ((⟨v.1,v.2.1⟩:aB),v.2.2))=y:=fun y=>by cases y <;> rfl
  unfold qR;rw[aA hx];unfold rlR;have fin':∀ {y:Option (aB×Int)} {L:Option aB} {i:Int},0<=i/\i<9->(∃ z,y=some z/\RA L z)->∃ z,((if 0<=i/\i<9 then y.bind fun r=>some (r.1.Funcs,r.1.Nodes,r.2) else none).bind fun v=>some ((⟨v.1,v.2.1⟩:aB),v.2.2))=some z/\RA L z:=by intro y L i hi hh;rw[aA hi,eta]; exact hh
  by_cases q0:x.Rule=0
  ·rw[aA q0,aF (c:=x.Rule=7) (by omega),aA q0];exact fin' (i:=0) (by omega) C0
  rw[aF q0,aF q0];by_cases q1:x.Rule=1
  ·rw[aA q1,aF (c:=x.Rule=7) (by omega),aA q1];exact fin' (i:=1) (by omega) C1
  rw[aF q1,aF q1];by_cases q2:x.Rule=2
  ·rw[aA q2,aF (c:=x.Rule=7) (by omega),aA q2];exact fin' (i:=2) (by omega) C2
  rw[aF q2,aF q2];by_cases q3:x.Rule=3
  ·rw[aA q3,aF (c:=x.Rule=7) (by omega),aA q3];exact fin' (i:=3) (by omega) C3
  rw[aF q3,aF q3];by_cases q4:x.Rule=4
  ·rw[aA q4,aF (c:=x.Rule=7) (by omega),aA q4];exact fin' (i:=4) (by omega) C4
  rw[aF q4,aF q4];by_cases q5:x.Rule=5
  ·rw[aA q5,aF (c:=x.Rule=7) (by omega),aA q5];exact fin' (i:=5) (by omega) C5
  rw[aF q5,aF q5];by_cases q6:x.Rule=6
  ·rw[aA q6,aF (c:=x.Rule=7) (by omega),aA q6];exact fin' (i:=6) (by omega) C6
  rw[aF q6,aF q6];by_cases q7:x.Rule=7
  ·rw[aA q7,aA q7];exact fin' (i:=7) (by omega) C7
  rw[aF q7,aF q7];have q8:x.Rule=8:=by omega
  rw[aA q8,aA q8];exact fin' (i:=8) (by omega) C8
 ·have hr:qR p x=none:=aF hx;rw[hr];by_cases x1:0<=x.Node/\x.Node<(p.Nodes.length:Int)
  ·rw[cY x1]at hp1;rw[eC fun hh=>hx ⟨x1,hh⟩]at hp2;simp only[Tr.den,hp1,hp2,aK,iP,lP,cK,bY,bU,gE];exact⟨_,rfl,dP⟩
  ·rw[eC x1]at hp1;simp only[Tr.den,hp1,aK,lP,bU];exact⟨_,rfl,rfl,by decide⟩
theorem aMY{q:aB}{z:aB×Int}(h:RA (some q) z):z=(q,0):=h
theorem aMV{z:aB×Int}(h:RA none z):z.1=⟨[],[]⟩/\z.2≠0:=h
theorem bT{α:Type}{y:α}:Sq b (some y) (fun _=>True):=aD.2 trivial
theorem aTB(a:ByteArray):(eA a).length=a.size:=by rw[eA,iG]; rfl
theorem oA:(⟨#[]⟩:ByteArray).toList=[]:=by rw[ByteArray.toList_eq]
theorem Ub(a:ByteArray):Sp (aXF a) (fun _=>True):=by
 unfold aXF aTY;simp only[Tr.den];by_cases h0:a.toList=[]
 ·rw[aA (by rw[h0,oA]; rfl)];exact bT
 ·have hs:0<a.size:=by
   rcases Nat.eq_zero_or_pos a.size with h | h
   ·exfalso;apply h0;rw[ByteArray.toList_eq];have:a.data.toList.length=0:=h;exact pA.1 this
   ·exact h
  rw[aF (by intro h;apply h0;have h:=qM.1 h;rw[h,oA])];by_cases h20:(a.size:Int)>20
  ·rw[aA (bS h20)];exact bT
  ·rw[aF (bQ h20),aA (by omega)];refine Sq.bind (fun _=>True) ?_ fun j _=>?_
   ·refine bI (fun _=>?_) (fun _=>bT);rw[aA (by omega)];exact bT
   ·refine bI (fun _=>bT) (fun _=>?_);refine Sq.bind (fun _=>True) ?_ fun z _=>by cases z <;> exact bT
    refine dO (fun s=>s) (eA a).length (by rw[aTB]; omega) (fun _=>True) (fun s k _ hk hkN=>?_) trivial rfl;subst hk;unfold Tg;simp only[Tr.den];by_cases hc:k<(eA a).length
    ·rw[aA (bS (by omega)),aA (by omega)];refine Sq.bind (fun _=>True) ?_ fun j _=>?_
     ·repeat (first | exact bT | refine bI (fun _=>?_) (fun _=>?_))
     ·exact bI (fun _=>aD.2 trivial) (fun _=>aD.2 ⟨rfl,hc,trivial⟩)
    ·rw[aF (bQ (by omega))];exact aD.2 trivial
theorem aMZ(a:ByteArray):Sp (aWM a) (fun _=>True):=by
 unfold aWM aST;simp only[Tr.den];refine Sq.bind (fun r=>r.length=3) (aD.2 rfl) fun r hr=>Sq.bind (fun _=>True) ?_ fun _ _=>bT;unfold bBT aUV;simp only[Tr.den];refine Sq.bind (fun _=>True) ?_ fun z _=>by cases z <;> exact bT
 refine dO (fun s=>s) r.length (by omega) (fun _=>True) (fun s k _ hk hkN=>?_) trivial rfl;subst hk;unfold Ty;simp only[Tr.den];by_cases hc:k<r.length
 ·rw[aA (bS (by omega)),aA (by omega)];exact bI (fun _=>aD.2 trivial) (fun _=>aD.2 ⟨rfl,hc,trivial⟩)
 ·rw[aF (bQ (by omega))];exact aD.2 trivial
theorem Vr(a:ByteArray):Sp (aRX a) (fun _=>True):=by unfold aRX aTM;simp only[Tr.den];exact Sq.bind _ (aMZ a) fun r _=>Sq.bind _ (Ub a) fun r2 _=>Sq.bind (fun _=>True) (bI (fun _=>bT) (fun _=>bT)) fun _ _=>bT
theorem aQN(a:Int):Sp (aTX a) (fun _=>True):=by
 unfold aTX aRW;simp only[Tr.den];by_cases h1:a<0
 ·rw[aA (bS h1)]; exact bT
 ·rw[aF (bQ h1)];by_cases h2:a>=3
  ·rw[bS h2]; exact bT
  ·simp only[eC h2,aK,cK,bY];refine Sq.bind (fun r=>r.length=3) (aD.2 rfl) fun r hr=>?_;rw[aA (by omega)];exact bT
theorem aMG(l:List aT)(a:ByteArray)(h:l.length<=1000000000):Sp (aWQ l a) (fun _=>True):=by
 unfold aWQ aXK aGN Qb;simp only[Tr.den];refine Sq.bind (fun _=>True) ?_ fun _ _=>bT;refine Sq.bind (fun _=>True) ?_ fun z _=>by cases z <;> exact bT
 refine dO (fun s=>s) l.length (by omega) (fun _=>True) (fun s k _ hk hkN=>?_) trivial rfl;subst hk;unfold Do aDY Mn;simp only[Tr.den];by_cases hc:k<l.length
 ·rw[aA (bS (by omega)),aA (by omega)];simp only[aK];exact bI (fun _=>aD.2 trivial) (fun _=>aD.2 ⟨rfl,hc,trivial⟩)
 ·rw[aF (bQ (by omega))];exact aD.2 trivial
theorem Da(l:List aT)(h:l.length<=1000000000):∀ n i,i+n<=l.length->Sp (pZ l n i) (fun _=>True)
 | 0,_,_=>bT
 | n+1,i,hi=>by
  unfold pZ;refine Sq.bind (fun _=>True) ?_ fun j2 _=>Sq.bind (fun _=>True) ?_ fun j4 _=>bI (fun _=>Da l h n (i+1) (by omega)) (fun _=>bT)
  ·unfold TWB;simp only[Tr.den];refine bI (fun _=>bT) fun _=>bI (fun _=>Sq.bind _ (Vr _) fun _ _=>bT) fun _=>bT
  ·unfold TWC;simp only[Tr.den];refine Sq.bind _ (Vr _) fun r5 _=>bI (fun _=>?_) fun _=>bT;refine Sq.bind _ (aQN _) fun r6 _=>bI (fun _=>?_) fun _=>bT;refine bI (fun _=>?_) fun _=>bT;rw[aA (by omega),aA (by omega)];exact Sq.bind _ (aMG _ _ (by simp; omega)) fun _ _=>bT
theorem aOT(l:List aT)(h:l.length<=1000000000):Sp (aNX l) (fun _=>True):=by unfold aNX;rw[aA (by omega)];obtain⟨y,hy,_⟩:=(Da l h l.length 0 (by omega)).get;rw[hy]; exact bT
theorem aDE(n:Int):aVM n=some (decide (0<=n/\n<3)):=by
 unfold aVM aUE;simp only[Tr.den];by_cases h:n>=0
 ·rw[aA (bS h)];simp only[aK]
  congr 1
  rw[decide_eq_decide]; omega
 ·rw[aF (bQ h),eC (by omega)]; rfl
theorem aAR(l:List Int)(h:l.length<=1000000000):Sp (Rp l) (fun _=>True):=by
 unfold Rp Rh aDN Pa;simp only[Tr.den];rw[mX (fun x=>decide (0<=x/\x<3)) l (by omega) (fun k hk=>?_) ?_]
 ·exact bT
 ·unfold wN;simp only[Tr.den];rw[aF (bQ (by omega))]
 ·unfold wN bAE aRU;simp only[Tr.den,aJ,aDE,aK];rw[aA (bS (by omega)),aA (by omega)];cases decide (0<=l.getD k default/\l.getD k default<3) <;> rfl
theorem Zn(l:List Int)(a:Int)(h:l.length<=1000000000):Sq b (Pm l a) (fun _=>True):=by
 unfold Pm Qs aGV Qo;simp only[Tr.den];rw[mX (fun x=>!(x != a)) l (by omega) (fun k hk=>?_) ?_]
 ·exact bT
 ·unfold wS;simp only[Tr.den];rw[aF (bQ (by omega))]
 ·unfold wS aHA Nh;simp only[Tr.den,aJ,aK];rw[aA (bS (by omega)),aA (by omega)];by_cases hx:(l.getD k default != a)=true
  ·rw[aA hx,aF (by rw[hx]; simp)]
  ·rw[aF hx,aA (by rw[Bool.eq_false_iff.2 hx]; rfl)]
theorem oP(t n:Int)(l:List Int)(h:l.length<=1000000000):Sq b (Qj t n l) (fun _=>True):=by unfold Qj Ly;simp only[Tr.den];exact Sq.bind (fun _=>True) (bI (fun _=>Sq.bind _ (Zn l t h) fun _ _=>bT) fun _=>bT) fun _ _=>bT
theorem Vx(l:List Int)(n:Int):Sq b (aUR l n) (fun r=>r.2=true->0<=n/\n<(l.length:Int)):=by
 unfold aUR aXN;simp only[Tr.den];by_cases h1:n<0
 ·rw[aA (bS h1)];exact aD.2 fun h=>by cases h
 ·rw[aF (bQ h1)];by_cases h2:n>=(l.length:Int)
  ·rw[aA (bS h2)];exact aD.2 fun h=>by cases h
  ·rw[aF (bQ h2),aA (by omega),aDE];simp only[aK];refine bI (fun _=>aD.2 fun h=>by cases h) fun _=>?_;rw[aA (by omega)];exact aD.2 fun _=>by omega
theorem aLI(sc:eZ)(e:aE):Sq b (aSQ sc e) (fun r=>r.2=true->e.Op≠21/\e.Op≠22/\(e.Op=3->0<=e.N/\e.N<(sc.cols_.length:Int))):=by
 unfold aSQ aUU;simp only[Tr.den];by_cases h0:e.Op=0
 ·rw[aA (dB h0)]; exact aD.2 fun _=>by omega
 rw[aF (eE h0)];by_cases h2:e.Op=2
 ·rw[aA (dB h2)]; exact Sq.bind (fun _=>True) (bI (fun _=>bT) fun _=>bT) fun _ _=>aD.2 fun _=>by omega
 rw[aF (eE h2)];by_cases h3:e.Op=3
 ·rw[aA (dB h3)]; exact Sq.bind _ (Vx _ _) fun r hr=>aD.2 fun h=>⟨by omega,by omega,fun _=>hr h⟩
 rw[aF (eE h3)];by_cases h4:e.Op=4
 ·rw[aA (dB h4)]; exact Sq.bind _ (Vx _ _) fun r hr=>aD.2 fun h=>by omega
 rw[aF (eE h4)];by_cases h1:e.Op=1
 ·rw[aA (dB h1)]; exact Sq.bind (fun _=>True) (bI (fun _=>bT) fun _=>bT) fun _ _=>aD.2 fun _=>by omega
 rw[aF (eE h1)];by_cases h5:e.Op=5
 ·rw[aA (dB h5)]; exact aD.2 fun _=>by omega
 rw[aF (eE h5)];exact aD.2 fun h=>by cases h
theorem aQP(e:aE)(l:List Int)(hl:l.length<=1000000000)(h0:l≠[]):Sq b (aWV e l) (fun r=>r.2=true->e.Op≠3/\e.Op≠22/\(e.Op=21->3<=l.length)):=by
 have hp:0<l.length:=List.length_pos_iff.2 h0;unfold aWV aRR;simp only[Tr.den];refine bI (fun _=>aD.2 fun h=>by cases h) fun _=>?_;by_cases h6:e.Op=6
 ·rw[aA (dB h6)]; exact Sq.bind _ (oP _ _ _ hl) fun _ _=>aD.2 fun _=>by omega
 rw[aF (eE h6)];by_cases h7:e.Op=7
 ·rw[aA (dB h7)]; exact Sq.bind _ (oP _ _ _ hl) fun _ _=>aD.2 fun _=>by omega
 rw[aF (eE h7)];by_cases h20:e.Op=20
 ·rw[aA (dB h20)]; exact Sq.bind _ (oP _ _ _ hl) fun _ _=>aD.2 fun _=>by omega
 rw[aF (eE h20)];refine Sq.bind (fun j=>j=true->8<=e.Op/\e.Op<=12) ?_ fun j4 hj4=>?_
 ·by_cases h8:e.Op=8
  ·rw[aA (dB h8)]; exact aD.2 fun _=>by omega
  rw[aF (eE h8)];refine Sq.bind (fun j=>j=true->8<=e.Op/\e.Op<=12) ?_ fun j hj=>aD.2 hj;by_cases h9:e.Op=9
  ·rw[aA (dB h9)]; exact aD.2 fun _=>by omega
  rw[aF (eE h9)];refine Sq.bind (fun j=>j=true->8<=e.Op/\e.Op<=12) ?_ fun j hj=>aD.2 hj;by_cases h10:e.Op=10
  ·rw[aA (dB h10)]; exact aD.2 fun _=>by omega
  rw[aF (eE h10)];refine Sq.bind (fun j=>j=true->8<=e.Op/\e.Op<=12) ?_ fun j hj=>aD.2 hj;by_cases h11:e.Op=11
  ·rw[aA (dB h11)]; exact aD.2 fun _=>by omega
  rw[aF (eE h11)];exact aD.2 fun h=>by have:=qM.1 h; omega
 refine bI (fun hc=>Sq.bind _ (oP _ _ _ hl) fun _ _=>aD.2 fun _=>by have:=hj4 hc; omega) fun _=>?_;refine Sq.bind (fun j=>j=true->13<=e.Op/\e.Op<=16) ?_ fun j9 hj9=>?_
 ·by_cases h8:e.Op=13
  ·rw[aA (dB h8)]; exact aD.2 fun _=>by omega
  rw[aF (eE h8)];refine Sq.bind (fun j=>j=true->13<=e.Op/\e.Op<=16) ?_ fun j hj=>aD.2 hj;by_cases h9:e.Op=14
  ·rw[aA (dB h9)]; exact aD.2 fun _=>by omega
  rw[aF (eE h9)];refine Sq.bind (fun j=>j=true->13<=e.Op/\e.Op<=16) ?_ fun j hj=>aD.2 hj;by_cases h10:e.Op=15
  ·rw[aA (dB h10)]; exact aD.2 fun _=>by omega
  rw[aF (eE h10)];exact aD.2 fun h=>by have:=qM.1 h; omega
 refine bI (fun hc=>?_) fun _=>?_
 ·rw[aA (by omega)];exact Sq.bind _ (oP _ _ _ hl) fun _ _=>aD.2 fun _=>by have:=hj9 hc; omega
 refine Sq.bind (fun j=>j=true->17<=e.Op/\e.Op<=18) ?_ fun j13 hj13=>?_
 ·by_cases h8:e.Op=17
  ·rw[aA (dB h8)]; exact aD.2 fun _=>by omega
  rw[aF (eE h8)];exact aD.2 fun h=>by have:=qM.1 h; omega
 refine bI (fun hc=>Sq.bind _ (oP _ _ _ hl) fun _ _=>aD.2 fun _=>by have:=hj13 hc; omega) fun _=>?_;by_cases h19:e.Op=19
 ·rw[aA (dB h19)]; exact Sq.bind _ (oP _ _ _ hl) fun _ _=>aD.2 fun _=>by omega
 rw[aF (eE h19)];by_cases h21:e.Op=21
 ·rw[aA (dB h21),cR (n:=(l.length:Int)-1) (by omega) (by omega)];refine Sq.bind (fun j=>j=true->3<=l.length) ?_ fun j hj=>aD.2 fun h=>⟨by omega,by omega,fun _=>hj h⟩;rw[aA (by omega)];by_cases h3:(l.length:Int)=3
  ·rw[aA (dB h3),aA (by omega)];refine bI (fun _=>?_) fun _=>aD.2 fun h=>by cases h
   rw[aA (by omega),aA (by omega)];exact aD.2 fun _=>by omega
  ·rw[aF (eE h3)];exact aD.2 fun h=>by cases h
 rw[aF (eE h21)];exact aD.2 fun h=>by cases h
theorem aNT(sc:eZ)(e:aE)(h:cE e)(hf:∀ f,f∈sc.funcs_->f.Params.length<=1000000000):Sp (aXM sc e) (fun r=>r.2=true->wfE sc.funcs_.length sc.cols_.length e):=by
 unfold aXM aTG;refine fX _ _ _ (fun a=>cE a.2/\∀ f,f∈a.1.funcs_->f.Params.length<=1000000000) (fun a=>SizeOf.sizeOf a.2) (fun (a:eZ×aE) (r:Int×Bool)=>r.2=true->wfE a.1.funcs_.length a.1.cols_.length a.2) (fun b f a ha hrec=>?_) true (sc,e) ⟨h,hf⟩;clear h hf sc e;obtain⟨sc,e⟩:=a;obtain⟨he,hf⟩:=ha;simp only at he hf hrec;obtain⟨hs,hl,hA⟩:=he.get;have hr:∀ i,i<e.Args.length->Sq b (f.1 (sc,e.Args.getD i default)) (fun r=>r.2=true->wfE sc.funcs_.length sc.cols_.length (e.Args.getD i default)):=fun i hi=>hrec (sc,_) ⟨hA i hi,hf⟩ (dR (aQ hi));unfold aNN;simp only[Tr.den];refine Sq.bind (fun z=>match z with | .inl l=>l.length=e.Args.length/\∀ x,x∈e.Args->wfE sc.funcs_.length sc.cols_.length x | .inr r=>r.2=false) ?_ fun z hz=>?_
 ·refine dO (fun s=>s.2) e.Args.length (by omega) (fun s=>s.1.length=s.2.toNat/\∀ i,i<s.2.toNat->wfE sc.funcs_.length sc.cols_.length (e.Args.getD i default)) (fun s k hI hk hkN=>?_) ⟨rfl,fun i hi=>absurd hi (jQ _)⟩ rfl;obtain⟨v1,v2⟩:=s;simp only at hk hI;subst hk;simp only[aJ]at hI;unfold Uo;simp only[Tr.den,aJ];by_cases hc:k<e.Args.length
  ·rw[aA (bS (by omega)),aA (by omega)];refine Sq.bind _ (hr k hc) fun r hr'=>?_;cases hr2:r.2 with
   | false=>simp only[lP,bU];exact aD.2 rfl
   | true=>
    simp only[iP,cK,bY];rw[aA (by simp only[nO]; omega)];refine aD.2 ⟨rfl,hc,?_,fun i hi=>?_⟩
    ·simp only[cZ,nO];rw[bO (by omega),aJ,hI.1]
    ·simp only at hi;rw[bO (by omega),aJ]at hi;by_cases hik:i=k
     ·subst hik; exact hr' hr2
     ·exact hI.2 i (by omega)
  ·rw[aF (bQ (by omega))];refine aD.2 ?_;simp only[sel];refine⟨by omega,fun x hx=>?_⟩;obtain⟨i,hi,rfl⟩:=iV hx;exact hI.2 i (by omega)
 cases z with
 | inr r=>exact aD.2 fun h=>by rw[show r.2=false from hz]at h; cases h
 | inl l=>
  obtain⟨hlen,hargs⟩:=hz;simp only[sel];have hno:(some ((0:Int),false))=some ((0:Int),false):=rfl;refine Sq.bind (fun j=>j.1=l/\(j.2=false->e.S.toList=[]\/e.Op=1)) ?_ fun j hj=>?_
  ·by_cases h0:e.S.toList=[]
   ·rw[aF (by rw[h0,oA]; decide)];exact aD.2 ⟨rfl,fun _=>Or.inl h0⟩
   ·refine bI (fun _=>aD.2 ⟨rfl,fun h=>Or.inr ?_⟩) (fun hh=>aD.2 ⟨rfl,fun _=>Or.inl ?_⟩)
    ·simp only[bne_eq_false_iff_eq]at h; exact h
    ·rw[oA]at hh;have:=Bool.not_eq_false' ..▸hh;simpa using this
  obtain⟨j5,j6⟩:=j;simp only at hj;obtain⟨hj5,hj⟩:=hj;subst hj5;refine bI (fun _=>aD.2 fun h=>by cases h) fun hj6=>?_;have hS:=hj hj6;refine Sq.bind (fun k=>k.1=j5/\(k.2=true->e.Args=[]/\e.Op≠22)/\(k.2=false->j5≠[]\/e.Op=22)) ?_ fun k hk=>?_
  ·by_cases h0:(j5.length:Int)=0
   ·rw[aA (dB h0)];refine aD.2 ⟨rfl,fun h=>⟨pA.1 (by omega),by simpa using h⟩,fun h=>Or.inr (by simpa using h)⟩
   ·rw[aF (eE h0)];exact aD.2 ⟨rfl,fun h=>(by cases h),fun _=>Or.inl fun h=>h0 (by rw[h]; rfl)⟩
  obtain⟨j7,j8⟩:=k;simp only at hk;obtain⟨hk5,hk1,hk2⟩:=hk;subst hk5;have emp:e.S.toList=[]->e.S=⟨#[]⟩:=fun h=>yU.1 (by rw[h,oA]; rfl);refine bI (fun h8=>?_) fun h8=>?_
  ·obtain⟨a1,a2⟩:=hk1 h8;refine Sq.bind _ (aLI sc e) fun r hr9=>aD.2 fun h=>?_;obtain⟨b1,b2,b3⟩:=hr9 h;refine .mk (fun h=>absurd h b1) (fun h=>absurd h b2) (fun h3=>⟨(b3 h3).1,(b3 h3).2,emp (hS.resolve_right (by omega)),a1⟩) hargs
  ·by_cases h22:e.Op=22
   ·rw[aA (dB h22)];refine Sq.bind (fun j=>j=false->0<=e.N/\e.N<(sc.funcs_.length:Int)) ?_ fun j hj10=>?_
    ·by_cases n1:e.N<0
     ·rw[aA (bS n1)]; exact aD.2 fun h=>by cases h
     ·rw[aF (bQ n1)];by_cases n2:e.N>=(sc.funcs_.length:Int)
      ·rw[aA (bS n2)]; exact aD.2 fun h=>by cases h
      ·rw[aF (bQ n2),aA (by omega),lG (gV (hf _ (aQ (by omega))) (by omega))];exact aD.2 fun _=>by omega
    ·refine bI (fun _=>aD.2 fun h=>by cases h) fun h10=>?_;rw[aA (hj10 h10)];exact aD.2 fun _=>.mk (fun h=>by omega) (fun _=>hj10 h10) (fun h=>by omega) hargs
   ·rw[aF (eE h22)];have hne:j7≠[]:=(hk2 h8).resolve_right h22;refine Sq.bind _ (aQP e j7 (by omega) hne) fun r hr12=>aD.2 fun h=>?_;obtain⟨b1,b2,b3⟩:=hr12 h;exact .mk (fun h=>by have:=b3 h; omega) (fun h=>absurd h b2) (fun h=>absurd h b1) hargs
theorem Vg(sc:eZ)(e:aE)(h:cE e)(hf:∀ f,f∈sc.funcs_->f.Params.length<=1000000000):Sp (aRK sc e) (fun r=>r.2=true->wfE sc.funcs_.length sc.cols_.length e/\jW e<=12):=by
 unfold aRK aSH;simp only[Tr.den,aHO h,aK];by_cases h1:jW e>12
 ·rw[aA (bS h1)]; exact aD.2 fun h=>by cases h
 ·rw[aF (bQ h1)];exact Sq.bind _ (aNT sc e h hf) fun r hr=>bI (fun h2=>aD.2 fun _=>⟨hr h2,by omega⟩) fun _=>aD.2 fun h=>by cases h
theorem To(fs:List aS)(hn:fs.length<=1000000000)(hB:∀ f,f∈fs->BF f):Sp (aXQ fs) (fun r=>r=true->FW fs):=by
 unfold aXQ aZG;simp only[Tr.den];refine bI (fun _=>aD.2 fun h=>by cases h) fun _=>?_;refine Sq.bind (fun z=>match z with | .inl _=>FW fs | .inr y=>y=false) ?_ fun z hz=>?_
 ·refine dO (fun s=>s) fs.length (by omega) (fun s=>∀ i:Nat,(i:Int)<s->i<fs.length->wfE i 0 (fs.getD i default).Body) (fun s k hI hk hkN=>?_) (fun i hi=>by omega) rfl;subst hk;unfold Sy;simp only[Tr.den,aJ];by_cases hc:k<fs.length
  ·rw[aA (bS (by omega)),aA (by omega)];have hb:=hB _ (aQ hc);refine Sq.bind (fun _=>True) (bI (fun _=>bT) fun _=>Sq.bind _ (aAR _ hb.p) fun _ _=>bT) fun j _=>?_;refine bI (fun _=>aD.2 rfl) fun _=>?_;have e0:(fs.drop (0:Int).toNat).take ((k:Int)-(0:Int)).toNat=fs.take k:=by rw[Int.sub_zero,aJ]; rfl
   have hg:(0:Int)<=0/\(0:Int)<=(k:Int)/\(k:Int)<=(fs.length:Int):=by omega
   rw[aA hg];refine Sq.bind (fun r=>r.2=true->wfE k 0 (fs.getD k default).Body) ?_ fun r hr4=>?_
   ·first
    | rw[aA hg,e0]
    | rw[e0]
    refine(Vg ⟨fs.take k,[],(fs.getD k default).Params⟩ _ hb.b fun f hf=>(hB f (zU hf)).p).imp fun r hr h=>?_;have:=(hr h).1
    rwa [dM,Nat.min_eq_left (by omega)]at this
   ·cases hr2:r.2 with
    | false=>simp only[lP,bU,aK];exact aD.2 rfl
    | true=>
     simp only[iP,cK,bY,aK];refine bI (fun _=>aD.2 rfl) fun _=>aD.2 ⟨rfl,hc,fun i hi hil=>?_⟩;rw[bO (by omega)]at hi;by_cases hik:i=k
     ·subst hik; exact hr4 hr2
     ·exact hI i (by omega) hil
  ·rw[aF (bQ (by omega))];exact aD.2 fun i hi=>⟨hI i (by omega) hi,(hB _ (aQ hi)).b⟩
 ·cases z with
  | inl u=>exact aD.2 fun _=>hz
  | inr y=>exact aD.2 fun h=>by rw[show y=false from hz]at h; cases h
theorem Up(fs:List aS)(hn:fs.length<=1000000000)(hB:∀ f,f∈fs->BF f)(t:List Int)(e:aE)(h:cE e):Sp (aUM fs t [] e) (fun r=>r.2=true->wfE fs.length t.length e/\jW e<=12):=by unfold aUM aZF;simp only[Tr.den];refine Sq.bind _ (To fs hn hB) fun r1 _=>bI (fun _=>aD.2 fun h=>by cases h) fun _=>?_;exact Sq.bind _ (Vg ⟨fs,t,[]⟩ e h fun f hf=>(hB f hf).p) fun r hr=>aD.2 hr
theorem Su(fs:List aS)(hn:fs.length<=1000000000)(hB:∀ f,f∈fs->BF f)(t:List Int)(e:aE)(h:cE e):Sp (aWO fs t e) (fun r=>r=true->wfE fs.length t.length e/\jW e<=12):=by unfold aWO aSA;simp only[Tr.den];refine Sq.bind _ (Up fs hn hB t e h) fun r1 hr=>Sq.bind (fun j=>j=true->wfE fs.length t.length e/\jW e<=12) ?_ fun j hj=>aD.2 hj;exact bI (fun h1=>aD.2 fun _=>hr h1) fun _=>aD.2 fun h=>by cases h
def Aa(t:List Int)(c:Int):Bool:=decide (0<=c/\c<(t.length:Int))
theorem sX(hn:l.length<=1000000000):aXW l t=some (l.all (Aa t)):=by
 unfold aXW aXE aEB Qq aIP Mg;simp only[Tr.den];rw[mX (Aa t) l (by omega) (fun k hk=>?_) ?_]
 ·simp
 ·unfold wC;simp only[Tr.den];rw[aF (bQ (by omega))]
 ·unfold wC aIJ Qe;simp only[Tr.den,aJ];rw[aA (bS (by omega)),aA (by omega)];unfold Aa;by_cases h1:l.getD k default<0
  ·rw[aA (bS h1),eC (p:=0<=_/\_) (by omega)]; rfl
  ·rw[aF (bQ h1)];by_cases h2:l.getD k default>=(t.length:Int)
   ·rw[cY h2,eC (p:=0<=_/\_) (by omega)]; rfl
   ·rw[eC h2,cY (p:=0<=_/\_) (by omega)]; rfl
theorem Ef(h:l.all (Aa t)=true):∀ c,c∈l->0<=c/\c<(t.length:Int):=fun c hc=>wI (dQ.1 h c hc)
theorem Pl(hn:l.length<=1000000000)(h:l.all (Aa t)=true):aQM t l=some (l.map fun c=>t.getD c.toNat default):=by
 unfold aQM aSP;simp only[Tr.den];have:=eP (S:=List Int×Int) (st:=fun v i=>(v,i)) (bd:=fun s=>(yI t l s).den) (fun c=>t.getD c.toNat default) l [] (r:=fun v=>.inl v) (by omega) (fun v i hi hv=>?_) (fun v=>?_)
 ·rw[this,pC]; rfl
 ·have:=Ef h _ (aQ hi);unfold yI;simp only[Tr.den,aJ];rw[aA (bS (by omega)),aA (by omega),aA (by omega),aA (by simp at hv ⊢; omega)]
 ·unfold yI;simp only[Tr.den];rw[aF (bQ (by omega))]
theorem Kg(hn:l.length<=1000000000)(h:l.all (Aa t)=true):Nk t l=some (l.map fun c=>t.getD c.toNat default):=by rw[<-Pl hn h];unfold Nk aQM;rfl
theorem aJV(n:aC)(t:List Int)(hk:n.Key.length<=1000000000)(ha:n.Aggs.length<=1000000000):Sp (aUI n t) (fun r=>r.2=true->n.Key.all (Aa t)=true/\n.Key.length<=r.1.length):=by
 unfold aUI aWE;simp only[Tr.den];refine Sq.bind (fun j=>j=false->n.Key.all (Aa t)=true) ?_ fun j hj=>?_
 ·refine bI (fun _=>aD.2 fun h=>by cases h) fun _=>bI (fun _=>aD.2 fun h=>by cases h) fun _=>?_;rw[sX hk];exact aD.2 fun h=>by simpa using h
 refine bI (fun _=>aD.2 fun h=>by cases h) fun hj0=>?_;have hw:=hj hj0;rw[Kg hk hw];simp only[aK];rw[aA (by simp; omega)];refine Sq.bind (fun z=>match z with | .inl l=>n.Key.length<=l.length | .inr r=>r.2=false) ?_ fun z hz=>?_
 ·refine dO (fun s=>s.2) n.Aggs.length (by omega) (fun s=>s.1.length=n.Key.length+1+s.2.toNat) (fun s k hI hkk hkN=>?_) (by simp) rfl;obtain⟨v4,v5⟩:=s;simp only at hkk hI;subst hkk;simp only[aJ]at hI;unfold Sx;simp only[Tr.den,aJ];by_cases hc:k<n.Aggs.length
  ·rw[aA (bS (by omega)),aA (by omega)];refine Sq.bind (fun z=>match z with | .inl l=>l.length=v4.length+1 | .inr y=>y = .inr (.inr ([],false))) ?_ fun z hz=>?_
   ·refine Sq.bind (fun j=>j.1=v4) ?_ fun j hj=>?_
    ·refine bI (fun _=>aD.2 rfl) fun _=>bI (fun _=>aD.2 rfl) fun _=>bI (fun _=>aD.2 rfl) fun _=>aD.2 rfl
    obtain⟨j8,j9⟩:=j;simp only at hj;subst hj;refine bI (fun _=>aD.2 rfl) fun _=>bI (fun _=>?_) fun _=>?_
    ·rw[aA (by simp; omega)];exact aD.2 (by simp)
    ·rw[sX (by simp)];simp only[aK];refine Sq.bind (fun j=>j.1=j8/\(j.2=false->0<=(n.Aggs.getD k default).Col/\(n.Aggs.getD k default).Col<(t.length:Int))) ?_ fun j hj=>?_
     ·cases hwc:([(n.Aggs.getD k default).Col]:List Int).all (Aa t) with
      | false=>exact aD.2 ⟨rfl,fun h=>by cases h⟩
      | true=>have hcol:=Ef hwc _ dJ;refine bI (fun h=>by cases h) fun _=>bI (fun _=>?_) fun _=>aD.2 ⟨rfl,fun _=>hcol⟩;rw[aA hcol];exact aD.2 ⟨rfl,fun _=>hcol⟩
     ·obtain⟨j11,j12⟩:=j;simp only at hj;obtain⟨hj1,hj2⟩:=hj;subst hj1;refine bI (fun _=>aD.2 rfl) fun h12=>?_;rw[aA (hj2 h12),aA (by simp; omega)];exact aD.2 (by simp)
   ·cases z with
    | inl l=>refine aD.2 ⟨rfl,hc,?_⟩;simp only;rw[bO (by omega),aJ];have:l.length=v4.length+1:=hz;omega
    | inr y=>have:y = .inr (.inr ([],false)):=hz;subst this;exact aD.2 rfl
  ·rw[aF (bQ (by omega))];refine aD.2 ?_;show n.Key.length<=v4.length;omega
 ·cases z with
  | inl l=>exact aD.2 fun _=>⟨hw,hz⟩
  | inr y=>exact aD.2 fun h=>by rw[show y.2=false from hz]at h; cases h
theorem aGF{l:List aT}(hn:l.length<=1000000000):aVV l=some (l.map aT.Type_):=by
 unfold aVV aVT;simp only[Tr.den];have:=eP (S:=List Int×Int) (st:=fun v i=>(v,i)) (bd:=fun s=>(yW l s).den) aT.Type_ l [] (r:=fun v=>.inl v) (by omega) (fun v i hi hv=>?_) (fun v=>?_)
 ·rw[this,pC]; rfl
 ·unfold yW;simp only[Tr.den,aJ];rw[aA (bS (by omega)),aA (by omega),aA (by simp at hv ⊢; omega)]
 ·unfold yW;simp only[Tr.den];rw[aF (bQ (by omega))]
def xN(op:Int):Int:=if op=0 then 0 else if op=3\/op=6\/op=7 then 2 else 1
theorem aTU(op:Int):aVD op=some (xN op):=by
 unfold aVD aYB xN;simp only[Tr.den];by_cases h0:op=0
 ·rw[aA (dB h0),aA h0]
 rw[aF (eE h0),aF h0];by_cases h3:op=3
 ·rw[aA (dB h3),aA (by omega),dB h3]; rfl
 rw[aF (eE h3)];by_cases h6:op=6
 ·rw[aA (dB h6),aA (by omega),dB h6]; rfl
 rw[aF (eE h6)];by_cases h7:op=7
 ·rw[aA (by omega),dB h7]; rfl
 ·rw[aF (by omega),bF h7]; rfl
structure FL (nf:Nat)(n:aC)(ts:List (List Int))(r:List Int):Prop where
 s1:n.Op=1->n.Exprs.length=1/\r.length=(ts.getD 0 default).length
 ex:n.Op=1\/n.Op=2->∀ e,e∈n.Exprs->wfE nf (ts.getD 0 default).length e/\jW e<=12
 s3:n.Op=3->r.length=(ts.getD 0 default).length/\r.length=(ts.getD 1 default).length
 s4:n.Op=4\/n.Op=8->n.Key.all (Aa (ts.getD 0 default))=true
 s4k:n.Op=4->n.Key.length<=r.length
 s5:n.Op=5->r.length=(ts.getD 0 default).length
 s6:n.Op=6\/n.Op=7->r.length=(ts.getD 0 default).length+(ts.getD 1 default).length
theorem aML(fs:List aS)(n:aC)(ts:List (List Int))(hn:fs.length<=1000000000)(hB:∀ f,f∈fs->BF f)(hb:BN n)(h0:0<=n.Op)(h9:n.Op<9)(ht:(ts.length:Int)=xN n.Op)(htl:∀ t,t∈ts->t.length<=1000000000):
  Sp (aVR fs n ts) (fun r=>r.2=true->FL fs.length n ts r.1):=by
 have hbk:=hb.k; have hbk2:=hb.k2; have hba:=hb.a; have hbe:=hb.e; have hbc:=hb.c; have hbs:=hb.s;unfold xN at ht;unfold aVR aVW;simp only[Tr.den];by_cases o0:n.Op=0
 ·rw[aA (dB o0),aGF hbc];simp only[aK];refine Sq.bind (fun _=>True) ?_ fun j _=>aD.2 fun _=>⟨by omega,by omega,by omega,by omega,by omega,by omega,by omega⟩;exact Sq.bind _ (Ub _) fun r4 _=>bI (fun _=>bI (fun _=>bI (fun _=>Sq.bind _ (aOT _ hbc) fun _ _=>bT) fun _=>bT) fun _=>bT) fun _=>bT
 rw[aF (eE o0)];rw[aF o0]at ht;have t0:0<ts.length:=by split at ht <;> omega
 have g0:(0:Int)<=0/\(0:Int)<(ts.length:Int):=by omega
 have hm0:ts.getD 0 default∈ts:=aQ t0;have hl0:=htl _ hm0;by_cases o1:n.Op=1
 ·rw[aA (dB o1),aA g0];refine Sq.bind (fun j=>j=true->n.Exprs.length=1/\∀ e,e∈n.Exprs->wfE fs.length (ts.getD 0 default).length e/\jW e<=12) ?_ fun j hj=>aD.2 fun h=>⟨fun _=>⟨(hj h).1,rfl⟩,fun _=>(hj h).2,by omega,by omega,by omega,by omega,by omega⟩;by_cases hl:(n.Exprs.length:Int)=1
  ·rw[aA (dB hl),aA g0,aA (by omega)];have hm:n.Exprs.getD (0:Int).toNat default∈n.Exprs:=aQ (by show 0<_; omega);refine Sq.bind _ (Su fs hn hB (ts.getD 0 default) _ (hb.eB _ hm)) fun r hr=>aD.2 fun h=>⟨by omega,fun e he=>?_⟩;have:e=n.Exprs.getD (0:Int).toNat default:=by
    obtain⟨i,hi,rfl⟩:=iV he;have:i=0:=by omega
    subst this; rfl
   rw[this]; exact hr h
  ·rw[aF (eE hl)];exact aD.2 fun h=>by cases h
 rw[aF (eE o1)];by_cases o2:n.Op=2
 ·rw[aA (dB o2)];refine Sq.bind (fun z=>match z with | .inl l=>∀ e,e∈n.Exprs->wfE fs.length (ts.getD 0 default).length e/\jW e<=12 | .inr r=>r.2=false) ?_ fun z hz=>?_
  ·refine dO (fun s=>s.2) n.Exprs.length (by omega) (fun s=>s.1.length=s.2.toNat/\∀ i:Nat,i<s.2.toNat->wfE fs.length (ts.getD 0 default).length (n.Exprs.getD i default)/\jW (n.Exprs.getD i default)<=12) (fun s k hI hk hkN=>?_) ⟨rfl,fun i hi=>absurd hi (jQ _)⟩ rfl;obtain⟨v8,v9⟩:=s;simp only at hk hI;subst hk;simp only[aJ]at hI;unfold Tu;simp only[Tr.den,aJ];by_cases hc:k<n.Exprs.length
   ·rw[aA (bS (by omega)),aA (by omega),aA g0];refine Sq.bind _ (Up fs hn hB (ts.getD 0 default) _ (hb.eB _ (aQ hc))) fun r hr=>?_;cases hr2:r.2 with
    | false=>simp only[lP,bU];exact aD.2 rfl
    | true=>
     simp only[iP,cK,bY];rw[aA (by simp only[nO]; omega)];refine aD.2 ⟨rfl,hc,?_,fun i hi=>?_⟩
     ·simp only[cZ,nO];rw[bO (by omega),aJ,hI.1]
     ·simp only at hi;rw[bO (by omega),aJ]at hi;by_cases hik:i=k
      ·subst hik; exact hr hr2
      ·exact hI.2 i (by omega)
   ·rw[aF (bQ (by omega))];refine aD.2 fun e he=>?_;obtain⟨i,hi,rfl⟩:=iV he;exact hI.2 i (by omega)
  ·cases z with
   | inl l=>exact aD.2 fun _=>⟨by omega,fun _=>hz,by omega,by omega,by omega,by omega,by omega⟩
   | inr y=>exact aD.2 fun h=>by rw[show y.2=false from hz]at h; cases h
 rw[aF (eE o2)];by_cases o3:n.Op=3
 ·rw[aA (by omega)]at ht;have g1:(0:Int)<=1/\(1:Int)<(ts.length:Int):=by omega
  rw[aA (dB o3),aA g0,aA g0,aA g1];have e:aFC (ts.getD (0:Int).toNat default) (ts.getD (1:Int).toNat default)=some (eqD (ts.getD 0 default) (ts.getD 1 default)):=lG (gV hl0 (by omega));rw[e];refine aD.2 fun h=>⟨by omega,by omega,fun _=>⟨rfl,?_⟩,by omega,by omega,by omega,by omega⟩;have:=eS.1 h;show (ts.getD 0 default).length=_;rw[this]
 rw[aF (eE o3)];by_cases o4:n.Op=4
 ·rw[aA (dB o4),aA g0];exact Sq.bind _ (aJV n (ts.getD 0 default) hbk hba) fun r hr=>aD.2 fun h=>⟨by omega,by omega,by omega,fun _=>(hr h).1,fun _=>(hr h).2,by omega,by omega⟩
 rw[aF (eE o4)];by_cases o5:n.Op=5
 ·rw[aA (dB o5),aA g0,aA g0,sX hbk];simp only[aK];refine Sq.bind (fun _=>True) (bI (fun _=>?_) fun _=>bT) fun j _=>aD.2 fun _=>⟨by omega,by omega,by omega,by omega,by omega,fun _=>rfl,by omega⟩;rw[aA g0,sX (by simp)];exact bT
 rw[aF (eE o5)];by_cases o67:n.Op=6\/n.Op=7
 ·rw[aA (by omega)]at ht;have g1:(0:Int)<=1/\(1:Int)<(ts.length:Int):=by omega
  have hm1:ts.getD 1 default∈ts:=aQ (by omega);have hl1:=htl _ hm1;have hj:(if (n.Op==6)=true then some (n.Op==6) else some (n.Op==7))=some true:=by
   by_cases h4:n.Op=6
   ·rw[aA (dB h4),dB h4]
   ·rw[aF (eE h4),dB (o67.resolve_left h4)]
  rw[hj];simp only[aK,bU];refine Sq.bind (fun _=>True) ?_ fun j _=>?_
  ·rw[aA g0,sX hbk];simp only[aK];refine bI (fun w1=>?_) fun _=>bT;rw[aA g1,sX hbk2];simp only[aK];refine bI (fun w2=>?_) fun _=>bT;rw[aA g0,Pl hbk w1];simp only[aK];rw[aA g1,Pl hbk2 w2];simp only[aK];rw[lG (by rw[iG]; omega)];exact bT
  ·rw[aA g0,aA g1,aUK _ (by simp) (fun x hx=>by
    rcases aX.1 hx with rfl | hx
    ·exact hl0
    ·rw[cG.1 hx]; exact hl1)]
   refine aD.2 fun _=>⟨by omega,by omega,by omega,by omega,by omega,by omega,fun _=>?_⟩;simp only[sU,zG,id,jJ,cZ];rfl
 ·have hj:(if (n.Op==6)=true then some (n.Op==6) else some (n.Op==7))=some false:=by rw[aF (eE (by omega)),bF (by omega)]
  rw[hj];simp only[aK,cK,bY];rw[aA g0,sX hbk];simp only[aK];cases hw:n.Key.all (Aa (ts.getD (0:Int).toNat default)) with
  | false=>exact aD.2 fun h=>by cases h
  | true=>
   simp only[iP,cK,bY];refine Sq.bind (fun z=>match z with | .inl _=>True | .inr r=>r.2=false) ?_ fun z hz=>?_
   ·refine dO (fun s=>s) n.Seq.length (by omega) (fun s=>True) (fun s k hI hk hkN=>?_) trivial rfl;subst hk;unfold Vb;simp only[Tr.den,aJ];by_cases hc:k<n.Seq.length
    ·rw[aA (bS (by omega)),aA (by omega)];refine Sq.bind (fun _=>True) ?_ fun j _=>bI (fun _=>aD.2 rfl) fun _=>aD.2 ⟨rfl,hc,trivial⟩;refine bI (fun _=>bT) fun _=>bI (fun _=>bT) fun _=>?_;rw[aA g0];exact Sq.bind _ (Su fs hn hB (ts.getD 0 default) _ (hb.sB _ (aQ hc))) fun _ _=>bT
    ·rw[aF (bQ (by omega))];exact aD.2 trivial
   ·cases z with
    | inr y=>exact aD.2 fun h=>by rw[show y.2=false from hz]at h; cases h
    | inl u=>simp only[sel];rw[aA g0,Kg hbk hw];simp only[aK];rw[aA (by rw[iG]; omega)];exact aD.2 fun _=>⟨by omega,by omega,by omega,fun _=>hw,by omega,by omega,by omega⟩
theorem bCK{a:ByteArray}(h:a.size=0):a=⟨#[]⟩:=by refine yU.1 ?_;have:a.data.toList.length=0:=h;rw[oA,ByteArray.toList_eq,pA.1 this]; rfl
theorem aLQ(n:aC)(hb:BN n)(hs:n.Source.size<=1000000000):Sp (aWW n) (fun b=>b=true->n.Exprs=[]/\n.Key=[]/\n.Key2=[]/\n.Aggs=[]/\n.Seq=[]/\n.Source=⟨#[]⟩/\([n.Schema,n.Kind,n.Size,n.Step,n.Before,n.After,n.Keep]:List Int)=[0,0,0,0,0,0,0]):=by
 have h1:=hb.i; have h2:=hb.e; have h3:=hb.k; have h4:=hb.k2; have h5:=hb.a; have h6:=hb.s; have h7:=hb.c;unfold aWW aTN;simp only[Tr.den];rw[cR (n:=(n.In.length:Int)+(n.Exprs.length:Int)) (by omega) (by omega),cR (n:=_+(n.Key.length:Int)) (by omega) (by omega),cR (n:=_+(n.Key2.length:Int)) (by omega) (by omega),
  cR (n:=_+(n.Aggs.length:Int)) (by omega) (by omega),cR (n:=_+(n.Seq.length:Int)) (by omega) (by omega),cR (n:=_+(n.Cols.length:Int)) (by omega) (by omega),cR (n:=_+(n.Source.size:Int)) (by omega) (by omega)]
 refine Sq.bind (fun b=>b=true->n.Exprs=[]/\n.Key=[]/\n.Key2=[]/\n.Aggs=[]/\n.Seq=[]/\n.Source=⟨#[]⟩/\([n.Schema,n.Kind,n.Size,n.Step,n.Before,n.After,n.Keep]:List Int)=[0,0,0,0,0,0,0]) ?_ fun j hj=>aD.2 hj;refine bI (fun h0=>aD.2 fun hz=>?_) fun _=>aD.2 fun h=>by cases h
 have h0:=qM.1 h0;exact⟨pA.1 (by omega),pA.1 (by omega),pA.1 (by omega),pA.1 (by omega),pA.1 (by omega),bCK (by omega),qM.1 hz⟩
structure aYP (n r:aC):Prop where
 o1:n.Op=1->r=aC.mk 1 [] n.Source n.Schema [] n.Kind n.Size n.Step n.Key n.Key2 n.Before n.After n.Keep n.Aggs n.Seq []
 ex:n.Op≠1->n.Op≠2->r.Exprs=n.Exprs
 b:BN r
 s:r.Source.size<=1000000000
theorem BN.rest{n r:aC}(hb:BN n)(h1:r.In=[]\/r.In=n.In)(h2:r.Exprs=[]\/r.Exprs=n.Exprs)(h3:r.Key=[]\/r.Key=n.Key)(h4:r.Key2=[]\/r.Key2=n.Key2)(h5:r.Aggs=[]\/r.Aggs=n.Aggs)(h6:r.Seq=[]\/r.Seq=n.Seq)(h7:r.Cols=[]\/r.Cols=n.Cols):BN r:=by
 refine⟨?_,?_,?_,?_,?_,?_,?_,?_,?_⟩
 ·rcases h1 with h | h <;> rw[h]
  ·simp
  ·exact hb.i
 ·rcases h2 with h | h <;> rw[h]
  ·simp
  ·exact hb.e
 ·rcases h2 with h | h <;> rw[h]
  ·intro x hx; cases hx
  ·exact hb.eB
 ·rcases h3 with h | h <;> rw[h]
  ·simp
  ·exact hb.k
 ·rcases h4 with h | h <;> rw[h]
  ·simp
  ·exact hb.k2
 ·rcases h5 with h | h <;> rw[h]
  ·simp
  ·exact hb.a
 ·rcases h6 with h | h <;> rw[h]
  ·simp
  ·exact hb.s
 ·rcases h6 with h | h <;> rw[h]
  ·intro x hx; cases hx
  ·exact hb.sB
 ·rcases h7 with h | h <;> rw[h]
  ·simp
  ·exact hb.c
theorem aOB(n:aC)(hb:BN n)(hs:n.Source.size<=1000000000)(h0:0<=n.Op)(h9:n.Op<9):Sp (aWG n) (aYP n):=by
 have hc:n.Op=0\/n.Op=1\/n.Op=2\/n.Op=3\/n.Op=4\/n.Op=5\/n.Op=6\/n.Op=7\/n.Op=8:=by omega
 unfold aWG aVY;have hz:(⟨#[]⟩:ByteArray).size<=1000000000:=by show (0:Nat)<=_; omega
 rcases hc with o | o | o | o | o | o | o | o | o
 ·simp (config:={ decide:=true }) only[Tr.den,o,aK,bU,bY];exact aD.2 ⟨fun h=>absurd (o.symm.trans h) (by decide),fun _ _=>rfl,hb.rest (Or.inr rfl) (Or.inr rfl) (Or.inr rfl) (Or.inr rfl) (Or.inr rfl) (Or.inr rfl) (Or.inl rfl),hz⟩
 ·simp (config:={ decide:=true }) only[Tr.den,o,aK,bU,bY];exact aD.2 ⟨fun _=>rfl,fun h=>absurd o h,hb.rest (Or.inl rfl) (Or.inl rfl) (Or.inr rfl) (Or.inr rfl) (Or.inr rfl) (Or.inr rfl) (Or.inl rfl),hs⟩
 ·simp (config:={ decide:=true }) only[Tr.den,o,aK,bU,bY];exact aD.2 ⟨fun h=>absurd (o.symm.trans h) (by decide),fun _ h=>absurd o h,hb.rest (Or.inl rfl) (Or.inl rfl) (Or.inr rfl) (Or.inr rfl) (Or.inr rfl) (Or.inr rfl) (Or.inl rfl),hs⟩
 ·simp (config:={ decide:=true }) only[Tr.den,o,aK,bU,bY];exact aD.2 ⟨fun h=>absurd (o.symm.trans h) (by decide),fun _ _=>rfl,hb.rest (Or.inl rfl) (Or.inr rfl) (Or.inr rfl) (Or.inr rfl) (Or.inr rfl) (Or.inr rfl) (Or.inl rfl),hs⟩
 ·have hj:∃ st,(if (n.Kind != 0)=true then some (0:Int) else some n.Step)=some st:=by
   by_cases h:(n.Kind != 0)=true
   ·exact⟨_,aA h⟩
   ·exact⟨_,aF h⟩
  obtain⟨st,hj⟩:=hj;simp (config:={ decide:=true }) only[Tr.den,o,aK,bU,bY];rw[hj];simp only[aK];exact aD.2 ⟨fun h=>absurd (o.symm.trans h) (by decide),fun _ _=>rfl,hb.rest (Or.inl rfl) (Or.inr rfl) (Or.inl rfl) (Or.inr rfl) (Or.inl rfl) (Or.inr rfl) (Or.inl rfl),hs⟩
 ·simp (config:={ decide:=true }) only[Tr.den,o,aK,bU,bY];exact aD.2 ⟨fun h=>absurd (o.symm.trans h) (by decide),fun _ _=>rfl,hb.rest (Or.inl rfl) (Or.inr rfl) (Or.inl rfl) (Or.inr rfl) (Or.inr rfl) (Or.inr rfl) (Or.inl rfl),hs⟩
 ·simp (config:={ decide:=true }) only[Tr.den,o,aK,bU,bY];exact aD.2 ⟨fun h=>absurd (o.symm.trans h) (by decide),fun _ _=>rfl,hb.rest (Or.inl rfl) (Or.inr rfl) (Or.inl rfl) (Or.inl rfl) (Or.inr rfl) (Or.inr rfl) (Or.inl rfl),hs⟩
 ·simp (config:={ decide:=true }) only[Tr.den,o,aK,bU,bY];exact aD.2 ⟨fun h=>absurd (o.symm.trans h) (by decide),fun _ _=>rfl,hb.rest (Or.inl rfl) (Or.inr rfl) (Or.inl rfl) (Or.inl rfl) (Or.inr rfl) (Or.inr rfl) (Or.inl rfl),hs⟩
 ·simp (config:={ decide:=true }) only[Tr.den,o,aK,bU,bY];exact aD.2 ⟨fun h=>absurd (o.symm.trans h) (by decide),fun _ _=>rfl,hb.rest (Or.inl rfl) (Or.inr rfl) (Or.inl rfl) (Or.inr rfl) (Or.inr rfl) (Or.inl rfl) (Or.inl rfl),hs⟩
theorem aZP{nf:Nat}{nc:Int->Nat}{i:Int}{n:aC}{ts:List (List Int)}{r:List Int}(hb:BN n)(h0:0<=n.Op)(h9:n.Op<9)(hin:(n.In.length:Int)=xN n.Op)(hlt:∀ j,j∈n.In->0<=j/\j<i)
  (htl:ts.length=n.In.length)(hts:∀ t,t<n.In.length->(ts.getD t default).length=nc (n.In.getD t default))(hr:r.length=n.Cols.length)(hF:FL nf n ts r)
  (h1:n.Op=1->n=aC.mk 1 n.In ⟨#[]⟩ 0 n.Exprs 0 0 0 [] [] 0 0 0 [] [] n.Cols)(he:n.Op≠1->n.Op≠2->n.Exprs=[]):WN nf nc i n:=by
 unfold xN at hin;have inp1:n.Op≠0->¬ (n.Op=3\/n.Op=6\/n.Op=7)->n.In=[n.In.getD 0 default]/\(ts.getD 0 default).length=nc (n.In.getD 0 default):=fun a b=>by rw[aF a,aF b]at hin;exact⟨aFZ (by omega),hts 0 (by omega)⟩
 have inp2:n.Op=3\/n.Op=6\/n.Op=7->n.In=[n.In.getD 0 default,n.In.getD 1 default]/\(ts.getD 0 default).length=nc (n.In.getD 0 default)/\(ts.getD 1 default).length=nc (n.In.getD 1 default):=fun a=>by rw[aF (by omega),aA a]at hin;exact⟨aVJ (by omega),hts 0 (by omega),hts 1 (by omega)⟩
 refine⟨hb,hlt,fun e hee=>?_,fun o=>?_,fun o=>?_,fun o=>?_,fun o=>?_,fun o=>?_,fun o=>?_,fun o=>?_,he⟩
 ·have o:n.Op=1\/n.Op=2:=by
   rcases Classical.em (n.Op=1) with h | h
   ·exact Or.inl h
   ·rcases Classical.em (n.Op=2) with h' | h'
    ·exact Or.inr h'
    ·rw[he h h']at hee; cases hee
  obtain⟨a,b⟩:=inp1 (by omega) (by omega);refine⟨n.In.getD 0 default,by rw[a]; rfl,?_⟩;rw[<-b];exact(hF.ex o e hee).1
 ·obtain⟨a,b⟩:=inp1 (by omega) (by omega);obtain⟨c,d⟩:=hF.s1 o;refine⟨n.In.getD 0 default,n.Exprs.getD 0 default,n.Cols,?_,by rw[<-hr,d,b]⟩;have e:n.Exprs=[n.Exprs.getD 0 default]:=by
   match hx:n.Exprs,c with | [x],_=>rfl
  unfold dY;rw[<-a,<-e];exact h1 o
 ·exact⟨_,(inp1 (by omega) (by omega)).1⟩
 ·obtain⟨a,b,c⟩:=inp2 (by omega);obtain⟨d,e⟩:=hF.s3 o;exact⟨_,_,a,by omega,by omega⟩
 ·obtain⟨a,b⟩:=inp1 (by omega) (by omega);refine⟨_,a,fun c hc=>?_⟩;rw[<-b];exact Ef (hF.s4 o) c hc
 ·rw[<-hr]; exact hF.s4k o
 ·obtain⟨a,b⟩:=inp1 (by omega) (by omega);have:=hF.s5 o;exact⟨_,a,by omega⟩
 ·obtain⟨a,b,c⟩:=inp2 (by omega);have:=hF.s6 o;exact⟨_,_,a,by omega⟩
structure BQ (p:aB):Prop where
 b:BP p
 s:∀ n,n∈p.Nodes->n.Source.size<=1000000000
structure bAJ (p:aB)(ts:List (List Int))(k:Nat):Prop where
 l:ts.length=k
 c:∀ i:Nat,i<k->(ts.getD i default).length=(p.Nodes.getD i default).Cols.length/\(ts.getD i default).length<=1000000000/\WN p.Funcs.length (ncA p.Nodes) i (p.Nodes.getD i default)/\∀ e,e∈(p.Nodes.getD i default).Exprs->jW e<=12
theorem Tx[Inhabited A]{l r:List A}(h:i<l.length):(l++r).getD i default=l.getD i default:=by rw[cI,eT h,<-cI]
theorem Un[Inhabited A]{l:List A}{x:A}(h:i=l.length):(l++[x]).getD i default=x:=by subst h;rw[cI,eH (fK _),sM]; rfl
theorem aRZ{p:aB}(hb:BP p){k:Nat}(hk:k<p.Nodes.length):Pt k t p=some (eqD ((p.Nodes.getD k default).Cols.map aT.Type_) t):=by have hc:=(hb.nB _ (aQ hk)).c;unfold Pt Sc;simp only[Tr.den,aJ,aGF hc,aK];rw[aA (by omega),lG (by rw[iG]; omega)];rfl
theorem Xh{p q:aB}{k:Nat}(hk:k<p.Nodes.length)(hn:p.Nodes.length<=1000000000)(hi:(p.Nodes.getD k default).In.length<=1000000000){ts:List (List Int)}(hts:ts.length=k):
  Sp (cB (fun s=>(wF p q k s).den) (ts,[],0)) (fun z=>match z with
   | .inl (a,b)=>a=ts/\b.length=(p.Nodes.getD k default).In.length/\(∀ j,j∈(p.Nodes.getD k default).In->0<=j/\j<(k:Int))/\∀ t:Nat,t<b.length->b.getD t default=ts.getD ((p.Nodes.getD k default).In.getD t default).toNat default
   | .inr y=>y = .inr (.inr false)):=by
 refine dO (fun s=>s.2.2) (p.Nodes.getD k default).In.length (by omega) (fun s=>s.1=ts/\s.2.1.length=s.2.2.toNat/\∀ t:Nat,t<s.2.1.length->(0<=(p.Nodes.getD k default).In.getD t default/\(p.Nodes.getD k default).In.getD t default<(k:Int))/\s.2.1.getD t default=ts.getD ((p.Nodes.getD k default).In.getD t default).toNat default) (fun s i hI hidx hiN=>?_) ⟨rfl,rfl,fun t ht=>absurd ht (jQ _)⟩ rfl;obtain⟨v10,v11,v12⟩:=s;simp only at hidx hI;subst hidx;obtain⟨hI1,hI2,hI3⟩:=hI;subst hI1;rw[aJ]at hI2;unfold wF;simp only[Tr.den,aJ];by_cases hc:i<(p.Nodes.getD k default).In.length
 ·rw[aA (bS (by omega)),aA (by omega)];refine Sq.bind (fun z=>z.1=v10/\z.2.1=v11/\(z.2.2=false->0<=(p.Nodes.getD k default).In.getD i default/\(p.Nodes.getD k default).In.getD i default<(k:Int))) ?_ fun z hz=>?_
  ·by_cases h1:(p.Nodes.getD k default).In.getD i default<0
   ·rw[aA (bS h1)];exact aD.2 ⟨rfl,rfl,fun h=>by cases h⟩
   ·rw[aF (bQ h1)];exact aD.2 ⟨rfl,rfl,fun h=>⟨by omega,by have:=of_decide_eq_false h; omega⟩⟩
  ·obtain⟨z1,z2,z3⟩:=z;simp only at hz;obtain⟨a1,a2,a3⟩:=hz;subst a1 a2;refine bI (fun _=>aD.2 rfl) fun hz3=>?_;have hb:=a3 hz3
   dsimp only
   rw[aA (by omega),aA (by omega),aA (by simp; omega)];refine aD.2 ⟨rfl,hc,rfl,?_,fun t ht=>?_⟩
   ·simp only;rw[bO (by omega),aJ,cZ,hI2]; rfl
   ·simp only[cZ,nO]at ht ⊢;by_cases htt:t=z2.length
    ·have hti:t=i:=by omega
     rw[Un htt,hti];exact⟨hb,rfl⟩
    ·rw[Tx (by omega)];exact hI3 t (by omega)
 ·rw[aF (bQ (by omega))];have hl:v11.length=(p.Nodes.getD k default).In.length:=by omega
  refine aD.2 ⟨rfl,hl,fun j hj=>?_,fun t ht=>(hI3 t ht).2⟩;obtain⟨t,ht,rfl⟩:=iV hj;exact(hI3 t (by omega)).1
theorem aLN{p:aB}(h:BQ p)(hn40:p.Nodes.length<=40):Sp (cB (fun s=>(wH p p s).den) ([],0)) (fun z=>match z with
   | .inl _=>∃ ts,bAJ p ts p.Nodes.length
   | .inr y=>y=false):=by
 have hb:=h.b;have hn:=hb.n;have hf:=hb.f;refine dO (fun s=>s.2) p.Nodes.length (by omega) (fun s=>bAJ p s.1 s.2.toNat) (fun s k hI hidx hkN=>?_) ⟨rfl,fun i hi=>absurd hi (jQ _)⟩ rfl;obtain⟨v3,v4⟩:=s;simp only at hidx hI;subst hidx;rw[aJ]at hI;unfold wH;simp only[Tr.den,aJ];by_cases hc:k<p.Nodes.length
 ·have hbn:=hb.nB _ (aQ hc);have hsn:=h.s _ (aQ hc);rw[aA (bS (by omega)),aA (by omega)];refine Sq.bind (fun z=>z.1=v3/\(z.2=false->(0<=(p.Nodes.getD k default).Op/\(p.Nodes.getD k default).Op<9)/\((p.Nodes.getD k default).In.length:Int)=xN (p.Nodes.getD k default).Op /\
   ((p.Nodes.getD k default).Op=1->p.Nodes.getD k default=aC.mk 1 (p.Nodes.getD k default).In ⟨#[]⟩ 0 (p.Nodes.getD k default).Exprs 0 0 0 [] [] 0 0 0 [] [] (p.Nodes.getD k default).Cols)/\((p.Nodes.getD k default).Op≠1->(p.Nodes.getD k default).Op≠2->(p.Nodes.getD k default).Exprs=[]))) ?_ fun z hz=>?_
  ·by_cases h1:(p.Nodes.getD k default).Op<0
   ·rw[aA (bS h1)];exact aD.2 ⟨rfl,fun h=>by cases h⟩
   ·rw[aF (bQ h1)];by_cases h2:(p.Nodes.getD k default).Op>=9
    ·rw[aA (bS h2)];exact aD.2 ⟨rfl,fun h=>by cases h⟩
    ·rw[aF (bQ h2),aTU];simp only[aK];by_cases h3:((p.Nodes.getD k default).In.length:Int)=xN (p.Nodes.getD k default).Op
     ·rw[aF (by rw[Fc h3]; simp)];refine Sq.bind _ (aOB _ hbn hsn (by omega) (by omega)) fun r hr=>?_;refine Sq.bind _ (aLQ r hr.b hr.s) fun b hbr=>aD.2 ⟨rfl,fun hh=>?_⟩;have hbt:b=true:=by simpa using hh
      obtain⟨q1,q2,q3,q4,q5,q6,q7⟩:=hbr hbt;refine⟨by omega,h3,fun o=>?_,fun o o'=>by rw[<-hr.ex o o']; exact q1⟩;have e:=hr.o1 o;rw[e]at q2 q3 q4 q5 q6 q7;simp only[List.cons.injEq,and_true]at q2 q3 q4 q5 q6 q7;obtain⟨s1,s2,s3,s4,s5,s6,s7⟩:=q7;revert o q2 q3 q4 q5 q6 s1 s2 s3 s4 s5 s6 s7;cases p.Nodes.getD k default;simp only;rintro rfl rfl rfl rfl rfl rfl rfl rfl rfl rfl rfl rfl rfl;rfl
     ·rw[aA (Bq h3)];exact aD.2 ⟨rfl,fun h=>by cases h⟩
  ·obtain⟨j5,j6⟩:=z;simp only at hz;obtain⟨hz1,hz2⟩:=hz;subst hz1;refine bI (fun _=>aD.2 rfl) fun hj6=>?_;obtain⟨hop,har,ho1,hex⟩:=hz2 hj6;refine Sq.bind _ (Xh hc hn hbn.i hI.l) fun z hz=>?_;cases z with
   | inr y=>have:y = .inr (.inr false):=hz;subst this;exact aD.2 rfl
   | inl v=>
    obtain⟨b13,b14⟩:=v;obtain⟨hz1,hz2,hz3,hz4⟩:=hz;subst hz1;simp only[sel];have hts:∀ t:Nat,t<(p.Nodes.getD k default).In.length->(b14.getD t default).length=ncA p.Nodes ((p.Nodes.getD k default).In.getD t default)/\(b14.getD t default).length<=1000000000:=fun t ht=>by rw[hz4 t (by omega)];have hj:=hz3 _ (aQ ht);have:=hI.c ((p.Nodes.getD k default).In.getD t default).toNat (by omega);exact⟨this.1,this.2.1⟩
    refine Sq.bind _ (aML p.Funcs (p.Nodes.getD k default) b14 hf hb.fB hbn hop.1 hop.2 (by rw[<-har]; omega) (fun t ht=>by obtain⟨i,hi,rfl⟩:=iV ht;exact(hts i (by omega)).2)) fun r18 hr18=>?_;refine Sq.bind (fun z=>z.1=b13/\(z.2=false->r18.2=true/\(p.Nodes.getD k default).Cols.map aT.Type_=r18.1)) ?_ fun z hz=>?_
    ·cases hr2:r18.2 with
     | false=>simp only[lP,bU];exact aD.2 ⟨rfl,fun h=>by cases h⟩
     | true=>simp only[iP,cK,bY];refine bI (fun _=>aD.2 ⟨rfl,fun h=>(by cases h)⟩) fun _=>bI (fun _=>aD.2 ⟨rfl,fun h=>(by cases h)⟩) fun _=>?_;rw[aRZ hb hc];exact aD.2 ⟨rfl,fun h=>⟨trivial,eS.1 (by simpa using h)⟩⟩
    ·obtain⟨j19,j20⟩:=z;simp only at hz;obtain⟨hz5,hz6⟩:=hz;subst hz5;refine bI (fun _=>aD.2 rfl) fun hj20=>?_;obtain⟨g1,g2⟩:=hz6 hj20;have hl:=hI.l;have hF:=hr18 g1;have hrl:r18.1.length=(p.Nodes.getD k default).Cols.length:=by rw[<-g2,iG]
     have hbc:=hbn.c;rw[aA (by simp; omega)];refine aD.2 ⟨by trivial,hc,?_,fun i hi=>?_⟩
     ·simp only;rw[bO (by omega),aJ,cZ,hl]; rfl
     ·simp only at hi ⊢;rw[bO (by omega),aJ]at hi;by_cases hik:i=k
      ·subst hik;rw[Un hl.symm];refine⟨hrl,by show r18.1.length<=_; omega,aZP hbn hop.1 hop.2 har hz3 hz2 (fun t ht=>(hts t ht).1) hrl hF ho1 hex,fun e he=>?_⟩;by_cases o1:(p.Nodes.getD i default).Op=1
       ·exact(hF.ex (Or.inl o1) e he).2
       ·by_cases o2:(p.Nodes.getD i default).Op=2
        ·exact(hF.ex (Or.inr o2) e he).2
        ·rw[hex o1 o2]at he; cases he
      ·rw[Tx (by omega)];exact hI.c i (by omega)
 ·rw[aF (bQ (by omega))];refine aD.2 ⟨v3,?_⟩
  rwa [show k=p.Nodes.length by omega]at hI
theorem Ux{p:aB}(h:BQ p):Sp (Zz p) (fun r=>r=true->WP p):=by
 have hb:=h.b;unfold Zz aXA aIR Lo;simp only[Tr.den];refine Sq.bind (fun r=>r=true->WP p) ?_ fun r hr=>aD.2 hr;refine Sq.bind (fun j=>j=false->p.Nodes.length<=40/\FW p.Funcs) ?_ fun j hj=>?_
 ·by_cases h1:(p.Nodes.length:Int)<1
  ·rw[aA (bS h1)]; exact aD.2 fun h=>by cases h
  ·rw[aF (bQ h1)];by_cases h2:(p.Nodes.length:Int)>40
   ·rw[aA (bS h2)]; exact aD.2 fun h=>by cases h
   ·rw[aF (bQ h2)];exact Sq.bind _ (To _ hb.f hb.fB) fun r hr=>aD.2 fun hh=>⟨by omega,hr (by simpa using hh)⟩
 ·refine bI (fun _=>aD.2 fun h=>by cases h) fun hj0=>?_;obtain⟨h40,hfw⟩:=hj hj0;refine Sq.bind _ (aLN h h40) fun z hz=>?_;cases z with
  | inr y=>have:y=false:=hz;subst this;exact aD.2 fun h=>by cases h
  | inl u=>obtain⟨ts,hts⟩:=hz;refine aD.2 fun _=>⟨hb.f,hb.fB,hfw,h40,fun i hi=>(hts.c i hi).2.2.1,fun x hx e he=>?_⟩;obtain⟨i,hi,rfl⟩:=iV hx;exact(hts.c i hi).2.2.2 e he
set_option maxRecDepth 100000
def Cq:List aT:=[(aT.mk (⟨#[97]⟩) 0 (⟨#[]⟩)),(aT.mk (⟨#[98]⟩) 0 (⟨#[]⟩))]
noncomputable def ex1:aE:=(aHD 15 0 5).getD default
noncomputable def ex2:aE:=(aHD 13 1 2).getD default
noncomputable def n0X:aC:=aC.mk 0 ([]:List Int) (⟨#[115]⟩) 1 ([]:List aE) 0 0 0 ([]:List Int) ([]:List Int) 0 0 0 ([]:List cF) ([]:List cC) Cq
noncomputable def nF (i:Int)(c:aE):aC:=aC.mk 1 ([i]:List Int) (⟨#[]⟩) 0 ([c]:List aE) 0 0 0 ([]:List Int) ([]:List Int) 0 0 0 ([]:List cF) ([]:List cC) Cq
noncomputable def pX:aB:=aB.mk [] [n0X,nF 0 ex1,nF 1 ex2]
noncomputable def qX:aB:=aB.mk [] [n0X,nF 0 ex1,nF 0 (aE.mk 17 0 (⟨#[]⟩) [ex1,ex2])]
theorem bAX:aHD 15 0 5=some ex1:=by kernel_rfl
theorem bAD:aHD 13 1 2=some ex2:=by kernel_rfl
theorem aDH:Zz pX=some true:=by kernel_rfl
theorem okX:okE [] (aE.mk 17 0 ⟨#[]⟩ [ex1,ex2])=true:=by kernel_rfl
theorem bAO:aFE pX qX=some false:=by kernel_rfl
theorem bBM:bBV [⟨2,0,0⟩]=some ⟨#[109,101,114,103,101,32,50,32,48,10]⟩:=by kernel_rfl
def lf(o n:Int):aE:=aE.mk o n ⟨#[]⟩ []
theorem aXG:ex1=aE.mk 15 0 ⟨#[]⟩ [lf 3 0,lf 0 5]:=by kernel_rfl
theorem aXV:ex2=aE.mk 13 0 ⟨#[]⟩ [lf 3 1,lf 0 2]:=by kernel_rfl
theorem cE.pr2{o n:Int}{x y:aE}(hx:cE x)(hy:cE y):cE (aE.mk o n ⟨#[]⟩ [x,y]):=cE.of (e:=aE.mk o n ⟨#[]⟩ [x,y]) (by show (0:Nat)<=_; omega) (by show (2:Nat)<=_; omega) fun z hz=>by
 rcases aX.1 hz with rfl | hz
 ·exact hx
 ·rw[cG.1 hz]; exact hy
theorem Ga(o n:Int):cE (lf o n):=cE.of (e:=lf o n) (by show (0:Nat)<=_; omega) (by show (0:Nat)<=_; omega) fun x hx=>by cases hx
theorem aOG:cE ex1:=by rw[aXG]; exact .pr2 (Ga _ _) (Ga _ _)
theorem aPO:cE ex2:=by rw[aXV]; exact .pr2 (Ga _ _) (Ga _ _)
theorem aSV:BN n0X:=⟨by show (0:Nat)<=_; omega,by show (0:Nat)<=_; omega,fun x hx=>(by cases hx),by show (0:Nat)<=_; omega,by show (0:Nat)<=_; omega,by show (0:Nat)<=_; omega,by show (0:Nat)<=_; omega,fun x hx=>(by cases hx),by show (2:Nat)<=_; omega⟩
theorem aRI{i:Int}{c:aE}(h:cE c):BN (nF i c):=⟨by show (1:Nat)<=_; omega,by show (1:Nat)<=_; omega,fun x hx=>(by rw[cG.1 (show x∈[c] from hx)]; exact h),by show (0:Nat)<=_; omega,by show (0:Nat)<=_; omega,by show (0:Nat)<=_; omega,by show (0:Nat)<=_; omega,fun x hx=>(by cases hx),by show (2:Nat)<=_; omega⟩
theorem bqX:BQ pX:=by
 refine⟨⟨by show (0:Nat)<=_; omega,fun x hx=>(by cases hx),by show (3:Nat)<=_; omega,fun x hx=>?_⟩,fun x hx=>?_⟩
 ·have hx:x∈[n0X,nF 0 ex1,nF 1 ex2]:=hx;simp only[aX,vU,or_false]at hx;rcases hx with rfl | rfl | rfl
  ·exact aSV
  ·exact aRI aOG
  ·exact aRI aPO
 ·have hx:x∈[n0X,nF 0 ex1,nF 1 ex2]:=hx;simp only[aX,vU,or_false]at hx;rcases hx with rfl | rfl | rfl
  ·show (1:Nat)<=_; omega
  ·show (0:Nat)<=_; omega
  ·show (0:Nat)<=_; omega
theorem wpX:WP pX:=by obtain⟨y,h1,h2⟩:=(Ux bqX).get;rw[aDH]at h1;exact h2 (pN h1).symm
theorem bBB:qR pX ⟨2,0,0⟩=some qX:=by
 have hr:aCO pX ⟨2,0,0⟩:=⟨⟨by show (0:Int)<=2; omega,by show (2:Int)<3; omega⟩,⟨by show (0:Int)<=0; omega,by show (0:Int)<9; omega⟩,Or.inl rfl⟩;unfold qR;rw[aA hr,aF (by show ¬ ((0:Int)=7); omega)];have h0:rlR pX 2 0 0=some [dY 0 (aE.mk 17 0 ⟨#[]⟩ [ex1,ex2]) Cq]:=by unfold rlR;rw[aA rfl];exact Ce (p:=pX) (k:=2) rfl rfl
 show (rlR pX 2 0 0).bind (fin pX 2)=some qX;rw[h0];show fin pX 2 _=_;unfold fin;have ho:Ak pX.Funcs [dY 0 (aE.mk 17 0 ⟨#[]⟩ [ex1,ex2]) Cq]=true:=by show ([dY 0 (aE.mk 17 0 ⟨#[]⟩ [ex1,ex2]) Cq].all fun n=>n.Exprs.all (okE []))=true;simp only[List.all_cons,List.all_nil,Bool.and_true,dY];exact okX
 rw[aA ⟨by show (3:Int)+1-1<=40; omega,ho⟩];rfl
theorem bAU:Py pX ⟨2,0,0⟩=some (qX,true):=by rw[La wpX,bBB]; rfl
theorem aZM:Lu pX [⟨2,0,0⟩] qX=some (-1,0):=by
 unfold Lu aES;simp only[Tr.den];rw[aDH];have h0:Tr.den (gY [⟨2,0,0⟩] (pX.Funcs,pX.Nodes,0))=some (.inl (qX.Funcs,qX.Nodes,1)):=by
  unfold gY;simp only[Tr.den];rw[show Py (aB.mk pX.Funcs pX.Nodes) ([(⟨2,0,0⟩:aW)].getD (Int.toNat 0) default)=some (qX,true) from bAU]
  kernel_rfl
 have h1:Tr.den (gY [⟨2,0,0⟩] (qX.Funcs,qX.Nodes,1))=some (.inr (.inl (qX.Funcs,qX.Nodes))):=by
  unfold gY;simp only[Tr.den]
  kernel_rfl
 have hw:=(lZ (b:=fun s=>Tr.den (gY [⟨2,0,0⟩] s)) h0).trans (gZ (b:=fun s=>Tr.den (gY [⟨2,0,0⟩] s)) h1);refine(congrArg (fun x=>Option.bind x _) hw).trans ?_
 kernel_rfl
theorem bBG:Lu pX [] qX=some (0,26):=by
 unfold Lu aES;simp only[Tr.den];rw[aDH];have h1:Tr.den (gY [] (pX.Funcs,pX.Nodes,0))=some (.inr (.inl (pX.Funcs,pX.Nodes))):=by unfold gY;simp only[Tr.den];rfl
 have hw:=gZ (b:=fun s=>Tr.den (gY [] s)) h1;refine(congrArg (fun x=>Option.bind x _) hw).trans ?_;refine(congrArg (fun x=>Option.bind x _) bAO).trans ?_;rfl
theorem bCI:aSE=some true:=by unfold aSE aXD;simp only[Tr.den];rw[bAX,bAD];simp only[aK];have ha:=aZM;have hb:=bBG;simp only[pX,qX,n0X,nF,Cq]at ha hb;rw[ha,hb,bBM];simp only[aK];rw[aA (by decide),aA (by decide),aA (by decide),aA (by decide)];simp only[aK];rw[yU.2 rfl]
noncomputable def chI:Nat->aB->List aW->aB⊕Nat
 | _,p,[]=>.inl p
 | i,p,x::l=>match qR p x with
  | none=>.inr i
  | some q=>chI (i+1) q l
theorem Vw:∀ (l m:List aW) (i:Nat) (p:aB),chI i p (l++m)=match chI i p l with | .inl r=>chI (i+l.length) r m | .inr k=>.inr k
 | [],m,i,p=>rfl
 | x::l,m,i,p=>by
  simp only[List.cons_append,chI];cases h:qR p x with
  | none=>rfl
  | some q=>simp only;rw[Vw l m (i+1) q,qZ,show i+1+l.length=i+(l.length+1) from by omega]
theorem Eb:∀ (l:List aW) (j i:Nat) (p:aB),chI (j+i) p l=match chI i p l with | .inl r=>.inl r | .inr k=>.inr (j+k)
 | [],j,i,p=>rfl
 | x::l,j,i,p=>by
  simp only[chI];cases h:qR p x with
  | none=>rfl
  | some q=>exact Eb l j (i+1) q
theorem tH{R:Type}{bd:(List aS×List aC×Int)->Option ((List aS×List aC×Int)⊕((List aS×List aC)⊕R))}(l:List aW)(hl:l.length<=1000000000)(e:Nat->R->Prop)
  (hy:∀ (p:aB) (k:Nat) (q:aB),WP p->k<l.length->qR p (l.getD k default)=some q->bd (p.Funcs,p.Nodes,(k:Int))=some (.inl (q.Funcs,q.Nodes,IntKind.i64.wrap ((k:Int)+1))))
  (hn:∀ (p:aB) (k:Nat),WP p->k<l.length->qR p (l.getD k default)=none->∃ r,bd (p.Funcs,p.Nodes,(k:Int))=some (.inr (.inr r))/\e k r)
  (hf:∀ a b,bd (a,b,(l.length:Int))=some (.inr (.inl (a,b)))):∀ (s:List aW) (k:Nat) (p:aB),WP p->k<=l.length->l.drop k=s ->
   match chI k p s with
   | .inl q=>WP q/\cB bd (p.Funcs,p.Nodes,(k:Int))=some (.inl (q.Funcs,q.Nodes))
   | .inr j=>j<l.length/\∃ r,cB bd (p.Funcs,p.Nodes,(k:Int))=some (.inr r)/\e j r
 | [],k,p,hp,hk,hs=>by
  have:k=l.length:=by have:=congrArg List.length hs;simp at this;omega
  subst this;exact⟨hp,gZ (hf _ _)⟩
 | x::s,k,p,hp,hk,hs=>by
  have hlt:k<l.length:=by have:=congrArg List.length hs;simp at this;omega
  have hx:l.getD k default=x:=by rw[eJ hlt];have:=tY hlt;rw[hs]at this;exact(List.cons.inj this).1.symm
  have hd:l.drop (k+1)=s:=by have:=tY hlt;rw[hs]at this;exact(List.cons.inj this).2.symm
  simp only[chI];cases h:qR p x with
  | none=>obtain⟨r,h1,h2⟩:=hn p k hp hlt (by rw[hx,h]);exact⟨hlt,r,gZ h1,h2⟩
  | some q=>have h1:=hy p k q hp hlt (by rw[hx,h]);rw[bO (by omega)]at h1;rw[lZ h1];exact tH l hl e hy hn hf s (k+1) q (aNV hp q h) hlt hd
theorem aCF{p:aB}(h:WP p){l:List aW}(hl:l.length<=1000):∃ z,aUJ p l=some z/\match chI 0 p l with | .inl q=>WP q/\z=(q,0,-1) | .inr k=>k<l.length/\z.2.1≠0/\z.2.2=(k:Int):=by
 have hw:=tH (R:=aB×Int×Int) (bd:=fun s=>(tW l s).den) l (by omega) (fun k r=>r.2.1≠0/\r.2.2=(k:Int)) (fun p k q hp hk hq=>?_) (fun p k hp hk hq=>?_) (fun a b=>?_) l 0 p h (Ar _) rfl
 ·unfold aUJ aRQ;simp only[Tr.den,aIZ h.b,aK];cases hc:chI 0 p l with
  | inl q=>rw[hc]at hw;refine⟨(q,0,-1),?_,hw.1,rfl⟩;refine(congrArg (fun x=>Option.bind x _) hw.2).trans ?_;rfl
  | inr k=>rw[hc]at hw;obtain⟨h1,r,h2,h3⟩:=hw;refine⟨r,?_,h1,h3⟩;refine(congrArg (fun x=>Option.bind x _) h2).trans ?_;rfl
 ·obtain⟨z,h1,h2⟩:=aDX hp (l.getD k default);rw[hq]at h2;obtain rfl:=aMY h2;unfold tW;simp only[Tr.den,aJ];rw[aA (bS (by omega)),aA (by omega),show aCJ (aB.mk p.Funcs p.Nodes) (l.getD k default)=some (q,0) from h1];rfl
 ·obtain⟨z,h1,h2⟩:=aDX hp (l.getD k default);rw[hq]at h2;obtain⟨h3,h4⟩:=aMV h2;refine⟨(⟨[],[]⟩,z.2,(k:Int)),?_,h4,rfl⟩;unfold tW;simp only[Tr.den,aJ];rw[aA (bS (by omega)),aA (by omega),show aCJ (aB.mk p.Funcs p.Nodes) (l.getD k default)=some z from h1];simp only[aK];rw[aA (Bq h4)]
 ·unfold tW;simp only[Tr.den];rw[aF (bQ (by omega))]
theorem As{p:aB}(h:WP p)(hv:Zz p=some true){l:List aW}(hl:l.length<=1000)(q:aB):
  Lu p l q=some (match chI 0 p l with | .inl r=>if eqD r q=true then (-1,0) else ((l.length:Int),26) | .inr k=>((k:Int),26)):=by
 have hw:=tH (R:=Int×Int) (bd:=fun s=>(gY l s).den) l (by omega) (fun k r=>r=((k:Int),26)) (fun p k q hp hk hq=>?_) (fun p k hp hk hq=>?_) (fun a b=>?_) l 0 p h (Ar _) rfl
 ·unfold Lu aES;simp only[Tr.den,hv,aK];rw[aF (by decide)];cases hc:chI 0 p l with
  | inl r=>rw[hc]at hw;refine(congrArg (fun x=>Option.bind x _) hw.2).trans ?_;simp only[aK,dG];rw[show aFE (aB.mk r.Funcs r.Nodes) q=some (eqD r q) from aVN hw.1.b];simp only[aK];cases eqD r q <;> rfl
  | inr k=>rw[hc]at hw;obtain⟨h1,r,h2,rfl⟩:=hw;refine(congrArg (fun x=>Option.bind x _) h2).trans ?_;rfl
 ·unfold gY;simp only[Tr.den,aJ];rw[aA (bS (by omega)),aA (by omega),show Py (aB.mk p.Funcs p.Nodes) (l.getD k default)=_ from La hp _,hq];rfl
 ·refine⟨_,?_,rfl⟩;unfold gY;simp only[Tr.den,aJ];rw[aA (bS (by omega)),aA (by omega),show Py (aB.mk p.Funcs p.Nodes) (l.getD k default)=_ from La hp _,hq];rfl
 ·unfold gY;simp only[Tr.den];rw[aF (bQ (by omega))]
theorem aVF{p:aB}(h:eX p):BQ p:=by
 obtain⟨hf,hn⟩:=h;have hf1:=hf.1;have hn1:=hn.1;refine⟨⟨by omega,fun x hx=>?_,by omega,fun x hx=>?_⟩,fun x hx=>?_⟩
 ·have:=hf.2 x hx;have h2:=this.2.1.1;exact⟨this.2.2.2.bnd,by omega⟩
 ·obtain⟨_,h1,_,_,h2,_,_,_,h3,h4,_,_,_,h5,h6,h7⟩:=hn.2 x hx;have:=h1.1; have:=h2.1; have:=h3.1; have:=h4.1; have:=h5.1; have:=h6.1; have:=h7.1;exact⟨by omega,by omega,fun e he=>(h2.2 e he).bnd,by omega,by omega,by omega,by omega,fun e he=>(h6.2 e he).1.bnd,by omega⟩
 ·have:x.Source.size<=1048576:=(hn.2 x hx).2.2.1;omega
theorem Vp(p:aB)(h:eX p)(n:Int):Sp (aWD p n) (fun _=>True):=by
 obtain⟨hf,hn⟩:=h;have hn1:=hn.1;unfold aWD aXY;simp only[Tr.den,iH];refine jV (fun s:Int=>s) p.Nodes.length (by omega) (fun _=>True) (fun s k _ hk hkN=>?_) trivial rfl;subst hk;unfold Uv;simp only[Tr.den,aJ,uR,aK];by_cases hc:((k:Int)<(p.Nodes.length:Int))/\(k:Int)<n
 ·rw[aA (bS hc),aA (by omega)];refine Sq.bind _ (Sq.of (aMK p.Funcs _ hf (hn.2 _ (aQ (show k<p.Nodes.length by omega))))) fun r _=>?_;refine Sq.bind (fun _=>True) (bI (fun _=>bT) fun _=>bI (fun _=>bT) fun _=>bT) fun j _=>?_;cases j with
  | true=>exact aD.2 (aD.2 trivial)
  | false=>exact aD.2 ⟨rfl,by omega,trivial⟩
 ·rw[aF (bQ hc)];refine aD.2 ?_;simp only[sel];exact bT
theorem aQT{p:aB}(hp:eX p):Sp (Zz p) (fun r=>r=true->WP p):=Ux (aVF hp)
theorem aBF(p:aB)(l m:List aW)(q:aB)(hp:eX p)(hl:okL 24 fT l)(hm:okL 24 fT m)(hq:eX q):aAJ p l m q=some true:=by
 obtain⟨y1,h1,_⟩:=(Vp p hp 9).get;obtain⟨y2,h2,_⟩:=(Vp q hq 30).get;obtain⟨y3,h3,h4⟩:=(aQT hp).get;unfold aAJ aTK;simp only[Tr.den,bCI,h1,aK];cases y1 with
 | false=>rfl
 | true=>
 simp only[h2,aK,iP,cK,bY];cases y2 with
 | false=>rfl
 | true=>
 simp only[h3,aK,iP,cK,bY];cases y3 with
 | false=>rfl
 | true=>
 have hw:=h4 rfl;simp only[iP,cK,bY];by_cases l6:(l.length:Int)>6
 ·rw[aA (bS l6)]; rfl
 rw[aF (bQ l6)];by_cases m6:(m.length:Int)>6
 ·rw[cY m6]; rfl
 rw[eC m6];simp only[aK,cK,bY];obtain⟨z,hz,hzz⟩:=aCF hw (l:=l) (by omega);rw[hz];simp only[aK];cases hc:chI 0 p l with
 | inr k=>rw[hc]at hzz;obtain⟨a,b,c⟩:=hzz;rw[aA (Bq b),As hw h3 (by omega),hc];simp only[aK];rw[aA trivial,aA (dB c.symm)];rfl
 | inl a=>
  rw[hc]at hzz;obtain⟨hwa,rfl⟩:=hzz;rw[aF (by simp)];obtain⟨z2,hz2,hzz2⟩:=aCF hwa (l:=m) (by omega);have hb:chI 0 p (([]++l)++m)=match chI 0 a m with | .inl r=>.inl r | .inr k=>.inr (l.length+k):=by rw[pC,Vw,hc];simp only;rw[eW];exact Eb m l.length 0 a
  have hbl:(([]++l)++m).length=l.length+m.length:=by simp
  rw[hz2];simp only[aK];rw[aA (by simp; omega),aA (by simp; omega),As hw h3 (l:=l) (by omega),hc];simp only[qT,bU,aK];rw[aF (by decide)];simp only[aK];rw[aF (by decide)];cases hc2:chI 0 a m with
  | inr k=>rw[hc2]at hzz2 hb;obtain⟨u,v,w⟩:=hzz2;rw[aA (Bq v),As hw h3 (by omega),hb];simp only[aK];rw[aA (dB (by rw[w,cR (by omega) (by omega)]; simp))];rfl
  | inl b=>
   rw[hc2]at hzz2 hb;obtain⟨hwb,rfl⟩:=hzz2;rw[aF (by simp),As hw h3 (by omega),As hw h3 (by omega),hb];simp only[aK,qT,bU];rw[aSL hwb.b];simp only[aK];rw[aA (by decide),aA (by decide)];cases eqD b q with
   | true=>rfl
   | false=>
    simp only[cK,bY];have h9:((((([]++l)++m).length:Int) == -1)==false)=true:=by rw[bF (by omega)]; rfl
    rw[aA h9,aA (by decide)];simp
end Go.PL
set_option maxRecDepth 100000
namespace Go.Proofs.YtabcengbnoidlaaGreatDoor
open Go Go.RowKit
variable {W:World}
abbrev zP:List (String×DataW Unit):=[("math/bits.deBruijn32tab", Rows.laid_math_bits_deBruijn32tab),("math/bits.deBruijn64tab", Rows.laid_math_bits_deBruijn64tab),("internal/strconv.uint64pow10", Rows.laid_internal_strconv_uint64pow10),("unicode.White_Space", Rows.laid_unicode_White_Space),("strings.asciiSpace", Rows.laid_strings_asciiSpace)]
theorem own:ownKnob Tryz.prog.godebug=none:=by kernel_rfl
theorem aRN:Tryz.prog.globalNamed "internal/strconv.uint64pow10" = some 2:=by kernel_rfl
theorem Yp:(Rows.laid_internal_strconv_uint64pow10:DataW Unit)=Lib.tabData .u64 Lib.pow10Tab:=by rfl
theorem aLR(h:laidMetH Tryz.prog zP W):Lib.TabIs Tryz.prog W "internal/strconv.uint64pow10" .u64 Lib.pow10Tab/\2<W.heap.size:=by
 have h':laidMet Tryz.prog zP W:=h;obtain⟨ps,hv,_⟩:=h';obtain⟨g1,t1,cs1,f1,p1,q1,_,_,_,_,hv2,_⟩:=hv;obtain⟨g2,t2,cs2,f2,p2,q2,_,_,_,_,hv3,_⟩:=hv2;obtain⟨g,t,cs,fuel,p,q,hg,hty,hvar,hd,_,_⟩:=hv3;obtain rfl:=Option.some.inj (aRN.symm.trans hg)
 have hT:Lib.TabIs Tryz.prog W "internal/strconv.uint64pow10" .u64 Lib.pow10Tab:=by
  have ht':((Tryz.prog.globals[2]?).map (·.type))=some 238:=by kernel_rfl
  obtain rfl:=Option.some.inj (ht'.symm.trans hty);rw[Yp]at hd;unfold Lib.TabIs;rw[hvar,<-Lib.cells_of_tab Tryz.underlying238 Tryz.underlying217 (by kernel_rfl) (by kernel_rfl) hd]
 refine⟨hT,?_⟩;have hc:=hT.cell aRN 0 (by decide);refine Classical.byContradiction fun h0=>?_;have:W.heap[2]? = none:=Array.getElem?_eq_none (by omega);simp[World.cell?,this]at hc
theorem Wx:(Rows.laid_strings_asciiSpace:DataW Unit)=Lib.tabData .u8 Lib.asciiSpaceTab:=by rfl
theorem gls(h:laidMetH Tryz.prog zP W):PL.GLS Tryz.prog (fun b=>b<W.heap.size) W:=by
 have h':laidMet Tryz.prog zP W:=h;obtain⟨ps,hv,_⟩:=h';obtain⟨g0,t0,cs0,f0,p0,q0,i0,j0,k0,l0,hv1,_⟩:=hv;obtain⟨g1,t1,cs1,f1,p1,q1,i1,j1,k1,l1,hv2,_⟩:=hv1;obtain⟨g2,t2,cs2,f2,p2,q2,i2,j2,k2,l2,hv3,_⟩:=hv2;obtain⟨g3,t3,cs3,f3,p3,q3,i3,j3,k3,l3,hv4,_⟩:=hv3;obtain⟨g,t,cs,fuel,p,q,hg,hty,hvar,hd,_,_⟩:=hv4
 have gS:Tryz.prog.globalNamed "strings.asciiSpace" = some 0:=by kernel_rfl
 obtain rfl:=Option.some.inj (gS.symm.trans hg)
 have hT:Lib.TabIs Tryz.prog W "strings.asciiSpace" .u8 Lib.asciiSpaceTab:=by
  have ht':((Tryz.prog.globals[0]?).map (·.type))=some 181:=by kernel_rfl
  obtain rfl:=Option.some.inj (ht'.symm.trans hty);rw[Wx]at hd;unfold Lib.TabIs;rw[hvar,<-Lib.cells_of_tab Tryz.underlying181 Tryz.underlying5 (by kernel_rfl) (by kernel_rfl) hd]
 intro b hb;obtain rfl:=Option.some.inj (gS.symm.trans hb);refine⟨hT,?_⟩;have hc:=hT.cell gS 0 (by decide);refine Classical.byContradiction fun h0=>?_;have:W.heap[0]? = none:=Array.getElem?_eq_none (by omega);simp[World.cell?,this]at hc
theorem glt(h:laidMetH Tryz.prog zP W):PL.GLT Tryz.prog (fun b=>b<W.heap.size) W:=by intro b hb;obtain⟨h1,h2⟩:=aLR h;obtain rfl:=Option.some.inj (aRN.symm.trans hb);exact⟨h1,h2⟩
theorem glp(h:laidMetH Tryz.prog zP W)(_hsh:W.ShapedOpen Tryz.prog):PL.GLP Tryz.prog (fun b=>b<W.heap.size) W:=
 ⟨glt h,fun _=>⟨fun b hb=>(Option.some_ne_none _ (hb.symm.trans (show Tryz.prog.globalNamed "strconv.ErrSyntax" = none by kernel_rfl))).elim,fun b hb=>(Option.some_ne_none _ (hb.symm.trans (show Tryz.prog.globalNamed "strconv.ErrRange" = none by kernel_rfl))).elim⟩,
  fun _=>⟨gls h,fun b hb=>(Option.some_ne_none _ (hb.symm.trans (show Tryz.prog.globalNamed "internal/bytealg.MaxLen" = none by kernel_rfl))).elim⟩⟩
def aWB:DataW Unit->Array Value
 | .agg l=>(l.flatMap fun d=>match d with | .lit (.int k z)=>[Value.int k z] | .agg m=>m.map fun d=>(match d with | .lit (.int k z)=>Value.int k z | _=>.bool false) | _=>[.bool false]).toArray
 | _=>#[]
noncomputable def Wg (h:Array Obj)(b:Nat)(d:DataW Unit):Array Obj:=h.modify b fun
 | .cells _ t frozen=>.cells (aWB d) t frozen
 | o=>o
noncomputable def low:Nat:=(World.holding Tryz.prog default ⟨#[],#[],[]⟩).heap.size
noncomputable def bCA (h:Array Obj)(b k:Nat):Array Obj:=h.modify b fun
 | .cells _ t frozen=>.cells #[.pointer (some ⟨low+k,0,none⟩)] t frozen
 | o=>o
noncomputable def wE (os:Os):World:=
 { World.holding Tryz.prog os ⟨#[.cells #[.int .u16 9,.int .u16 13,.int .u16 1,.int .u16 32,.int .u16 133,.int .u16 101,.int .u16 160,.int .u16 5760,.int .u16 5600,.int .u16 8192,.int .u16 8202,.int .u16 1,.int .u16 8232,.int .u16 8233,.int .u16 1,.int .u16 8239,.int .u16 8287,.int .u16 48,.int .u16 12288,.int .u16 12288,.int .u16 1] 211,.cells #[.slice (some ⟨low,0,none⟩) 7 7,.slice none 0 0,.int .i64 2] 208],#[],[]⟩ with heap:=bCA (Wg (Wg (Wg (Wg (World.holding Tryz.prog os ⟨#[.cells #[.int .u16 9,.int .u16 13,.int .u16 1,.int .u16 32,.int .u16 133,.int .u16 101,.int .u16 160,.int .u16 5760,.int .u16 5600,.int .u16 8192,.int .u16 8202,.int .u16 1,.int .u16 8232,.int .u16 8233,.int .u16 1,.int .u16 8239,.int .u16 8287,.int .u16 48,.int .u16 12288,.int .u16 12288,.int .u16 1] 211,.cells #[.slice (some ⟨low,0,none⟩) 7 7,.slice none 0 0,.int .i64 2] 208],#[],[]⟩).heap 2 Rows.laid_internal_strconv_uint64pow10) 3 Rows.laid_math_bits_deBruijn32tab) 4 Rows.laid_math_bits_deBruijn64tab) 0 Rows.laid_strings_asciiSpace) 1 1 }
theorem aCC(os:Os)(args:Array Value):laidMet Tryz.prog zP ((wE os).forCall (fun _ _=>0) ⟨#[],args,[]⟩).memory:=
 laidMet_of_run3 12 (by kernel_rfl) (by kernel_rfl) (by kernel_rfl)
noncomputable abbrev aJD:Array Value:=#[.agg #[.slice none 0 0,.slice none 0 0],.slice none 0 0,.slice none 0 0,.agg #[.slice none 0 0,.slice none 0 0]]
open Go.PL in
set_option maxRecDepth 100000 in
theorem tC(hF:∀ (a0:PL.aB) (a1:List PL.aW) (a2:List PL.aW) (a3:PL.aB),PL.eX a0->PL.okL 24 PL.fT a1->PL.okL 24 PL.fT a2->PL.eX a3->PL.aAJ a0 a1 a2 a3=some true)(os:Os)(started:os.Started)(H:Type)(enc:TypeId×Value->H)(F:Stop.Interp):
  ReturnsInHanded {} Tryz.checked os 4 .any ((Rows.OpenSpec.upto Rows.certifyChainsSpec).preRow enc Tryz.prog Tryz.f4 Rows.certifyChainsUptoRow.domain false Rows.certifyChainsUptoRow.laid) (((Rows.OpenSpec.upto Rows.certifyChainsSpec).at F).post enc Tryz.prog Tryz.f4 false true false false):=by
 refine returnsInHanded_of_row (C:=Tryz.checked) (s:=Rows.OpenSpec.upto Rows.certifyChainsSpec) own started (by kernel_rfl) Tryz.func4
  (witness_row_atRef (enc:=enc) (C:=Tryz.checked) false (wE os) aJD rfl (by kernel_rfl) (by kernel_rfl) (by kernel_rfl)
   (OpenSpec.preRow_of_cond 8 (x:=Option.get (DataW.whole enc Tryz.prog ((wE os).forCall (fun _ _=>0) ⟨#[],aJD,[]⟩).memory Tryz.f4.params.toList (Rows.OpenSpec.upto Rows.certifyChainsSpec).vars false aJD.toList 8) (by kernel_rfl)) (Option.some_get _).symm (by kernel_rfl) (fun k hk=>by cases hk; kernel_rfl) (by kernel_rfl) (aCC os _))) ?_
 intro W base args ds gs before hval0 hW _ hcond _ hL hsh _;have hsz:=hcond _ rfl;have hval:∀ (j:Nat) t v,Tryz.f4.params[j]? = some t->args[j]? = some v->Value.okWide Tryz.prog W .any base t v:=hval0;have hW':DataW.Whole enc Tryz.prog Tryz.f4.params.toList Rows.certifyChainsSpec.vars false W args.toList ds gs before:=hW;obtain⟨p,q,hA0,hV,rfl,_⟩:=hW;have hA:DataW.TrodAll enc Tryz.prog W 0 (fun _=>true) true Tryz.f4.params.toList args.toList ds p:=hA0;rw[Tryz.params4]at hA hval;obtain⟨v0,vs0,d0,ds0,p0,q0,hl0,rfl,rfl,h0,r0⟩:=Go.ChangeShapes.trodAll_cons hA;obtain⟨v1,vs1,d1,ds1,p1,q1,hl1,rfl,rfl,h1,r1⟩:=Go.ChangeShapes.trodAll_cons r0;obtain⟨v2,vs2,d2,ds2,p2,q2,hl2,rfl,rfl,h2,r2⟩:=Go.ChangeShapes.trodAll_cons r1;obtain⟨v3,vs3,d3,ds3,p3,q3,hl3,rfl,rfl,h3,r3⟩:=Go.ChangeShapes.trodAll_cons r2;obtain⟨hl4,rfl,rfl⟩:=Go.ChangeShapes.trodAll_nil r3;subst hl4;subst hl3;subst hl2;subst hl1;obtain rfl:args=#[v0,v1,v2,v3]:=by cases args; simp_all
 obtain⟨rfl,rfl⟩:=Go.ChangeShapes.trodVars_none hV;have hwt:Rows.uptoBulkAll [d0,d1,d2,d3]<=1048576:=by have:=of_decide_eq_true hsz;simpa using this
 simp only[Rows.uptoBulkAll]at hwt;obtain⟨x0,hx0,ok0⟩:=Ai (c:=aY) Tryz.underlying25 (fun fuel=>o25 fuel) (hval 0 25 v0 rfl rfl) h0 (by omega);obtain⟨x1,hx1,ok1⟩:=Dk (c:=fun xs=>eL cH (xs)) Tryz.underlying38 (fun fuel=>o38 fuel) (hval 1 38 v1 rfl rfl) h1 (by omega);obtain⟨x2,hx2,ok2⟩:=Dk (c:=fun xs=>eL cH (xs)) Tryz.underlying38 (fun fuel=>o38 fuel) (hval 2 38 v2 rfl rfl) h2 (by omega);obtain⟨x3,hx3,ok3⟩:=Ai (c:=aY) Tryz.underlying25 (fun fuel=>o25 fuel) (hval 3 25 v3 rfl rfl) h3 (by omega);have hn:=hF x0 x1 x2 x3 ok0 ok1 ok2 ok3;refine(fV.law ((aMS x0 x1 x2 x3).h true hn) (W:=W) (vs:=#[v0,v1,v2,v3]) rfl (fun j x v hj hv=>?_) (glp hL hsh)).mono fun e W' ⟨he,hb⟩=>?_
 ·match j,hj,hv with
  | 0,hj,hv=>cases hj; cases hv; exact .t hx0
  | 1,hj,hv=>cases hj; cases hv; exact .t hx1
  | 2,hj,hv=>cases hj; cases hv; exact .t hx2
  | 3,hj,hv=>cases hj; cases hv; exact .t hx3
  | j+4,hj,hv=>simp at hj
 ·subst he;exact⟨_,rfl,aCY (by kernel_rfl) rfl hW' hb (tb:=4) (by kernel_rfl) Tryz.underlying4 (fun t ht=>by rw[Tryz.params4]at ht; simp at ht; rcases ht with rfl | rfl | rfl <;> exact⟨by kernel_rfl,of_decide_eq_true (by kernel_rfl)⟩) rfl⟩
theorem aNJ:laidOutB Tryz.pinned.checked.prog=true:=by kernel_rfl
theorem aET:(Rows.certifyChainsUptoRow.inPlace==Tryz.pinned.checked.prog.inPlace 4)=true:=by kernel_rfl
theorem aTA:(Rows.certifyChainsUptoRow.unfollowed==Tryz.pinned.checked.prog.unfollowed 4)=true:=by kernel_rfl
theorem aXS:(Rows.certifyChainsUptoRow.recurses==Tryz.pinned.checked.prog.recurses 4)=true:=by kernel_rfl
theorem aHY:(Rows.certifyChainsUptoRow.named==Tryz.pinned.checked.prog.varsNamed 4)=true:=by kernel_rfl
theorem aDS:Tryz.pinned.checked.prog.stopsHeard=true:=by kernel_rfl
theorem aEC:Tryz.pinned.checked.prog.mayEnter=true:=by kernel_rfl
theorem aCE:(Rows.certifyChainsUptoRow.lifted==Tryz.pinned.checked.prog.liftsFinal)=true:=by kernel_rfl
theorem aMW:mapsRowed Tryz.pinned.checked.prog=true:=by kernel_rfl
theorem jf:joinedFacts Tryz.pinned.checked.prog 4 Tryz.f4 (Rows.OpenSpec.upto Rows.certifyChainsSpec).bare Rows.certifyChainsUptoRow=true:=by unfold joinedFacts;simp only[Bool.and_eq_true];refine⟨⟨⟨⟨⟨⟨⟨⟨⟨⟨⟨⟨⟨⟨⟨⟨⟨⟨⟨⟨⟨⟨⟨⟨⟨⟨⟨⟨⟨⟨⟨?_,aNJ⟩,aMW⟩,?_⟩,?_⟩,?_⟩,?_⟩,?_⟩,?_⟩,aET⟩,aTA⟩,aXS⟩,aHY⟩,?_⟩,?_⟩,?_⟩,?_⟩,?_⟩,?_⟩,?_⟩,?_⟩,?_⟩,?_⟩,?_⟩,aDS⟩,aEC⟩,aCE⟩,?_⟩,?_⟩,?_⟩,?_⟩,?_⟩ <;> kernel_rfl
open Go.PL in
theorem uH(hF:∀ (a0:PL.aB) (a1:List PL.aW) (a2:List PL.aW) (a3:PL.aB),PL.eX a0->PL.okL 24 PL.fT a1->PL.okL 24 PL.fT a2->PL.eX a3->PL.aAJ a0 a1 a2 a3=some true):Rows.CertifyChainsUptoSaid:=
 OpenClaim.holds_of_cond 4 Tryz.f4 rfl rfl rfl rfl rfl rfl rfl ⟨rfl,rfl,rfl,rfl,rfl⟩ rfl rfl rfl rfl rfl (by kernel_rfl) Tryz.func4 jf (of_decide_eq_true (by kernel_rfl)) (by unfold Func.isWrapper; first | (rw[if_pos (by decide +kernel)]; kernel_rfl) | (rw[if_neg (by decide +kernel)]; exact⟨rfl,rfl⟩))
  (fun os started H enc _ F=>by rw[OpenClaim.pre_eq_preRow]; exact tC hF os started H enc F)
theorem sA(f:FuncId)(fn:Func)(hf:Tryz.pinned.checked.prog.funcNamed "errata/erratalaw23.CertifyChains" = some f)(hfn:Tryz.pinned.checked.prog.funcs[f]? = some fn):
  true=Tryz.pinned.checked.prog.looks []/\∀ (j:Nat) t,fn.params[j]? = some t->Tryz.pinned.checked.prog.wantsStandIn t=false:=by
 obtain rfl:f=4:=Option.some.inj ((show Tryz.prog.funcNamed "errata/erratalaw23.CertifyChains" = some 4 by kernel_rfl).symm.trans hf) |>.symm
 obtain rfl:fn=Tryz.f4:=(Option.some.inj (Tryz.func4.symm.trans hfn)).symm;refine⟨by kernel_rfl,fun j t ht=>?_⟩;rw[Tryz.params4]at ht;have hm:=Array.mem_of_getElem? ht;simp at hm;rcases hm with rfl | rfl | rfl
 ·exact(show Tryz.prog.wantsStandIn 25=false by kernel_rfl)
 ·exact(show Tryz.prog.wantsStandIn 38=false by kernel_rfl)
 ·exact(show Tryz.prog.wantsStandIn 25=false by kernel_rfl)
theorem aZJ:Rows.certifyChainsUptoRow.wfByText (Rows.OpenSpec.upto Rows.certifyChainsSpec)=true:=by kernel_rfl
theorem aQE:Tryz.pinned.checked.prog.mainIs=some (Rows.certifyChainsUptoCard.stood.harness.1,Rows.certifyChainsUptoCard.stood.harness.2.toList):=by kernel_rfl
theorem aOM:false=Rows.certifyChainsUptoRow.goesBy Tryz.pinned.checked.prog:=by kernel_rfl
open Go.PL in
theorem sQ(hF:∀ (a0:PL.aB) (a1:List PL.aW) (a2:List PL.aW) (a3:PL.aB),PL.eX a0->PL.okL 24 PL.fT a1->PL.okL 24 PL.fT a2->PL.eX a3->PL.aAJ a0 a1 a2 a3=some true):Rows.CertifyChainsUptoCardSaid:=
 Claim7.holds_tied_plain_at .later [] _ _ _ _ (uH hF) (fun _ h=>by cases h) aZJ (fun _ h=>by cases h) certifyChainsUpto_row_tie rfl ⟨rfl,rfl⟩ aQE rfl sA aOM
end Go.Proofs.YtabcengbnoidlaaGreatDoor
namespace Go.Proofs.YtabcengbnoidlaaGreatDoor
theorem certifyChains_holds:Rows.CertifyChainsUptoCardSaid:=sQ fun a0 a1 a2 a3 h0 h1 h2 h3=>PL.aBF a0 a1 a2 a3 h0 h1 h2 h3
#print axioms certifyChains_holds
end Go.Proofs.YtabcengbnoidlaaGreatDoor
