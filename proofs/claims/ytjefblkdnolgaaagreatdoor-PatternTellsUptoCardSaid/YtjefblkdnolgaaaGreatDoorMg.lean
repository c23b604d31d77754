/-
  Parts: The kept part of a plain-law text (strip.py). Own work. The kept part of a plain-law text (strip.py). Own work. The kept part of a plain-law text (strip.py). Own work. The kept part of a plain-law text (strip.py). Own work. The kept part of a plain-law text (strip.py). Own work. Plain law of expressions: what the operators compute. Own work. Plain law of patterns: the walk over the places, as plain lists. Own work. Plain law of expressions: every right expression has a value. Own work. Plain law of expressions: right by parts is right at a height. Own work. Plain law of expressions: the parts of the type rule. Own work. Plain law of expressions: what has a type is right by parts. Own work. Plain law of expressions: right functions. Own work. Plain law of patterns: what the walk finds is the longest run that ends at a place. Own work.
-/
import Derived.Test.YtjefblkdnolgaaaGreatDoorMf
set_option maxHeartbeats 4000000
namespace Go.PL
open Go
set_option linter.unusedVariables false
set_option maxRecDepth 20000
variable {e:bB} {fr:List Int} {fs:List aI} {i:Int} {k:Nat} {l:List aC}
theorem Yx{P:Program}{S R:Type}{L:S->Tr P (S⊕R)}(I:S->Prop)(μ:S->Nat){Q:R->Prop}(h:∀ s,I s->(L s).wpT (sel (fun s'=>I s'/\μ s' < μ s) Q)){s:S}(hs:I s):Tr.LoopT (fun s Z=>(L s).wpT Z) Q s:=
 aIW (t:=fun s Z=>(L s).wpT Z) (fun s _ _ hq h=>Tr.wpT_mono (L s) hq h) I μ h hs
theorem aLW(h:okD l):okD (l.map neg):=⟨fun x hx=>by
  obtain⟨y,hy,rfl⟩:=dZ.1 hx;exact h.r y hy,fun x hx=>by
  obtain⟨y,hy,rfl⟩:=dZ.1 hx;exact aFZ _⟩
theorem Ga(n:aG)(i:Int)(l:List aC):(dM n i l).length<=l.length:=by
 have:∀ (l:List aC) (m:List (ByteArray×List aC)),(l.foldl (fun m d=>mput m (kd n i d) ((cB m (kd n i d)).getD []++[d])) m).length<=m.length+l.length:=by
  intro l
  induction l with
  | nil=>intro m; simp
  | cons d l ih=>intro m;rw[kD];refine gQ (ih _) ?_;have h1:=(Ji m (kd n i d) ((cB m (kd n i d)).getD []++[d])).length_eq;have h2:(mdel m (kd n i d)).length<=m.length:=qX _ _;grind
 have h2:=this l [];simp only[Ep,jO]at h2;exact h2
theorem yJ{f:ByteArray->List aC}{c:Nat}(h:∀ a,(f a).length<=c)(l:List ByteArray):(l.flatMap f).length<=l.length*c:=by
 induction l with
 | nil=>simp
 | cons a l ih=>rw[jM,cE,fB,kO];grind
theorem oJ{n:aG}{k:ByteArray}(h:okI n i l):okI n i (ofK n i k l):=h.sub fun x hx=>(iB.1 hx).1
theorem zI{r:List aC}(h:l.Perm r)(hl:okN l):cons l=cons r:=(eO hl).ext (eO fun x hx=>hl x (h.mem_iff.2 hx)) ((eY l).trans ((gP.of_perm h).trans (eY r).symm))
theorem bCM(a b c:Int):G97 a b c=some (decide (b<=a/\a<=c)):=by
 unfold G97 T97;simp only[Tr.den];by_cases h:a>=b
 ·rw[aB (bI h)];simp only[aH]
  congr 1
  by_cases h':a<=c
  ·rw[bI h',bI ⟨h,h'⟩]
  ·rw[Ud,kW,kW]; omega
 ·rw[aF (bJ h)];simp only[aH]
  congr 1
  rw[Ud,kW];constructor
  ·intro h; cases h
  ·omega
theorem aUB(a b:aE):bFN a b=some (zL a b):=by
 unfold bFN bIU zL fU oQ;simp only[Tr.den,kW];have hs:=jP a.S.toList b.S.toList;have h2:=jP b.S.toList a.S.toList;rw[Lib.toList_data,Lib.toList_data]at hs h2;have e1:Op.bytesLess a.S.toList b.S.toList=decide (yI a.S b.S<0):=by rw[Lib.toList_data,Lib.toList_data]; exact hs
 have e2:(a.S.toList==b.S.toList)=decide (yI a.S b.S=0):=by
  rw[Ud,jI,kW,TO.str.eq,Lib.toList_data,Lib.toList_data];constructor
  ·intro h;generalize a.S=x at h ⊢;generalize b.S=y at h ⊢;cases x; simp_all
  simp_all
 have h3:yI a.S b.S = -1\/yI a.S b.S=0\/yI a.S b.S=1:=by
  unfold yI;generalize a.S.data.toList=x;generalize b.S.data.toList=y
  induction x generalizing y with
  | nil=>cases y <;> simp[Lib.compareBytes]
  | cons u x ih=>
   cases y with
   | nil=>simp[Lib.compareBytes]
   | cons v y=>rw[Lib.compareBytes];grind
 grind
theorem Pz(a b:List aE)(ha:a.length<=1073741824)(hb:b.length<=1073741824):bBZ a b=some (Ax a b):=by
 refine Sp.eq ?_;unfold bBZ bGI;simp only[Tr.den,cD];refine Sq.while (fun k:Int=>0<=k/\k<=a.length/\k<=b.length/\Ax (a.drop k.toNat) (b.drop k.toNat)=Ax a b) (fun k=>a.length-k.toNat) (fun k hk=>?_) ⟨by omega,by omega,by omega,by simp⟩;obtain⟨h0,h1,h2,h3⟩:=hk;unfold aAZ;simp only[Tr.den,aUB,aH];have stop:(k=a.length\/k=b.length)->Sp (sel (fun _:Unit=>if decide ((a.length:Int)<(b.length:Int))=true then some (-1:Int) else if decide ((a.length:Int)>(b.length:Int))=true then some 1 else some 0) some (Sum.inl ())) (fun z=>z=Ax a b):=by
  intro hk;simp only[sel];rcases hk with hk | hk
  ·rw[gY (show a.length<=k.toNat by omega)]at h3;by_cases hl:(a.length:Int)<b.length
   ·rw[aB (bI hl)];rw[cP (show k.toNat<b.length by omega)]at h3;exact aA.2 h3
   ·rw[aF (bJ hl),aF (bJ (by omega))];rw[gY (show b.length<=k.toNat by omega)]at h3;exact aA.2 h3
  ·rw[gY (show b.length<=k.toNat by omega)]at h3;rw[aF (bJ (by omega))];by_cases hl:(a.length:Int)>b.length
   ·rw[aB (bI hl)];rw[cP (show k.toNat<a.length by omega)]at h3;exact aA.2 h3
   ·rw[aF (bJ (by omega))];rw[gY (show a.length<=k.toNat by omega)]at h3;exact aA.2 h3
 by_cases hk:k<a.length
 ·rw[aB (bI hk)];simp only[aH];by_cases hk':k<b.length
  ·rw[aB (bI hk'),aB ⟨h0,hk⟩,aB ⟨h0,hk'⟩];rw[cP (show k.toNat<a.length by omega),cP (show k.toNat<b.length by omega)]at h3;simp only[rZ]at h3;by_cases hz:zL (a.getD k.toNat default) (b.getD k.toNat default)=0
   ·rw[aF (Bi hz),bS (by omega) (by omega)];refine aA.2 ⟨⟨by omega,by omega,by omega,?_⟩,by omega⟩;rw[show (k+1).toNat=k.toNat+1 by omega]; refine Eq.trans ?_ h3; simp only[fU,hz,fZ]
   ·rw[aB (Iv hz)];refine aA.2 (aA.2 ?_);refine Eq.trans ?_ h3; simp only[fU,aF hz]
  ·rw[aF (bJ hk')];exact aA.2 (stop (.inr (by omega)))
 ·rw[aF (bJ hk)];exact aA.2 (stop (.inl (by omega)))
theorem Im(a b:aC)(ha:okR a)(hb:okR b):G49 a b=some (dJ a b):=by unfold G49 T49;simp only[Tr.den];rw[Pz _ _ ha hb];unfold dJ fU oQ;grind
theorem aDK(d:aC)(n:Int)(h:okR d):bDZ d n=some ⟨d.Time,d.Row,n⟩:=by unfold okR at h;unfold bDZ bEH;simp only[Tr.den];rw[aB (by omega)]
theorem aUU{x y:aC}:(dJ x y<=0)↔ltD y x=false:=by have:=uT (x:=x) (y:=y);unfold ltD;grind
theorem aOM(a b:List aC)(ha:Srt a)(hb:Srt b)(oa:gV a)(ob:gV b)(hn:a.length+b.length<=1000000000000):
  Sp (cK (fun s=>(Qk a b s).den) (([]:List aC),0,0)) (sel (fun r=>r.Perm (a++b)/\Srt r) (fun _=>False)):=by
 refine Sq.while (fun s:List aC×Int×Int=>∃ i k:Nat,s.2.1=i/\s.2.2=k/\i<=a.length/\k<=b.length/\(s.1++(a.drop i++b.drop k)).Perm (a++b)/\Srt s.1/\(∀ x,x∈s.1->∀ y,y∈a.drop i++b.drop k->ltD y x=false)) (fun s=>(a.length-s.2.1).toNat+(b.length-s.2.2).toNat) (fun s hs=>?_)
  ⟨0,0,rfl,rfl,by omega,by omega,by simp,.nil,by simp⟩
 obtain⟨o,i,k⟩:=s;obtain⟨i,k,e1,e2,h1,h2,h3,h4,h5⟩:=hs;simp only at e1 e2 h3 h4 h5;subst e1 e2;have hlen:=h3.length_eq;simp only[cE,nV]at hlen;unfold Qk;simp only[Tr.den,aS];have takeA:i<a.length->(k<b.length->ltD (b.getD k default) (a.getD i default)=false) ->
   Sp (if 0<=(i:Int)/\(i:Int)<(a.length:Int) then (if (o.length+[a.getD i default].length)*40<=140737488355328 then some (o++[a.getD i default],IntKind.i64.wrap ((i:Int)+1),(k:Int)) else none) else none)
    (fun v=>(∃ i' k':Nat,v.2.1=i'/\v.2.2=k'/\i'<=a.length/\k'<=b.length/\(v.1++(a.drop i'++b.drop k')).Perm (a++b)/\Srt v.1/\(∀ x,x∈v.1->∀ y,y∈a.drop i'++b.drop k'->ltD y x=false))/\(a.length-v.2.1).toNat+(b.length-v.2.2).toNat<(a.length-(i:Int)).toNat+(b.length-(k:Int)).toNat):=by
  intro hi hle;rw[aB (by omega),aB (by grind),aL (by omega)];have hd:=cP hi;refine aA.2 ⟨⟨i+1,k,rfl,rfl,by omega,h2,?_,?_,?_⟩,by grind⟩
  ·grind
  ·refine Srt.app.2 ⟨h4,oT _ _,fun x hx y hy=>?_⟩;grind
  ·intro x hx y hy;have hy':y∈a.drop i++b.drop k:=by grind
   rcases dC.1 hx with hx | hx
   ·grind
   ·rw[cR.1 hx];rcases dC.1 hy with hy | hy
    ·obtain⟨j,j1,j2,rfl⟩:=dS hy;exact ha.get (by omega) j2
    ·obtain⟨j,j1,j2,rfl⟩:=dS hy;exact gH.ntrans _ _ _ (hb.get j1 j2) (hle (by omega))
 have takeB:k<b.length->(i<a.length->ltD (a.getD i default) (b.getD k default)=false) ->
   Sp (if 0<=(k:Int)/\(k:Int)<(b.length:Int) then (if (o.length+[b.getD k default].length)*40<=140737488355328 then some (o++[b.getD k default],(i:Int),IntKind.i64.wrap ((k:Int)+1)) else none) else none)
    (fun v=>(∃ i' k':Nat,v.2.1=i'/\v.2.2=k'/\i'<=a.length/\k'<=b.length/\(v.1++(a.drop i'++b.drop k')).Perm (a++b)/\Srt v.1/\(∀ x,x∈v.1->∀ y,y∈a.drop i'++b.drop k'->ltD y x=false))/\(a.length-v.2.1).toNat+(b.length-v.2.2).toNat<(a.length-(i:Int)).toNat+(b.length-(k:Int)).toNat):=by
  intro hk hle;rw[aB (by omega),aB (by grind),aL (by omega)];have hd:=cP hk;refine aA.2 ⟨⟨i,k+1,rfl,rfl,h1,by omega,?_,?_,?_⟩,by grind⟩
  ·rw[hd]at h3;refine List.Perm.trans ?_ h3;rw[cT];refine oP _ ?_;rw[<-cT];refine(Pk _ Jq).trans ?_;simp
  ·refine Srt.app.2 ⟨h4,oT _ _,fun x hx y hy=>?_⟩;grind
  ·intro x hx y hy;have hy':y∈a.drop i++b.drop k:=by grind
   rcases dC.1 hx with hx | hx
   ·grind
   ·rw[cR.1 hx];rcases dC.1 hy with hy | hy
    ·obtain⟨j,j1,j2,rfl⟩:=dS hy;exact gH.ntrans _ _ _ (ha.get j1 j2) (hle (by omega))
    ·obtain⟨j,j1,j2,rfl⟩:=dS hy;exact hb.get (by omega) j2
 have step:∀ (x:Option (List aC×Int×Int)),Sp x (fun v=>(∃ i' k':Nat,v.2.1=i'/\v.2.2=k'/\i'<=a.length/\k'<=b.length/\(v.1++(a.drop i'++b.drop k')).Perm (a++b)/\Srt v.1/\(∀ x,x∈v.1->∀ y,y∈a.drop i'++b.drop k'->ltD y x=false))/\(a.length-v.2.1).toNat+(b.length-v.2.2).toNat<(a.length-(i:Int)).toNat+(b.length-(k:Int)).toNat) ->
   Sp (x.bind fun v=>some (.inl (v.1,v.2.1,v.2.2))) (sel (fun s':List aC×Int×Int=>(∃ i' k':Nat,s'.2.1=i'/\s'.2.2=k'/\i'<=a.length/\k'<=b.length/\(s'.1++(a.drop i'++b.drop k')).Perm (a++b)/\Srt s'.1/\(∀ x,x∈s'.1->∀ y,y∈a.drop i'++b.drop k'->ltD y x=false))/\(a.length-s'.2.1).toNat+(b.length-s'.2.2).toNat<(a.length-(i:Int)).toNat+(b.length-(k:Int)).toNat) (sel (fun r:List aC=>r.Perm (a++b)/\Srt r) (fun _:List aC=>False))):=
  fun x hx=>Sq.bind _ hx fun v hv=>aA.2 hv
 by_cases hi:i<a.length
 ·rw[aB (bI (show (i:Int)<a.length by omega))];simp only[aH,fZ];by_cases hk:k<b.length
  ·rw[aB (bI (show (i:Int)<a.length by omega))];simp only[aH];rw[aB (bI (show (k:Int)<b.length by omega)),aB (by omega),aB (by omega),Im _ _ (oa.get i) (ob.get k)];simp only[aH];by_cases hc:dJ (a.getD i default) (b.getD k default)<=0
   ·rw[aB (bI hc)];exact step _ (takeA hi fun _=>aUU.1 hc)
   ·rw[aF (bJ hc)];refine step _ (takeB hk fun _=>?_);cases hlt:ltD (a.getD i default) (b.getD k default) with
    | false=>rfl
    | true=>have:=lO hlt; omega
  grind
 ·rw[aF (bJ (show ¬ (i:Int)<a.length by omega))];simp only[aH];by_cases hk:k<b.length
  ·grind
  ·rw[aF (bJ (show ¬ (k:Int)<b.length by omega))];refine aA.2 ⟨?_,h4⟩;grind
theorem bAF(l:List aC)(ho:gV l)(hn:l.length<=1000000000000):Sp (bLG l) (fun d=>d.Perm l/\Srt d):=by
 refine mB (C:=fun (a:List aC) (x:Option (List aC))=>Con Proofs.Tryz.prog 250 [.t (eL aK (a))] x (fun (y:List aC)=>.t (eL aK (y)))) (fun a=>⟨bL Proofs.Tryz.func250 (by rfl),fun _ h=>nomatch h⟩) (fun rec a=>aRV rec a) (fun rec a=>aDQ rec a)
  (fun l=>gV l/\l.length<=1000000000000) (fun l=>l.length) (fun l d=>d.Perm l/\Srt d) (fun b f l hl hrec=>?_) true l ⟨ho,hn⟩
 obtain⟨ho,hn⟩:=hl;unfold aRV;simp only[Tr.den];by_cases h2:l.length<2
 ·rw[aB (bI (by omega))];refine aA.2 ⟨.refl _,?_⟩
  match l,h2 with
  | [],_=>exact .nil
  | [x],_=>exact oT _ _
 ·have w1:IntKind.i64.wrap (Int.tdiv (l.length:Int) 2)=((l.length / 2:Nat):Int):=by rw[show Int.tdiv (l.length:Int) 2=((l.length / 2:Nat):Int) from rfl];rw[qM (by omega)]
  rw[aF (bJ (by omega)),w1];have e1:(l.drop (0:Int).toNat).take (((l.length / 2:Nat):Int)-0).toNat=l.take (l.length / 2):=by rw[Jt,xL,Int.sub_zero,aS]
  have e2:(l.drop ((l.length / 2:Nat):Int).toNat).take ((l.length:Int)-((l.length / 2:Nat):Int)).toNat=l.drop (l.length / 2):=by rw[aS]; exact fT (by grind)
  rw[aB (by omega),e1];refine Sq.bind _ (hrec _ ⟨fun x hx=>ho x (xG hx),by simp; omega⟩ (by simp; omega)) (fun r1 h1=>?_);rw[aB (by omega),e2];refine Sq.bind _ (hrec _ ⟨fun x hx=>ho x (tJ hx),by simp; omega⟩ (by simp; omega)) (fun r2 h2'=>?_);have l1:=h1.1.length_eq;have l2:=h2'.1.length_eq;simp only[gO,nV]at l1 l2;have hm:=(aOM r1 r2 h1.2 h2'.2 (fun x hx=>ho x (xG (h1.1.mem_iff.1 hx))) (fun x hx=>ho x (tJ (h2'.1.mem_iff.1 hx))) (by omega)).get;obtain⟨z,hz1,hz2⟩:=hm;rw[hz1];cases z with
  | inr z=>exact hz2.elim
  | inl z=>refine aA.2 ⟨?_,hz2.2⟩;refine hz2.1.trans ((h1.1.append h2'.1).trans ?_);rw[gG]
theorem Tl(d:List aC)(i j:Nat):(d.drop i).getD j default=d.getD (i+j) default:=by simp_all
theorem aND(d v4:List aC)(i:Nat)(h0:i<d.length)(ho:gV d)(hn:d.length<=1000000000000):
  Sp (cK (fun s=>(Qf d (i:Int) s).den) (v4,0,(i:Int)))
   (sel (fun r:List aC×Int×Int=>∃ k:Nat,r=(v4,W (wt fC ((d.drop i).take k)),((i+k:Nat):Int))/\1<=k/\i+k<=d.length/\(∀ x,x∈(d.drop i).take k->pl x=pl (d.getD i default))/\(i+k<d.length->pl (d.getD (i+k) default)≠pl (d.getD i default))) (fun _=>False)):=by
 refine Sq.while (fun s:List aC×Int×Int=>∃ k:Nat,s=(v4,W (wt fC ((d.drop i).take k)),((i+k:Nat):Int))/\i+k<=d.length/\(∀ x,x∈(d.drop i).take k->pl x=pl (d.getD i default))) (fun s=>(d.length-s.2.2).toNat) (fun s hs=>?_) ⟨0,rfl,by omega,by simp⟩;obtain⟨k,rfl,h2,h3⟩:=hs;unfold Qf;simp only[Tr.den,aS];by_cases hk:i+k<d.length
 ·have w:(if IntKind.i64.wrap ((d.length:Int)-1)<((i+k:Nat):Int) then IntKind.i64.wrap ((d.length:Int)-1) else ((i+k:Nat):Int))=((i+k:Nat):Int):=by rw[bS (by omega) (by omega),aF (by omega)]
  rw[aB (bI (by omega)),aB (by omega),w];simp only[aS];rw[aB (by omega),Im _ _ (ho.get i) (ho.get (i+k))];simp only[aH];by_cases hc:dJ (d.getD i default) (d.getD (i+k) default)=0
  ·rw[aB (wW hc),aB (by omega)];have hp:=gZ.1 hc;have hk':k<(d.drop i).length:=by simp; omega
   have e2:W (W (wt fC ((d.drop i).take k))+(d.getD (i+k) default).N)=W (wt fC ((d.drop i).take (k+1))):=by rw[aQ hk',eT,Tl,show wt fC [d.getD (i+k) default]=(d.getD (i+k) default).N by simp[wt,fC]];exact lJ _ _
   rw[show IntKind.i64.wrap (W (wt fC ((d.drop i).take k))+(d.getD (i+k) default).N)=_ from e2,aL (by omega)];refine aA.2 ⟨⟨k+1,rfl,by omega,fun x hx=>?_⟩,by grind⟩;rw[aQ hk',dC,cR,Tl]at hx;grind
  ·rw[aF (kF hc)];have h1:1<=k:=by
    by_cases hk0:k=0
    ·subst hk0; exact absurd (gZ.2 rfl) hc
    ·omega
   exact aA.2 ⟨k,rfl,h1,h2,h3,fun _ he=>hc (gZ.2 he.symm)⟩
 ·rw[aF (bJ (by omega))];simp only[aH,cM,cI];exact aA.2 ⟨k,rfl,by omega,h2,h3,fun h=>absurd h hk⟩
theorem aWI(l d:List aC)(hd:d.Perm l)(hs:Srt d)(ho:gV l)(hN:okN l)(hn:l.length<=1000000000000):
  Sp (cK (fun s=>(Ov d s).den) (([]:List aC),0)) (sel (fun r=>r=cons l) (fun _=>False)):=by
 have hod:=ho.perm hd.symm;have hlen:=hd.length_eq;refine Sq.while (fun s:List aC×Int=>∃ i:Nat,s.2=i/\i<=d.length/\Can s.1/\(∀ x,x∈s.1->∀ y,y∈d.drop i->dJ x y<0)/\gP (s.1++d.drop i) l/\s.1.length<=i) (fun s=>(d.length-s.2).toNat) (fun s hs'=>?_)
  ⟨0,rfl,by omega,.nil,by simp,.of_perm hd,by simp⟩
 obtain⟨v4,i⟩:=s;obtain⟨i,e,h1,h4,h5,h6,h7⟩:=hs';simp only at e h4 h5 h6 h7;subst e;unfold Ov;simp only[Tr.den,aS];by_cases h0:i<d.length
 ·rw[aB (bI (by omega))];refine Sq.bind _ (aND d v4 i h0 hod (by omega)) (fun z hz=>?_);cases z with
  | inr z=>exact hz.elim
  | inl z=>
   obtain⟨k,rfl,k1,k2,k3,k4⟩:=hz;simp only[sel];have hsp:d.drop i=(d.drop i).take k++d.drop (i+k):=by rw[<-sZ,gG]
   have hd0:d.getD i default∈d.drop i:=by rw[cP h0]; grind
   have hmem:∀ y,y∈d.drop (i+k)->y∈d.drop i:=fun y hy=>by grind
   have hgt:∀ y,y∈d.drop (i+k)->dJ (d.getD i default) y<0:=by
    intro y hy;obtain⟨j,j1,j2,rfl⟩:=dS hy;have hk:i+k<d.length:=by omega
    have a1:=mY (hs.get (i:=i) (j:=i+k) (by omega) hk);have a2:dJ (d.getD i default) (d.getD (i+k) default)<0:=by have b1:dJ (d.getD i default) (d.getD (i+k) default)≠0:=fun he=>k4 hk (gZ.1 he).symm;have b2:=uT (x:=d.getD i default) (y:=d.getD (i+k) default);omega
    have a3:=mY (hs.get (i:=i+k) (j:=j) j1 j2);by_cases hc:dJ (d.getD i default) (d.getD j default)<0
    ·exact hc
    ·have:=gH.ntrans (d.getD i default) (d.getD j default) (d.getD (i+k) default) (kN hc) (kN a3);exact absurd a2 (mY this)
   have hw:∀ p,W (wt p (v4++d.drop i))=W (wt p v4+(if p (pl (d.getD i default))=true then W (wt fC ((d.drop i).take k)) else 0)+wt p (d.drop (i+k))):=by
    intro p
    conv=>lhs; rw[hsp]
    rw[eT,eT,aBE k3 p,<-Int.add_assoc];refine mG ?_ rfl;refine mG rfl ?_;split
    ·exact(Al _).symm
    ·rfl
   have hbind:∀ v5:List aC,Can v5->(∀ x,x∈v5->∀ y,y∈d.drop (i+k)->dJ x y<0)->(∀ p,W (wt p v5)=W (wt p v4+(if p (pl (d.getD i default))=true then W (wt fC ((d.drop i).take k)) else 0)))->v5.length<=v4.length+1 ->
     Sp (some (Sum.inl (v5,((i+k:Nat):Int))))
      (sel (fun s':List aC×Int=>(∃ i:Nat,s'.2=i/\i<=d.length/\Can s'.1/\(∀ x,x∈s'.1->∀ y,y∈d.drop i->dJ x y<0)/\gP (s'.1++d.drop i) l/\s'.1.length<=i)/\(d.length-s'.2).toNat<(d.length-(i:Int)).toNat) (sel (fun r:List aC=>r=cons l) (fun _:List aC=>False))):=by
    intro v5 c1 c2 c3 c4;refine aA.2 ⟨⟨i+k,rfl,k2,c1,c2,fun p=>?_,by grind⟩,by omega⟩;rw[<-h6 p,hw p,eT];exact mG (c3 p) rfl
   by_cases hz:W (wt fC ((d.drop i).take k))=0
   ·grind
   ·rw[aB (Iv hz),aB (by omega)];rw[aDK _ _ (hod.get i)];simp only[aH,wH];rw[aB (by omega)];simp only[aH];refine hbind (v4++[⟨(d.getD i default).Time,(d.getD i default).Row,W (wt fC ((d.drop i).take k))⟩]) ⟨?_,?_,?_⟩ ?_ (fun p=>?_) (by simp)
    ·refine Bk.2 ⟨h4.lt,oT _ _,fun x hx y hy=>?_⟩;rw[cR.1 hy];exact h5 x hx (d.getD i default) hd0
    ·intro x hx;rcases dC.1 hx with hx | hx
     ·exact h4.nz x hx
     grind
    ·intro x hx;rcases dC.1 hx with hx | hx
     ·exact h4.n64 x hx
     ·rw[cR.1 hx]; exact aFZ _
    ·intro x hx y hy;rcases dC.1 hx with hx | hx
     ·grind
     ·rw[cR.1 hx]; exact hgt y hy
    ·rw[eT];simp only[wt,Int.add_zero];rfl
 ·rw[aF (bJ (by omega))];refine aA.2 ?_;rw[gY (by omega),eN]at h6;exact(oI h4 hN h6).symm
theorem rA(l:List aC)(ho:gV l)(hN:okN l)(hn:l.length<=1000000000000):bHA l=some (cons l):=by
 refine Sp.eq ?_;unfold bHA bEM;simp only[Tr.den];refine Sq.bind _ (bAF l ho hn) (fun d hd=>?_);refine Sq.bind _ (aWI l d hd.1 hd.2 ho hN hn) (fun z hz=>?_);cases z with
 | inr z=>exact hz.elim
 | inl z=>exact aA.2 hz
theorem bCK(a b:List aC)(ha:okD a)(hb:okD b)(hn:a.length+b.length<=1000000000000):G47 a b=some (cons (a++b)):=by unfold G47 T47;simp only[Tr.den,kS];rw[aB (by grind),aB (by omega),rA _ (ha.app hb).r (ha.app hb).n (by simp; omega)];rfl
def vI(n:Int):aE:=⟨0,n,⟨#[]⟩⟩
def vB(b:Bool):aE:=⟨2,if b then 1 else 0,⟨#[]⟩⟩
def vT(s:ByteArray):aE:=⟨1,0,s⟩
theorem gK(n:Int):bLK n=some (vI n):=by rfl
theorem aEE(n:Int):bLI n=some (vI n):=by rfl
theorem iS(b:Bool):bIA b=some (vB b):=by cases b <;> simp[bIA,bDG,Tr.den,vB]
def bop(op:Int)(a b:aE):aE:=
 if op=8 then vI (IntKind.i64.wrap (a.N+b.N)) else if op=9 then vI (IntKind.i64.wrap (a.N-b.N)) else if op=10 then vI (IntKind.i64.wrap (a.N*b.N))
 else if op=11 then (if b.N=0 then vI 0 else vI (IntKind.i64.wrap (Int.tdiv a.N b.N))) else if op=12 then (if b.N=0 then vI 0 else vI (Int.tmod a.N b.N))
 else if op=13 then vB ((a.Kind==b.Kind)&&((a.N==b.N)&&(a.S.toList==b.S.toList))) else if op=14 then vB (!((a.Kind==b.Kind)&&((a.N==b.N)&&(a.S.toList==b.S.toList))))
 else if op=15 then vB (decide (zL a b<0)) else if op=16 then vB (decide (zL a b<=0))
 else if op=17 then vB (a.N==1&&b.N==1) else if op=18 then vB (a.N==1 || b.N==1)
 else vT ((a.S++b.S).extract 0 (min 200 (a.S.size+b.S.size)))
theorem Qz(p:cF):bKW p=some (bop 8 p.a_ p.b_):=by rfl
theorem Ps(p:cF):bJK p=some (bop 9 p.a_ p.b_):=by rfl
theorem Qx(p:cF):bKD p=some (bop 10 p.a_ p.b_):=by rfl
theorem Qh(p:cF):aUC p=some (bop 11 p.a_ p.b_):=by
 by_cases h:p.b_.N=0
 ·simp[aUC,aZW,Tr.den,gK,bop,h]
 ·simp[aUC,aZW,Tr.den,gK,bop,h]
theorem Ru(p:cF):aTW p=some (bop 12 p.a_ p.b_):=by
 by_cases h:p.b_.N=0
 ·simp[aTW,aVV,Tr.den,gK,bop,h]
 ·simp[aTW,aVV,Tr.den,gK,bop,h]
theorem Dy(p:cF):bCC p=some (bop 13 p.a_ p.b_):=by simp[bCC,bIF,Tr.den,iS,bop]
theorem No(p:cF):bFB p=some (bop 14 p.a_ p.b_):=by simp[bFB,bHU,Tr.den,iS,bop]
theorem Oz(p:cF):bHL p=some (bop 15 p.a_ p.b_):=by simp[bHL,bDF,Tr.den,Ry,iS,bop]
theorem Rx(p:cF):bIB p=some (bop 16 p.a_ p.b_):=by simp[bIB,bHV,Tr.den,Ry,iS,bop]
theorem Rw(p:cF):aWS p=some (bop 17 p.a_ p.b_):=by
 by_cases h:p.a_.N=1
 ·simp[aWS,aZO,Tr.den,iS,bop,h]
 ·have e:(p.a_.N==1)=false:=by grind
  simp[aWS,aZO,Tr.den,iS,bop,e]
theorem Oe(p:cF):aUD p=some (bop 18 p.a_ p.b_):=by
 by_cases h:p.a_.N=1
 ·simp[aUD,aVK,Tr.den,iS,bop,h]
 ·have e:(p.a_.N==1)=false:=by grind
  simp[aUD,aVK,Tr.den,iS,bop,e]
theorem aDI(p:cF)(h:p.a_.S.size+p.b_.S.size<=9223372036854775807):Vx p=some (bop 19 p.a_ p.b_):=by
 have hs:(p.a_.S++p.b_.S).size=p.a_.S.size+p.b_.S.size:=eX;have h1:((p.a_.S.size+p.b_.S.size:Nat):Int)<=9223372036854775807:=by omega
 by_cases hc:(200:Int)<((p.a_.S.size+p.b_.S.size:Nat):Int)
 ·have e:min 200 (p.a_.S.size+p.b_.S.size)=200:=by omega
  simp only[Vx,aJJ,Tr.den,bop,hs,aB hc,aB h1,e];simp[vT]; omega
 ·have e:min 200 (p.a_.S.size+p.b_.S.size)=p.a_.S.size+p.b_.S.size:=by omega
  simp only[Vx,aJJ,Tr.den,bop,hs,aF hc,aB h1,e];simp[vT];grind
section
variable {α:Type} [Inhabited α] (tm:α->Int) (nx:Int->α->Int) (hit:Int->Bool) (sz:Int)
def nR(t0 i:Int):Int->List α->List Int->List Int
 | now,q::qs,f::fs=>if tm q-t0<sz/\now≠0 then (if hit (nx now q)=true/\f<0 then i else f)::nR t0 i (nx now q) qs fs else f::fs
 | _,_,fs=>fs
def xR(bg:Int):Int->List α->List Int->List Int
 | i,q::qs,fs=>match nR tm nx hit sz (tm q) i bg (q::qs) fs with
  | f::fs'=>f::xR bg (i+1) qs fs'
  | []=>[]
 | _,[],fs=>fs
omit [Inhabited α] in
theorem tH(t0 i:Int):∀ (now:Int) (qs:List α) (fs:List Int),(nR tm nx hit sz t0 i now qs fs).length=fs.length
 | now,q::qs,f::fs=>by
  unfold nR;split
  ·simp only[fB,tH t0 i _ qs fs]
  ·rfl
 | _,[],fs=>by rfl
 | _,_::_,[]=>by rfl
omit [Inhabited α] in
theorem Tf(bg:Int):∀ (i:Int) (qs:List α) (fs:List Int),(xR tm nx hit sz bg i qs fs).length=fs.length
 | i,q::qs,fs=>by
  unfold xR;have h:=tH tm nx hit sz (tm q) i bg (q::qs) fs;split
  ·rename_i f fs' e;rw[e]at h;rw[fB,Tf bg _ qs fs',<-h]; rfl
  simp_all
 | _,[],fs=>by rfl
omit [Inhabited α] in
theorem Tb(t0 i:Int):∀ (now:Int) (qs:List α) (fs:List Int) (x:Int),x∈nR tm nx hit sz t0 i now qs fs->x=i\/x∈fs
 | now,q::qs,f::fs,x,hx=>by
  unfold nR at hx;split at hx
  ·rcases bH.1 hx with rfl | hx
   ·grind
   ·rcases Tb t0 i _ qs fs x hx with h | h
    all_goals simp_all
  simp_all
 | _,[],fs,x,hx=>by unfold nR at hx; exact .inr hx
 | _,_::_,[],x,hx=>by unfold nR at hx; exact .inr hx
omit [Inhabited α] in
theorem Tn(bg:Int):∀ (i:Int) (qs:List α) (fs:List Int) (x:Int),x∈xR tm nx hit sz bg i qs fs->(i<=x/\x<i+qs.length)\/x∈fs
 | i,q::qs,fs,x,hx=>by
  have hm:=Tb tm nx hit sz (tm q) i bg (q::qs) fs x;unfold xR at hx;split at hx
  ·rename_i f fs' e;rw[e]at hm;have one:x=i\/x∈fs->(i<=x/\x<i+(q::qs).length)\/x∈fs:=by grind
   rcases bH.1 hx with rfl | hx
   ·simp_all
   ·rcases Tn bg (i+1) qs fs' x hx with h | h
    all_goals grind
  ·simp at hx
 | _,[],fs,x,hx=>by unfold xR at hx; exact .inr hx
theorem aBY(t0 i:Int)(now:Int)(ps:List α)(fr:List Int)(k:Nat)(h:k<ps.length)(h':fr.length=ps.length):
  nR tm nx hit sz t0 i now (ps.drop k) (fr.drop k)=if tm (ps.getD k default)-t0<sz/\now≠0
   then (if hit (nx now (ps.getD k default))=true/\fr.getD k default<0 then i else fr.getD k default)::nR tm nx hit sz t0 i (nx now (ps.getD k default)) (ps.drop (k+1)) (fr.drop (k+1))
   else fr.drop k:=by
 rw[cP h,cP (l:=fr) (by omega)];rfl
omit [Inhabited α] in
theorem aRI(t0 i:Int)(now:Int)(ps:List α)(fr:List Int)(k:Nat)(h:ps.length<=k)(h':fr.length=ps.length):nR tm nx hit sz t0 i now (ps.drop k) (fr.drop k)=[]:=by rw[gY h,gY (show fr.length<=k by omega)];rfl
def Vc(bg:Int)(ps:List α)(fr:List Int)(k:Nat):List Int:=fr.take k++nR tm nx hit sz (tm (ps.getD k default)) (k:Int) bg (ps.drop k) (fr.drop k)
theorem aMN(bg:Int)(ps:List α)(fr:List Int)(k:Nat):(Vc tm nx hit sz bg ps fr k).length=fr.length:=by unfold Vc;rw[cE,tH,gO,nV]; omega
theorem aPT{t0 now:Int}{ps:List α}{T:List Int}(h:k<ps.length)(h':fr.length=ps.length)(hT:fr.take k++nR tm nx hit sz t0 i now (ps.drop k) (fr.drop k)=T)(hc:tm (ps.getD k default)-t0<sz/\now≠0):
  let fr':=if hit (nx now (ps.getD k default))=true/\fr.getD k default<0 then fr.set k i else fr
  fr'.take (k+1)++nR tm nx hit sz t0 i (nx now (ps.getD k default)) (ps.drop (k+1)) (fr'.drop (k+1))=T:=by
 intro fr';rw[aBY tm nx hit sz t0 i now ps fr k h h',aB hc]at hT;rw[<-hT];have hl:k<fr.length:=by omega
 by_cases hh:hit (nx now (ps.getD k default))=true/\fr.getD k default<0
 ·have e:fr'=fr.set k i:=aB hh;rw[e,aB hh,aQ (by simp_all),qB,aB ⟨rfl,hl⟩,List.take_set_of_le (dL _),List.drop_set_of_lt (by omega),cT];rfl
 ·have e:fr'=fr:=aF hh;rw[e,aF hh,aQ hl,cT];rfl
theorem Vv{t0 now:Int}{ps:List α}{T:List Int}(h:k<ps.length)(h':fr.length=ps.length)(hT:fr.take k++nR tm nx hit sz t0 i now (ps.drop k) (fr.drop k)=T)(hc:¬ (tm (ps.getD k default)-t0<sz/\now≠0)):fr=T:=by rw[aBY tm nx hit sz t0 i now ps fr k h h',aF hc,gG]at hT;exact hT
omit [Inhabited α] in
theorem aXI{t0 i now:Int}{ps:List α}{fr T:List Int}{k:Nat}(h:ps.length<=k)(h':fr.length=ps.length)(hT:fr.take k++nR tm nx hit sz t0 i now (ps.drop k) (fr.drop k)=T):fr=T:=by rw[aRI tm nx hit sz t0 i now ps fr k h h',eN,fT (by omega)]at hT;exact hT
theorem aJG{bg:Int}{ps:List α}{F:List Int}(h:k<ps.length)(h':fr.length=ps.length)(hF:fr.take k++xR tm nx hit sz bg (k:Int) (ps.drop k) (fr.drop k)=F):
  (Vc tm nx hit sz bg ps fr k).take (k+1)++xR tm nx hit sz bg ((k:Int)+1) (ps.drop (k+1)) ((Vc tm nx hit sz bg ps fr k).drop (k+1))=F:=by
 rw[<-hF];have hl:(fr.take k).length=k:=by grind
 have hs:=tH tm nx hit sz (tm (ps.getD k default)) (k:Int) bg (ps.drop k) (fr.drop k);rw[nV]at hs;have e:xR tm nx hit sz bg (k:Int) (ps.drop k) (fr.drop k)=match nR tm nx hit sz (tm (ps.getD k default)) (k:Int) bg (ps.drop k) (fr.drop k) with
   | f::fs'=>f::xR tm nx hit sz bg ((k:Int)+1) (ps.drop (k+1)) fs'
   | []=>[]:=by
  rw[cP h];rfl
 rw[e];unfold Vc;generalize nR tm nx hit sz (tm (ps.getD k default)) (k:Int) bg (ps.drop k) (fr.drop k)=st at hs;cases st with
 | nil=>grind
 | cons f fs'=>simp only;have e2:(fr.take k).drop (k+1)=[]:=gY (by omega);rw[List.take_append,List.drop_append,hl,fT (l:=fr.take k) (by omega),e2,show k+1-k=1 by omega];simp
end
def nW{α:Type}[Inhabited α](tm:α->Int)(key:List aE)(low:Int)(ps:List α):Nat->List Int->List aC
 | _,[]=>[]
 | j,i::fr=>(if 0<=i/\low<=tm (ps.getD j default) then [⟨tm (ps.getD j default),key++[vI (tm (ps.getD i.toNat default)),vI ((j:Int)-i+1)],1⟩] else [])++nW tm key low ps (j+1) fr
theorem Mn{α:Type}[Inhabited α](tm:α->Int)(key:List aE)(low:Int)(ps:List α):∀ (j:Nat) (fr:List Int),(nW tm key low ps j fr).length<=fr.length
 | _,[]=>dL _
 | j,i::fr=>by have:=Mn tm key low ps (j+1) fr;unfold nW;rw[cE,fB];split <;> simp <;> omega
section
variable {P:Program} {A R:Type}
theorem aOD{C:A->Option R->Prop}(c0:∀ a,C a none)(B:{f:A->Option R // ∀ a,C a (f a)}->A->Tr P R)(ok:∀ f a,C a (B f a).den)(I:Nat->A->Prop)(Q:A->R->Prop)
  (h:∀ b f n a,I n a->(∀ m a',m<n->I m a'->Sq b (f.1 a') (Q a'))->Sq b (B f a).den (Q a)):∀ k n a,I n a->Sq (decide (n<k)) ((aPD c0 B ok k).1 a) (Q a):=by
 intro k
 induction k with
 | zero=>intro n a ha; exact⟨fun y hy=>(by cases hy),fun hb=>by simp at hb⟩
 | succ k ih=>intro n a ha;refine h _ _ n a ha fun m a' hm ha'=>?_;have h1:=ih m a' ha';exact⟨h1.1,fun hb=>h1.2 (by grind)⟩
theorem Hm{C:A->Option R->Prop}(c0:∀ a,C a none)(B:{f:A->Option R // ∀ a,C a (f a)}->A->Tr P R)(ok:∀ f a,C a (B f a).den)(I:Nat->A->Prop)(Q:A->R->Prop)
  (h:∀ b f n a,I n a->(∀ m a',m<n->I m a'->Sq b (f.1 a') (Q a'))->Sq b (B f a).den (Q a))(b:Bool)(n:Nat)(a:A)(ha:I n a):Sq b (sG c0 B ok a) (Q a):=by
 have h1:=aOD c0 B ok I Q h;unfold sG Lim;split
 ·rename_i hh;obtain⟨k,hk⟩:=hh.choose_spec;exact aA.2 ((h1 k n a ha).1 _ hk)
 ·rename_i hh;exfalso;have h2:=h1 (n+1) n a ha;obtain⟨y,hy⟩:=Ck.1 (h2.2 (by simp));simp_all
end
theorem jN{S R:Type}{b:Bool}{bd:S->Option (S⊕R)}(idx:S->Int)(N:Nat)(hN:N<=1000000000000000)(I:S->Prop){Q:R->Prop}
  (h:∀ s (k:Nat),I s->idx s=k->k<=N->Sq b (bd s) (sel (fun s'=>idx s'=IntKind.i64.wrap ((k:Int)+1)/\k<N/\I s') Q)){s:S}(hs:I s)(h0:idx s=0):Sq b (cK bd s) Q:=by
 refine Sq.while (fun s=>I s/\∃ k:Nat,idx s=k/\k<=N) (fun s=>N-(idx s).toNat) (fun s hs=>?_) ⟨hs,0,h0,by omega⟩;obtain⟨hI,k,hk,hkN⟩:=hs;refine(h s k hI hk hkN).imp fun z hz=>?_;cases z with
 | inr r=>exact hz
 | inl s'=>obtain⟨q1,q2,q3⟩:=hz;rw[aL (by omega)]at q1;exact⟨⟨q3,k+1,q1,by omega⟩,by omega⟩
inductive OkE (fs:List aI):Nat->Nat->Nat->bB->Prop
 | mk {nc np h:Nat} {e:bB} (k:Nat) (hm:Nat->Nat) (hs:e.S.size<=1048576) (hl:e.Args.length<=1048576) (ho:0<=e.Op/\e.Op<=22)
   (hlt:∀ i,hm i<h) (hA:∀ i,i<e.Args.length->OkE fs nc np (hm i) (e.Args.getD i default))
   (c3:e.Op=3->0<=e.N/\e.N<nc) (c4:e.Op=4->0<=e.N/\e.N<np) (c1:e.Op=6\/e.Op=7\/e.Op=20->1<=e.Args.length) (c2:8<=e.Op/\e.Op<=19->2<=e.Args.length)
   (c21:e.Op=21->3<=e.Args.length) (c22:e.Op=22->0<=e.N/\e.N<fs.length/\k<h) (hb:e.Op=22->OkE fs 0 e.Args.length k (fs.getD e.N.toNat default).Body):OkE fs nc np h e
def Sm(v:aE):Prop:=v.S.size<=1073741824
structure OkF (fs:List aI)(nc np:Nat)(f:fD):Prop where
 fs:f.funcs_=fs
 nc:f.row_.length=nc
 np:f.params_.length=np
 row:∀ v,v∈f.row_->Sm v
 params:∀ v,v∈f.params_->Sm v
theorem tX(n:Int):Sm (vI n):=by show (0:Nat)<=_; omega
theorem Ch(b:Bool):Sm (vB b):=by show (0:Nat)<=_; omega
theorem vN{l:List aE}(h:∀ v,v∈l->Sm v){i:Nat}(hi:i<l.length):Sm (l.getD i default):=h _ (aT hi)
theorem lU{c:Prop}[Decidable c]{x y:aE}(hx:Sm x)(hy:Sm y):Sm (if c then x else y):=by split <;> assumption
theorem mM(op:Int)(a b:aE):Sm (bop op a b):=by unfold bop;refine lU (tX _) (lU (tX _) (lU (tX _) (lU (lU (tX _) (tX _)) (lU (lU (tX _) (tX _)) (lU (Ch _) (lU (Ch _) (lU (Ch _) (lU (Ch _) (lU (Ch _) (lU (Ch _) ?_))))))))));show ((a.S++b.S).extract 0 (min 200 (a.S.size+b.S.size))).size<=1073741824;rw[ByteArray.size_extract]; omega
theorem aCM(fs:List aI)(nc np n:Nat)(f:fD)(e:bB)(hf:OkF fs nc np f)(he:OkE fs nc np n e):Sp (Ny f e) Sm:=by
 refine Hm (C:=fun (a:fD×bB) (x:Option (aE))=>Con Proofs.Tryz.prog 171 [.t (iQ a.1),.t (cQ a.2)] x (fun (y:aE)=>.t (cH y))) (fun a=>⟨bL Proofs.Tryz.func171 (by rfl),fun _ h=>nomatch h⟩) (fun rec a=>zY rec a.1 a.2) (fun rec a=>yL rec a.1 a.2)
  (fun n a=>∃ fs nc np,OkF fs nc np a.1/\OkE fs nc np n a.2) (fun _=>Sm) (fun b r n a ha hrec=>?_) true n (f,e) ⟨fs,nc,np,hf,he⟩
 clear hf he fs nc np f e;obtain⟨f,e⟩:=a;obtain⟨fs,nc,np,hf,he⟩:=ha;simp only at hf he ⊢;have hfun:=hf.fs;cases he with
 | mk k' hm hs hl ho hlt hA c3 c4 c1 c2 c21 c22 hb=>
 have hr:∀ i,i<e.Args.length->Sq b (r.1 (f,e.Args.getD i default)) Sm:=fun i hi=>hrec _ _ (hlt i) ⟨fs,nc,np,hf,hA i hi⟩;unfold zY;by_cases h21:e.Op=21
 ·have hl3:=c21 h21;simp only[h21,Tr.den];rw[aB (by decide),aB (by omega)];refine Sq.bind _ (hr 0 (by omega)) fun v1 _=>?_;grind
 ·simp only[Tr.den];rw[aF (by simp_all)];refine cD.2 (jN (fun s:List aE×Int=>s.2) e.Args.length (by omega) (fun s=>(s.1.length:Int)=s.2/\∀ v,v∈s.1->Sm v) (fun s k hI hk hkN=>?_) ⟨rfl,fun v hv=>by cases hv⟩ rfl);obtain⟨b6,v5⟩:=s;obtain⟨hbl,hbs⟩:=hI;simp only at hk hbl hbs;subst hk;unfold zS;simp only[Tr.den,aS];by_cases hc:k<e.Args.length
  ·rw[aB (bI (by omega)),aB (by omega)];refine Sq.bind _ (hr k hc) fun v hv=>?_;rw[aB (by grind)];refine aA.2 ⟨rfl,hc,?_,fun u hu=>?_⟩
   ·simp only[cE,wH]; rw[aL (by omega)]; omega
   grind
  ·rw[aF (bJ (by omega))];refine aA.2 ?_;have hbe:b6.length=e.Args.length:=by omega
   show Sq b _ Sm;simp only[sel];have z0:(0:Int).toNat=0:=rfl;have z1:(1:Int).toNat=1:=rfl;have hop:e.Op=0\/e.Op=1\/e.Op=2\/e.Op=3\/e.Op=4\/e.Op=5\/e.Op=6\/e.Op=7\/e.Op=20\/e.Op=22\/(8<=e.Op/\e.Op<=19):=by omega
   rcases hop with h | h | h | h | h | h | h | h | h | h | h
   ·rw[aB (by rw[h]; rfl),gK]; exact aA.2 (tX _)
   ·simp (decide:=true) only[h,↓reduceIte];exact aA.2 (by show e.S.size<=_; omega)
   ·simp (decide:=true) only[h,↓reduceIte,iS];exact aA.2 (Ch _)
   ·have:=c3 h;have hn:=hf.nc;simp (decide:=true) only[h,↓reduceIte];rw[aB (by omega)];exact aA.2 (vN hf.row (by omega))
   ·have:=c4 h;have hn:=hf.np;simp (decide:=true) only[h,↓reduceIte];rw[aB (by omega)];exact aA.2 (vN hf.params (by omega))
   ·simp (decide:=true) only[h,↓reduceIte,gK];exact aA.2 (tX _)
   ·have:=c1 (by omega);simp (decide:=true) only[h,↓reduceIte,iS];rw[aB ⟨trivial,by omega⟩,aB (by omega)];exact aA.2 (Ch _)
   ·have:=c1 (by omega);simp (decide:=true) only[h,↓reduceIte,gK];rw[aB ⟨trivial,by omega⟩,aB (by omega)];exact aA.2 (tX _)
   ·have:=c1 (by omega);simp (decide:=true) only[h,↓reduceIte,gK];rw[aB ⟨trivial,by omega⟩,aB (by omega)];exact aA.2 (tX _)
   ·have hc2:=c22 h;simp (decide:=true) only[h,↓reduceIte];rw[aB (by simp_all)];rw[hfun];refine Sq.bind _ (hrec k' (_,_) hc2.2.2 ⟨fs,0,e.Args.length,⟨rfl,rfl,hbe,fun v hv=>(by cases hv),hbs⟩,hb h⟩) fun v hv=>aA.2 hv
   ·have h2:=c2 h;have p0:Sm (b6.getD 0 default):=vN hbs (by omega);have p1:Sm (b6.getD 1 default):=vN hbs (by omega);have d0:(0:Int)<=0/\(0:Int)<(b6.length:Int):=⟨by omega,by omega⟩;have d1:(0:Int)<=1/\(1:Int)<(b6.length:Int):=⟨by omega,by omega⟩;have d2:0<b6.length:=by omega
    have d3:1<b6.length:=by omega
    have hop:e.Op=8\/e.Op=9\/e.Op=10\/e.Op=11\/e.Op=12\/e.Op=13\/e.Op=14\/e.Op=15\/e.Op=16\/e.Op=17\/e.Op=18\/e.Op=19:=by omega
    rcases hop with h | h | h | h | h | h | h | h | h | h | h | h
    ·simp (decide:=true) only[h,↓reduceIte];change Sq b (((some 225:Option Nat).bind _).bind _) Sm;simp only[aH,Tr.den,z0,z1];rw[aB ⟨trivial,by omega⟩,aB d2,aB ⟨trivial,by omega⟩,aB d3,Qz];exact aA.2 (mM 8 (b6.getD 0 default) (b6.getD 1 default))
    ·simp (decide:=true) only[h,↓reduceIte];change Sq b (((some 226:Option Nat).bind _).bind _) Sm;simp only[aH,Tr.den,z0,z1];rw[aB ⟨trivial,by omega⟩,aB d2,aB ⟨trivial,by omega⟩,aB d3,Ps];exact aA.2 (mM 9 (b6.getD 0 default) (b6.getD 1 default))
    ·simp (decide:=true) only[h,↓reduceIte];change Sq b (((some 227:Option Nat).bind _).bind _) Sm;simp only[aH,Tr.den,z0,z1];rw[aB ⟨trivial,by omega⟩,aB d2,aB ⟨trivial,by omega⟩,aB d3,Qx];exact aA.2 (mM 10 (b6.getD 0 default) (b6.getD 1 default))
    ·simp (decide:=true) only[h,↓reduceIte];change Sq b (((some 228:Option Nat).bind _).bind _) Sm;simp only[aH,Tr.den,z0,z1];rw[aB ⟨trivial,by omega⟩,aB d2,aB ⟨trivial,by omega⟩,aB d3,Qh];exact aA.2 (mM 11 (b6.getD 0 default) (b6.getD 1 default))
    ·simp (decide:=true) only[h,↓reduceIte];change Sq b (((some 229:Option Nat).bind _).bind _) Sm;simp only[aH,Tr.den,z0,z1];rw[aB ⟨trivial,by omega⟩,aB d2,aB ⟨trivial,by omega⟩,aB d3,Ru];exact aA.2 (mM 12 (b6.getD 0 default) (b6.getD 1 default))
    ·simp (decide:=true) only[h,↓reduceIte];change Sq b (((some 230:Option Nat).bind _).bind _) Sm;simp only[aH,Tr.den,z0,z1];rw[aB ⟨trivial,by omega⟩,aB d2,aB ⟨trivial,by omega⟩,aB d3,Dy];exact aA.2 (mM 13 (b6.getD 0 default) (b6.getD 1 default))
    ·simp (decide:=true) only[h,↓reduceIte];change Sq b (((some 231:Option Nat).bind _).bind _) Sm;simp only[aH,Tr.den,z0,z1];rw[aB ⟨trivial,by omega⟩,aB d2,aB ⟨trivial,by omega⟩,aB d3,No];exact aA.2 (mM 14 (b6.getD 0 default) (b6.getD 1 default))
    ·simp (decide:=true) only[h,↓reduceIte];change Sq b (((some 232:Option Nat).bind _).bind _) Sm;simp only[aH,Tr.den,z0,z1];rw[aB ⟨trivial,by omega⟩,aB d2,aB ⟨trivial,by omega⟩,aB d3,Oz];exact aA.2 (mM 15 (b6.getD 0 default) (b6.getD 1 default))
    ·simp (decide:=true) only[h,↓reduceIte];change Sq b (((some 233:Option Nat).bind _).bind _) Sm;simp only[aH,Tr.den,z0,z1];rw[aB ⟨trivial,by omega⟩,aB d2,aB ⟨trivial,by omega⟩,aB d3,Rx];exact aA.2 (mM 16 (b6.getD 0 default) (b6.getD 1 default))
    ·simp (decide:=true) only[h,↓reduceIte];change Sq b (((some 234:Option Nat).bind _).bind _) Sm;simp only[aH,Tr.den,z0,z1];rw[aB ⟨trivial,by omega⟩,aB d2,aB ⟨trivial,by omega⟩,aB d3,Rw];exact aA.2 (mM 17 (b6.getD 0 default) (b6.getD 1 default))
    ·simp (decide:=true) only[h,↓reduceIte];change Sq b (((some 235:Option Nat).bind _).bind _) Sm;simp only[aH,Tr.den,z0,z1];rw[aB ⟨trivial,by omega⟩,aB d2,aB ⟨trivial,by omega⟩,aB d3,Oe];exact aA.2 (mM 18 (b6.getD 0 default) (b6.getD 1 default))
    ·simp (decide:=true) only[h,↓reduceIte];change Sq b (((some 236:Option Nat).bind _).bind _) Sm;simp only[aH,Tr.den,z0,z1];rw[aB ⟨trivial,by omega⟩,aB d2,aB ⟨trivial,by omega⟩,aB d3,aDI _ (by have q0:=p0; have q1:=p1; unfold Sm at q0 q1; grind)];exact aA.2 (mM 19 (b6.getD 0 default) (b6.getD 1 default))
inductive OkI (ar:Nat->Nat)(n:Nat):Nat->Nat->bB->Prop
 | mk {nc np:Nat} {e:bB} (hs:e.S.size<=1048576) (hl:e.Args.length<=1048576) (ho:0<=e.Op/\e.Op<=22)
   (hA:∀ i,i<e.Args.length->OkI ar n nc np (e.Args.getD i default))
   (c3:e.Op=3->0<=e.N/\e.N<nc) (c4:e.Op=4->0<=e.N/\e.N<np) (c1:e.Op=6\/e.Op=7\/e.Op=20->1<=e.Args.length) (c2:8<=e.Op/\e.Op<=19->2<=e.Args.length)
   (c21:e.Op=21->3<=e.Args.length) (c22:e.Op=22->0<=e.N/\e.N<n/\e.Args.length=ar e.N.toNat):OkI ar n nc np e
theorem Mu(f:Nat->Nat):∀ n,∃ H,∀ i,i<n->f i<H
 | 0=>⟨0,fun i hi=>absurd hi (sX i)⟩
 | n+1=>by obtain⟨H,hH⟩:=Mu f n;refine⟨H+f n+1,fun i hi=>?_⟩;grind
theorem aZD(hB:∀ i,i<fs.length->OkI (fun k=>(fs.getD k default).Params.length) i 0 (fs.getD i default).Params.length (fs.getD i default).Body):
  ∀ j,j<=fs.length->∀ nc np e,OkI (fun k=>(fs.getD k default).Params.length) j nc np e->∃ h,OkE fs nc np h e:=by
 intro j
 induction j using Nat.strongRecOn with
 | _ j ih=>
  intro hj nc np e he
  induction he with
  | @mk e hs hl ho hA c3 c4 c1 c2 c21 c22 ihA=>
   have hc:∀ i,∃ h,i<e.Args.length->OkE fs nc np h (e.Args.getD i default):=fun i=>by
    by_cases hi:i<e.Args.length
    ·simp_all
    ·exact⟨0,fun h=>absurd h hi⟩
   let hm:Nat->Nat:=fun i=>if i<e.Args.length then (hc i).choose else 0
   have hmA:∀ i,i<e.Args.length->OkE fs nc np (hm i) (e.Args.getD i default):=fun i hi=>by grind
   obtain⟨H,hH⟩:=Mu hm e.Args.length;obtain⟨k,hk⟩:∃ k,e.Op=22->OkE fs 0 e.Args.length k (fs.getD e.N.toNat default).Body:=by
    by_cases h22:e.Op=22
    ·grind
    simp_all
   refine⟨H+k+1,.mk k hm hs hl ho (fun i=>?_) hmA c3 c4 c1 c2 c21 (fun h=>?_) hk⟩
   all_goals grind
theorem Dl(n:Int):bAD n=some (decide (0<=n/\n<3)):=by
 by_cases h:0<=n
 ·simp[bAD,aYC,Tr.den,h]
 ·simp[bAD,aYC,Tr.den,h]
def aJV(op:Int):Int:=
 if 0<=op/\op<=5 then 0 else if op=6\/op=7\/op=20 then 1 else if op=21 then 3 else if op=22 then -1 else if 5<op/\op<21 then 2 else -1
theorem aBC(op:Int):bCQ op=some (aJV op):=by
 have hs:op=0\/op=1\/op=2\/op=3\/op=4\/op=5\/op=6\/op=7\/op=20\/op=21\/op=22\/(op<0\/(8<=op/\op<=19)\/22<op):=by omega
 rcases hs with h | h | h | h | h | h | h | h | h | h | h | h
 iterate 11 (subst h; rfl)
 have n0:(op==0)=false:=by simp; omega
 have n1:(op==1)=false:=by simp; omega
 have n2:(op==2)=false:=by simp; omega
 have n3:(op==3)=false:=by simp; omega
 have n4:(op==4)=false:=by simp; omega
 have n5:(op==5)=false:=by simp; omega
 have n6:(op==6)=false:=by simp; omega
 have n7:(op==7)=false:=by simp; omega
 have n20:(op==20)=false:=by simp; omega
 have n21:(op==21)=false:=by simp; omega
 have n22:(op==22)=false:=by simp; omega
 have q1:¬ (0<=op/\op<=5):=by omega
 have q2:¬ (op=6\/op=7\/op=20):=by omega
 have q3:¬ op=21:=by omega
 have q4:¬ op=22:=by omega
 unfold bCQ bGG aJV;rw[aF q1,aF q2,aF q3,aF q4];simp only[Tr.den,n0,n1,n2,n3,n4,n5,n6,n7,n20,n21,n22,aH,cM,cI];grind
theorem aBM(l:List Int)(n:Int):Sp (aKS l n) (fun r=>r.2=true->0<=n/\n<l.length):=by
 unfold aKS aUM;simp only[Tr.den];by_cases h1:n<0
 ·rw[aB (bI h1)];exact aA.2 (fun h=>by cases h)
 ·rw[aF (bJ h1)];by_cases h2:n>=(l.length:Int)
  ·simp only[aH,rM h2,fZ];exact aA.2 (fun h=>by cases h)
  ·simp only[aH,kN h2,cM,cI];rw[aB (by omega),aB (by omega),Dl];exact aA.2 (fun _=>by omega)
theorem aZA(fs:List aI)(n:Int)(l:List Int)(hl:l.length<=1048576):Sp (aMA fs n l) (fun r=>r.2=true->0<=n/\n<fs.length/\l.length=(fs.getD n.toNat default).Params.length):=by
 unfold aMA aWC;simp only[Tr.den];by_cases h1:n<0
 ·rw[aB (bI h1)];exact aA.2 (fun h=>by cases h)
 ·rw[aF (bJ h1)];by_cases h2:n>=(fs.length:Int)
  ·simp only[aH,rM h2,fZ];exact aA.2 (fun h=>by cases h)
  ·simp only[aH,kN h2,cM,cI];rw[aB (by omega)];by_cases h3:((fs.getD n.toNat default).Params.length:Int)=(l.length:Int)
   ·rw[aF (by simp_all)];refine cD.2 (jN (fun s:Int=>s) l.length (by omega) (fun _=>True) (fun s k _ hk hkN=>?_) trivial rfl);subst hk;unfold Nl;simp only[Tr.den,aS];by_cases hc:k<l.length
    ·rw[aB (bI (by omega)),aB (by omega),aB (by omega)];split
     ·exact aA.2 (aA.2 (fun h=>by cases h))
     ·exact aA.2 ⟨rfl,hc,trivial⟩
    ·rw[aF (bJ (by omega))];exact aA.2 (aA.2 (fun _=>by omega))
   ·rw[aB (by simp_all)];exact aA.2 (fun h=>by cases h)
theorem Sq.of{α:Type}{b:Bool}{x:Option α}{Q:α->Prop}(h:Sp x Q):Sq b x Q:=⟨h.1,fun _=>h.2 rfl⟩
inductive vX:bB->Prop
 | mk {e:bB} (hs:e.S.size<=1048576) (hl:e.Args.length<=1048576) (hA:∀ i,i<e.Args.length->vX (e.Args.getD i default)):vX e
theorem tU{x:bB}(h:x∈e.Args):SizeOf.sizeOf x<SizeOf.sizeOf e:=by
 cases e with
 | mk a b s l=>have:=List.sizeOf_lt_of_mem h;simp only[bB.Args]at this;grind
abbrev arF (fs:List aI)(k:Nat):Nat:=(fs.getD k default).Params.length
theorem aYP(fs:List aI)(cs ps:List Int)(e:bB)(he:vX e):Sp (bFT fs cs ps e) (fun r=>r.2=true->OkI (arF fs) fs.length cs.length ps.length e):=by
 refine mB (C:=fun (a:(List aI)×(List Int)×(List Int)×bB) (x:Option (Int×Bool))=>Con Proofs.Tryz.prog 212 [.t (eL aV (a.1)),.t (eL bK (a.2.1)),.t (eL bK (a.2.2.1)),.t (cQ a.2.2.2)] x (fun (y:Int×Bool)=>.tup [.t (.int .i64 (y.1)),.t (.bool (y.2))])) (fun a=>⟨bL Proofs.Tryz.func212 (by rfl),fun _ h=>nomatch h⟩) (fun rec a=>Xs rec a.1 a.2.1 a.2.2.1 a.2.2.2) (fun rec a=>Px rec a.1 a.2.1 a.2.2.1 a.2.2.2)
  (fun a=>vX a.2.2.2) (fun a=>SizeOf.sizeOf a.2.2.2) (fun a r=>r.2=true->OkI (arF a.1) a.1.length a.2.1.length a.2.2.1.length a.2.2.2) (fun b r a ha hrec=>?_) true (fs,cs,ps,e) he
 clear he fs cs ps e;obtain⟨fs,cs,ps,e⟩:=a;simp only at ha hrec ⊢;cases ha with
 | mk hs hl hA=>
 have hr:∀ i,i<e.Args.length->Sq b (r.1 (fs,cs,ps,e.Args.getD i default)) (fun r=>r.2=true->OkI (arF fs) fs.length cs.length ps.length (e.Args.getD i default)):=fun i hi=>hrec _ (hA i hi) (tU (aT hi));unfold Xs;simp only[Tr.den];refine cD.2 (jN (fun s:List Int×Int=>s.2) e.Args.length (by omega) (fun s=>(s.1.length:Int)=s.2/\∀ i:Nat,(i:Int)<s.2->OkI (arF fs) fs.length cs.length ps.length (e.Args.getD i default)) (fun s k hI hk hkN=>?_) ⟨rfl,fun i hi=>absurd hi (by omega)⟩ rfl);obtain⟨b3,v2⟩:=s;obtain⟨hbl,hbs⟩:=hI;simp only at hk hbl hbs;subst hk;unfold Rg;simp only[Tr.den,aS];by_cases hc:k<e.Args.length
 ·rw[aB (bI (by omega)),aB (by omega)];refine Sq.bind _ (hr k hc) fun v hv=>?_;by_cases hv2:v.2=true
  ·rw[aF (by simp_all),aB (by grind)];refine aA.2 ⟨rfl,hc,?_,fun i hi=>?_⟩
   ·simp only[cE,wH]; rw[aL (by omega)]; omega
   ·simp only at hi;rw[aL (by omega)]at hi;grind
  ·rw[aB (by simp_all)];exact aA.2 (aA.2 (fun h=>by cases h))
 ·rw[aF (bJ (by omega))];refine aA.2 ?_;have hbe:b3.length=e.Args.length:=by omega
  have hA':∀ i,i<e.Args.length->OkI (arF fs) fs.length cs.length ps.length (e.Args.getD i default):=fun i hi=>hbs i (by omega);simp only[sel];refine Sq.bind (fun s:List Int×Bool=>s.1=b3) (by split <;> exact aA.2 rfl) (fun s hsb=>?_);obtain⟨j5,j6⟩:=s;simp only at hsb;subst hsb;cases j6 with
  | true=>exact aA.2 (fun h=>by cases h)
  | false=>
   simp only[cM,cI];by_cases h22:e.Op=22
   ·rw[aB (by rw[h22]; rfl)];refine Sq.bind _ (Sq.of (aZA fs e.N j5 (by omega))) fun r hr=>aA.2 (fun h=>?_);have h3:=hr h;exact .mk hs hl (by omega) hA' (fun h=>by omega) (fun h=>by omega) (fun h=>by omega) (fun h=>by omega) (fun h=>by omega) (fun _=>⟨h3.1,h3.2.1,by grind⟩)
   ·rw[aF (by simp_all),aBC];simp only[aH];by_cases hN:aJV e.Op=(j5.length:Int)
    ·rw[aF (by simp_all)];have hh:(0<=e.Op/\e.Op<=21)/\(e.Op=6\/e.Op=7\/e.Op=20->1<=j5.length)/\(8<=e.Op/\e.Op<=19->2<=j5.length)/\(e.Op=21->3<=j5.length):=by unfold aJV at hN;omega
     obtain⟨ho,c1,c2,c21⟩:=hh;have fin:(e.Op=3->0<=e.N/\e.N<cs.length)->(e.Op=4->0<=e.N/\e.N<ps.length)->OkI (arF fs) fs.length cs.length ps.length e:=fun c3 c4=>
      .mk hs hl (by omega) hA' c3 c4 (fun h=>by omega) (fun h=>by omega) (fun h=>by omega) (fun h=>absurd h h22)
     clear hN;by_cases h3:e.Op=3
     ·simp (decide:=true) only[h3,↓reduceIte];refine Sq.bind _ (Sq.of (aBM cs e.N)) fun r hr=>aA.2 (fun h=>fin (fun _=>hr h) (fun h=>by omega))
     by_cases h4:e.Op=4
     ·simp (decide:=true) only[h4,↓reduceIte];refine Sq.bind _ (Sq.of (aBM ps e.N)) fun r hr=>aA.2 (fun h=>fin (fun h=>by omega) (fun _=>hr h))
     have fin':=fin (fun h=>absurd h h3) (fun h=>absurd h h4);by_cases hu:e.Op=0\/e.Op=1\/e.Op=2\/e.Op=5
     ·rcases hu with h | h | h | h
      all_goals simp (decide:=true) only[h,↓reduceIte]
      all_goals repeat' (first | exact aA.2 (fun _=>fin') | split)
     by_cases hu1:e.Op=6\/e.Op=7\/e.Op=20
     ·have g0:(0:Int)<(j5.length:Int):=by omega
      have g0':Int.toNat 0<j5.length:=by omega
      rcases hu1 with h | h | h
      all_goals simp (decide:=true) only[h,g0,g0',nG,↓reduceIte]
      all_goals repeat' (first | exact aA.2 (fun _=>fin') | split)
     have l2:2<=j5.length:=by omega
     have g0:(0:Int)<(j5.length:Int):=by omega
     have g0':Int.toNat 0<j5.length:=by omega
     have g1:(1:Int)<(j5.length:Int):=by omega
     have g1':Int.toNat 1<j5.length:=by omega
     have hop:e.Op=8\/e.Op=9\/e.Op=10\/e.Op=11\/e.Op=12\/e.Op=13\/e.Op=14\/e.Op=15\/e.Op=16\/e.Op=17\/e.Op=18\/e.Op=19\/e.Op=21:=by omega
     rcases hop with h | h | h | h | h | h | h | h | h | h | h | h | h
     iterate 12
      ·simp (decide:=true) only[h,g0,g0',g1,g1',nG,↓reduceIte,aH]
       repeat' (first | exact aA.2 (fun _=>fin') | split)
     have l3:=c21 h;have g2:(2:Int)<(j5.length:Int):=by omega
     have g2':Int.toNat 2<j5.length:=by omega
     simp (decide:=true) only[h,g0,g0',g1,g1',g2,g2',nG,↓reduceIte,aH]
     repeat' (first | exact aA.2 (fun _=>fin') | split)
    ·rw[aB (by simp_all)];exact aA.2 (fun h=>by cases h)
theorem aED(e:bB)(h:vX e):Sp (G80 e) (fun _=>True):=by
 refine mB (C:=fun (a:bB) (x:Option (Int))=>Con Proofs.Tryz.prog 130 [.t (cQ a)] x (fun (y:Int)=>.t (.int .i64 (y)))) (fun a=>⟨bL Proofs.Tryz.func130 (by rfl),fun _ h=>nomatch h⟩) (fun rec a=>T80 rec a) (fun rec a=>Zj rec a)
  vX (fun e=>SizeOf.sizeOf e) (fun _ _=>True) (fun b f e he hrec=>?_) true e h
 cases he with
 | mk hs hl hA=>
 unfold T80;simp only[Tr.den,cD];refine jN (fun s:Int×Int=>s.2) e.Args.length (by omega) (fun _=>True) (fun s k _ hk hkN=>?_) trivial rfl;obtain⟨v1,v2⟩:=s;simp only at hk;subst hk;unfold Zv;simp only[Tr.den,aS];by_cases hc:k<e.Args.length
 ·rw[aB (bI (by omega)),aB (by omega)];refine Sq.bind _ (hrec _ (hA k hc) (tU (aT hc))) fun r _=>aA.2 ⟨rfl,hc,trivial⟩
 ·rw[aF (bJ (by omega))];exact aA.2 (aA.2 trivial)
theorem Hi(fs:List aI)(cs ps:List Int)(e:bB)(he:vX e):Sp (De fs cs ps e) (fun r=>r.2=true->OkI (arF fs) fs.length cs.length ps.length e):=by
 unfold De aVE;simp only[Tr.den];refine Sq.bind _ (aED e he) fun r _=>?_;split
 ·exact aA.2 (fun h=>by cases h)
 ·refine Sq.bind _ (aYP fs cs ps e he) fun r2 h2=>?_;split
  ·exact aA.2 (fun h=>by cases h)
  ·rename_i h3;exact aA.2 (fun _=>h2 (by simp_all))
theorem aMH(fs:List aI)(hl:fs.length<=1048576)(hb:∀ i,i<fs.length->vX (fs.getD i default).Body/\(fs.getD i default).Params.length<=1048576):
  Sp (G82 fs) (fun ok=>ok=true->fs.length<=20/\∀ i,i<fs.length->OkI (arF (fs.take i)) (fs.take i).length 0 (fs.getD i default).Params.length (fs.getD i default).Body):=by
 unfold G82 T82;simp only[Tr.den];refine cD.2 (jN (fun s:Int=>s) fs.length (by omega) (fun s=>∀ i:Nat,(i:Int)<s->OkI (arF (fs.take i)) (fs.take i).length 0 (fs.getD i default).Params.length (fs.getD i default).Body) (fun s k hI hk hkN=>?_) (fun i hi=>absurd hi (by omega)) rfl);subst hk;unfold Zf;simp only[Tr.den,aS];by_cases hc:k<fs.length
 ·rw[aB (bI (by omega))];by_cases h20:(k:Int)<=20
  ·simp only[aH,rM h20,fZ];rw[aB (by omega)];have hp:=(hb k hc).2;refine cD.2 (jN (fun s:Int=>s) (fs.getD k default).Params.length (by omega) (fun _=>True) (fun s m _ hm hmN=>?_) trivial rfl);subst hm;unfold Zz;simp only[Tr.den,aS];by_cases hm:m<(fs.getD k default).Params.length
   ·rw[aB (bI (by omega)),aB (by omega),Dl];simp only[aH];split
    ·exact aA.2 (aA.2 (aA.2 (fun h=>by cases h)))
    ·exact aA.2 ⟨rfl,hm,trivial⟩
   ·rw[aF (bJ (by omega))];refine aA.2 ?_;simp only[sel];rw[aB ⟨by omega,by omega,by omega⟩];have e1:(fs.drop (Int.toNat 0)).take ((k:Int)-0).toNat=fs.take k:=by rfl
    rw[e1,aB ⟨by omega,by omega,by omega⟩];refine Sq.bind _ (Sq.of (Hi (fs.take k) [] (fs.getD k default).Params (fs.getD k default).Body (hb k hc).1)) fun r5 h5=>?_;by_cases ho:r5.2=true
    ·rw[aF (by simp_all)];refine Sq.bind (fun _=>True) (by split <;> exact aA.2 trivial) fun j6 _=>?_;cases j6 with
     | true=>exact aA.2 (aA.2 (fun h=>by cases h))
     | false=>
      refine aA.2 ⟨rfl,hc,fun i hi=>?_⟩;rw[aL (by omega)]at hi;rcases Nat.lt_or_ge i k with h | h
      ·simp_all
      ·have:i=k:=by omega
       simp_all
    ·rw[aB (by simp_all)];exact aA.2 (aA.2 (fun h=>by cases h))
  ·simp only[aH,kN h20,cM,cI];refine aA.2 (aA.2 (fun h=>?_));grind
 ·rw[aF (bJ (by omega))];simp only[aH,cM,cI];refine aA.2 (aA.2 (fun h=>⟨by grind,fun i hi=>hI i (by omega)⟩))
theorem OkI.congr{ar ar':Nat->Nat}{n:Nat}(h:∀ k,k<n->ar k=ar' k){nc np:Nat}(he:OkI ar n nc np e):OkI ar' n nc np e:=by
 induction he with
 | @mk e hs hl ho hA c3 c4 c1 c2 c21 c22 ih=>exact .mk hs hl ho ih c3 c4 c1 c2 c21 (fun h22=>by simp_all)
theorem aOG{i:Nat}(h:k<i):arF (fs.take i) k=arF fs k:=by unfold arF;rw[eU,eU,wJ,aB h]
theorem Kt(hl:fs.length<=1048576)(hb:∀ i,i<fs.length->vX (fs.getD i default).Body/\(fs.getD i default).Params.length<=1048576)(h:G82 fs=some true)
  {cs ps:List Int}(he:vX e){t:Int}(ht:De fs cs ps e=some (t,true)):∃ h,OkE fs cs.length ps.length h e:=by
 have h1:=(aMH fs hl hb).1 _ h rfl;refine aZD (fun i hi=>?_) fs.length (dL _) _ _ e ((Hi fs cs ps e he).1 _ ht rfl);have h2:=h1.2 i hi;rw[gO,Nat.min_eq_left (by omega)]at h2;exact h2.congr (fun k hk=>aOG hk)
section
variable {α:Type} [Inhabited α] (tm:α->Int) (nx:Int->α->Int) (hit:Int->Bool) (sz bg:Int)
def isM(t0 now:Int)(l:List α):Bool:=decide (tm (l.getLastD default)-t0<sz)&&hit (l.foldl nx now)
theorem Sx(h0:∀ q,nx 0 q=0)(hh:hit 0=false)(t0 i:Int)(hi:0<=i):∀ (now:Int) (qs:List α) (fs:List Int) (k:Nat),fs.length=qs.length->k<qs.length->qs.Pairwise (fun x y=>tm x<=tm y) ->
  (nR tm nx hit sz t0 i now qs fs).getD k default=if isM tm nx hit sz t0 now (qs.take (k+1))=true/\fs.getD k default<0 then i else fs.getD k default
 | now,[],_,k,_,hk,_=>by simp at hk
 | now,q::qs,[],k,hl,hk,_=>by simp at hl
 | now,q::qs,f::fs,k,hl,hk,hs=>by
  have hs':=iZ.1 hs;have zero:∀ l:List α,l.foldl nx 0=0:=by
   intro l
   induction l with
   | nil=>rfl
   | cons a l ih=>rw[kD,h0,ih]
  unfold nR;by_cases hc:tm q-t0<sz/\now≠0
  ·rw[aB hc];cases k with
   | zero=>simp only[List.getD_cons_zero,Jm,List.take_zero];unfold isM;simp_all
   | succ k=>
    simp only[List.getD_cons_succ];have hk':k<qs.length:=by simp_all
    rw[Sx h0 hh t0 i hi (nx now q) qs fs k (by simp_all) hk' hs'.2];have e:isM tm nx hit sz t0 now ((q::qs).take (k+1+1))=isM tm nx hit sz t0 (nx now q) (qs.take (k+1)):=by
     unfold isM;rw[Jm,kD];have hne:qs.take (k+1)≠[]:=by intro h; simp_all
     obtain⟨a,b,hab⟩:=Fb hne;rw[hab]; rfl
    rw[e]
  ·rw[aF hc];have e:isM tm nx hit sz t0 now ((q::qs).take (k+1))=false:=by unfold isM;grind
   rw[e,aF (by simp)]
def oO:Int->List α->Nat->Int
 | _,[],_=>-1
 | i,q::qs,0=>if isM tm nx hit sz (tm q) bg [q]=true then i else -1
 | i,q::qs,k+1=>if isM tm nx hit sz (tm q) bg ((q::qs).take (k+1+1))=true then i else oO (i+1) qs k
theorem zK(h0:∀ q,nx 0 q=0)(hh:hit 0=false):∀ (i:Int) (qs:List α) (fs:List Int) (k:Nat),0<=i->fs.length=qs.length->k<qs.length->qs.Pairwise (fun x y=>tm x<=tm y)->(fs.getD k default<0->fs.getD k default = -1) ->
  (xR tm nx hit sz bg i qs fs).getD k default=if fs.getD k default<0 then oO tm nx hit sz bg i qs k else fs.getD k default
 | i,[],fs,k,hi,hl,hk,hs,hf=>by simp at hk
 | i,q::qs,fs,k,hi,hl,hk,hs,hf=>by
  have hg:=Sx tm nx hit sz h0 hh (tm q) i hi bg (q::qs) fs;have hlen:=tH tm nx hit sz (tm q) i bg (q::qs) fs;unfold xR;generalize nR tm nx hit sz (tm q) i bg (q::qs) fs=st at hg hlen;cases st with
  | nil=>simp_all
  | cons f fs'=>
   simp only;cases k with
   | zero=>have h1:=hg 0 hl hk hs;simp only[List.getD_cons_zero]at h1 ⊢;rw[h1,show (q::qs).take (0+1)=[q] from rfl];unfold oO;grind
   | succ k=>
    have h1:=hg (k+1) hl hk hs;simp only[List.getD_cons_succ]at h1 ⊢;have hk':k<qs.length:=by simp_all
    have hl':fs'.length=qs.length:=by simp_all
    by_cases hm:isM tm nx hit sz (tm q) bg ((q::qs).take (k+1+1))=true
    ·by_cases hn:fs.getD (k+1) default<0
     ·rw[aB ⟨hm,hn⟩]at h1;rw[zK h0 hh (i+1) qs fs' k (by omega) hl' hk' (iZ.1 hs).2 (fun h=>by omega),h1,aF (by omega),aB hn]
      conv=>rhs; unfold oO
      rw[aB hm]
     ·rw[aF (fun h=>hn h.2)]at h1;rw[zK h0 hh (i+1) qs fs' k (by omega) hl' hk' (iZ.1 hs).2 (fun h=>by omega),h1,aF hn,aF hn]
    ·rw[aF (fun h=>hm h.1)]at h1;rw[zK h0 hh (i+1) qs fs' k (by omega) hl' hk' (iZ.1 hs).2 (fun h=>by omega),h1]
     conv=>rhs; unfold oO
     rw[aF hm]
end
end Go.PL
