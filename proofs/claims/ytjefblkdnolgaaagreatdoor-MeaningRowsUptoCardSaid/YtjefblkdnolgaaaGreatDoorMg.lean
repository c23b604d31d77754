/-
  Parts: Plain facts: numbers that wrap, lists by index, comparisons. Own work. Plain law: how values, rows and deltas are compared. Own work. The kept part of a plain-law text (strip.py). Own work. The kept part of a plain-law text (strip.py). Own work. Plain law: the stable sort of the library: insertion sort, exchanging and rotating parts. Own work. Plain law: the stable sort of the library: merging in place, and the whole. Own work. Plain law: merging in place sorts; the stable sort sorts. Own work. Plain law: the stable sort of the library sorts. Own work. The kept part of a plain-law text (strip.py). Own work. The kept part of a plain-law text (strip.py). Own work. The kept part of a plain-law text (strip.py). Own work. The kept part of a plain-law text (strip.py). Own work. The kept part of a plain-law text (strip.py). Own work. The kept part of a plain-law text (strip.py). Own work. The kept part of a plain-law text (strip.py). Own work. The kept part of a plain-law text (strip.py). Own work. The kept part of a plain-law text (strip.py). Own work. The kept part of a plain-law text (strip.py). Own work. The kept part of a plain-law text (strip.py). Own work. The kept part of a plain-law text (strip.py). Own work. The kept part of a plain-law text (strip.py). Own work. The kept part of a plain-law text (strip.py). Own work. The kept part of a plain-law text (strip.py). Own work. The kept part of a plain-law text (strip.py). Own work. The kept part of a plain-law text (strip.py). Own work.
-/
import Derived.Test.YtjefblkdnolgaaaGreatDoorMf
import Derived.Lib.Bytealg
import Derived.Lib.Strings
import Derived.Lib.ItoaLen
set_option maxHeartbeats 4000000
namespace Go.PL
open Go
variable {a i j k n:Nat} {e:bS} {fs:List aU} {l r:List aC} {x y:aC}
theorem xZ(n:Int):IntKind.i64.wrap n=(n+9223372036854775808) % 18446744073709551616-9223372036854775808:=by simp only[IntKind.wrap,IntKind.bits,IntKind.signed];simp;omega
theorem bF{n:Int}(h1:-9223372036854775808<=n)(h2:n<=9223372036854775807):IntKind.i64.wrap n=n:=by rw[xZ]; omega
theorem On(n:Int):-9223372036854775808<=IntKind.i64.wrap n/\IntKind.i64.wrap n<=9223372036854775807:=by rw[xZ]; omega
theorem aBO(n:Int):IntKind.i64.wrap (IntKind.i64.wrap n)=IntKind.i64.wrap n:=bF (On n).1 (On n).2
theorem mP(a c:Int):IntKind.i64.wrap (IntKind.i64.wrap a+c)=IntKind.i64.wrap (a+c):=by simp only[xZ]; omega
theorem Jp(a c:Int):IntKind.i64.wrap (a+IntKind.i64.wrap c)=IntKind.i64.wrap (a+c):=by simp only[xZ]; omega
theorem sM(h:n<=9223372036854775807):IntKind.i64.wrap (n:Int)=n:=bF (by omega) (by omega)
theorem aK(h:n<9223372036854775807):IntKind.i64.wrap ((n:Int)+1)=((n+1:Nat):Int):=by rw[bF] <;> omega
theorem rV(h:n<9223372036854775807):IntKind.i64.wrap (((n+1:Nat):Int)-1)=(n:Int):=by rw[bF] <;> omega
theorem eR{m:Nat}(h:m<=n)(hn:n<=9223372036854775807):IntKind.i64.wrap ((n:Int)-(m:Int))=((n-m:Nat):Int):=by rw[bF] <;> omega
theorem dP{m:Nat}(h:n+m<=9223372036854775807):IntKind.i64.wrap ((n:Int)+(m:Int))=((n+m:Nat):Int):=by rw[bF] <;> omega
theorem aHU{n:Int}(h1:0<=n)(h2:n<=9223372036854775807):IntKind.u64.wrap n=n:=by simp only[IntKind.wrap,IntKind.bits,IntKind.signed];simp;omega
theorem oV(h:i+j<=9223372036854775807):IntKind.i64.wrap (bY .u64 (IntKind.u64.wrap (IntKind.i64.wrap ((i:Int)+(j:Int)))) 1)=(((i+j) / 2:Nat):Int):=by
 rw[dP h,aHU (by omega) (by omega)];have:bY .u64 (((i+j:Nat):Int)) 1=(((i+j) / 2:Nat):Int):=by simp only[bY,IntKind.bits];rw[Int.fdiv_eq_ediv_of_nonneg _ (by decide)];simp
 rw[this,sM (by omega)]
section
variable {α:Type} [Inhabited α]
theorem bE(l r:List α)(k:Nat):(l++r).getD k default=if k<l.length then l.getD k default else r.getD (k-l.length) default:=by simp only[cG,List.getElem?_append];split <;> rfl
theorem bK{l:List α}(h:k<l.length):l.getD k default=l[k]:=by simp[h]
theorem aR{l:List α}(h:k<l.length):l.getD k default∈l:=by rw[bK h]; exact xM h
theorem fZ(l:List α)(k:Nat):l.toArray[k]! = l.getD k default:=by simp[getElem!_def]; cases l[k]? <;> rfl
theorem Fs{l r:List α}(h:l.length=r.length)(h':∀ k,k<l.length->l.getD k default=r.getD k default):l=r:=by
 apply List.ext_getElem h;intro k h1 h2;have:=h' k h1
 rwa [bK h1,bK h2]at this
theorem aL{l:List α}(h:k<l.length):l.take (k+1)=l.take k++[l.getD k default]:=by rw[bK h,List.take_succ_eq_append_getElem h]
theorem cU{l:List α}(h:k<l.length):l.drop k=l.getD k default::l.drop (k+1):=by rw[bK h,aGT h]
theorem jG(l:List α)(i k:Nat)(x:α):(l.set i x).getD k default=if k=i/\i<l.length then x else l.getD k default:=by
 simp only[cG,rL];by_cases h1:i=k
 ·subst h1;by_cases h2:i<l.length <;> simp[h2]
 ·rw[aE h1,aE (by omega)]
def pX(l:List α)(i j:Nat):List α:=(l.set i (l.getD j default)).set j (l.getD i default)
theorem sV(l:List α)(i j:Nat):(pX l i j).toArray=Sort.swp l.toArray i j:=by unfold pX Sort.swp;rw[fZ,fZ,List.setIfInBounds_toArray,List.setIfInBounds_toArray]
theorem sO(l:List α)(i j:Nat):(pX l i j).length=l.length:=by simp[pX]
theorem Ej(p:List α)(x:α)(m:List α)(y:α)(q:List α):pX (p++x::(m++y::q)) p.length (p.length+1+m.length)=p++y::(m++x::q):=by
 have e1:(p++x::(m++y::q)).getD p.length default=x:=by rw[bE,aE (by omega)]; simp
 have e2:(p++x::(m++y::q)).getD (p.length+1+m.length) default=y:=by rw[bE,aE (by omega),show p.length+1+m.length-p.length=m.length+1 by omega,List.getD_cons_succ,bE,aE (by omega)];simp
 unfold pX;rw[e1,e2];rw[List.set_append_right _ _ (by omega)];simp only[qM,List.set_cons_zero];rw[List.set_append_right _ _ (by omega),show p.length+1+m.length-p.length=m.length+1 by omega,List.set_cons_succ,List.set_append_right _ _ (by omega)];simp
theorem aCO(p:List α)(x:α)(m:List α)(y:α)(q:List α):pX (p++x::(m++y::q)) (p.length+1+m.length) p.length=p++y::(m++x::q):=by
 rw[<-Ej p x m y q];apply Fs
 ·simp[pX]
 ·intro k hk;simp only[pX,jG,Jn];have h1:p.length<(p++x::(m++y::q)).length:=by simp only[bQ,dA]; omega
  have h2:p.length+1+m.length<(p++x::(m++y::q)).length:=by simp only[bQ,dA]; omega
  by_cases h3:k=p.length
  ·rw[aA ⟨h3,h1⟩,aE (by omega),aA ⟨h3,h1⟩]
  ·by_cases h4:k=p.length+1+m.length
   ·rw[aE (by omega),aA ⟨h4,h2⟩,aA ⟨h4,h2⟩]
   ·rw[aE (by omega),aE (by omega),aE (by omega),aE (by omega)]
theorem uR(l:List α)(hi:i<l.length)(hj:j<l.length):(pX l i j).Perm l:=by unfold pX;rw[bK hi,bK hj];exact Sort.perm_set_set l i j hi hj
end
structure TO {α:Type}(c:α->α->Int):Prop where
 eq:∀ a b,c a b=0↔a=b
 sw:∀ a b,c a b<0↔0<c b a
 tr:∀ a b d,c a b<0->c b d<0->c a d<0
def vJ(a b:Int):Int:=if a<b then -1 else if b<a then 1 else 0
theorem TO.int:TO vJ:=by
 constructor
 ·intro a b; unfold vJ; split <;> (try split) <;> omega
 ·intro a b; unfold vJ; split <;> (try split) <;> (try split) <;> omega
 ·intro a b d; unfold vJ; split <;> (try split) <;> (try split) <;> (try split) <;> (try split) <;> omega
def fX(a b:Int):Int:=if a=0 then b else a
theorem TO.lex{α β γ:Type}{c:β->β->Int}{d:γ->γ->Int}(hc:TO c)(hd:TO d){f:α->β}{g:α->γ}(inj:∀ x y,f x=f y->g x=g y->x=y):TO (fun x y=>fX (c (f x) (f y)) (d (g x) (g y))):=by
 constructor
 ·intro x y;unfold fX;constructor
  ·intro h;split at h
   ·rename_i h1; exact inj x y ((hc.eq _ _).1 h1) ((hd.eq _ _).1 h)
   ·rename_i h1; exact absurd h h1
  ·rintro rfl;rw[aA ((hc.eq _ _).2 rfl)]; exact(hd.eq _ _).2 rfl
 ·intro x y;unfold fX;by_cases h1:c (f x) (f y)=0
  ·have h2:=(hc.eq _ _).1 h1;rw[aA h1,aA ((hc.eq _ _).2 h2.symm)];exact hd.sw _ _
  ·rw[aE h1,aE (fun h=>h1 ((hc.eq _ _).2 ((hc.eq _ _).1 h).symm))];exact hc.sw _ _
 ·intro x y z;unfold fX;by_cases h1:c (f x) (f y)=0
  ·have h2:=(hc.eq _ _).1 h1;rw[aA h1,h2];by_cases h3:c (f y) (f z)=0
   ·rw[aA h3,aA h3]; exact hd.tr _ _ _
   ·rw[aE h3,aE h3]; exact fun _ h=>h
  ·rw[aE h1];by_cases h3:c (f y) (f z)=0
   ·have h4:=(hc.eq _ _).1 h3;rw[aA h3,<-h4,aE h1]; exact fun h _=>h
   ·rw[aE h3];intro h5 h6;have h7:=hc.tr _ _ _ h5 h6;rw[aE (by omega)]; exact h7
def rH{α:Type}(c:α->α->Int):List α->List α->Int
 | [],[]=>0
 | [],_::_=>-1
 | _::_,[]=>1
 | a::l,b::r=>fX (c a b) (rH c l r)
theorem TO.list{α:Type}{c:α->α->Int}(hc:TO c):TO (rH c):=by
 constructor
 ·intro l
  induction l with
  | nil=>intro r; cases r <;> simp[rH]
  | cons a l ih=>
   intro r;cases r with
   | nil=>simp[rH]
   | cons b r=>
    simp only[rH,fX];constructor
    ·intro h;split at h
     ·rename_i h1; rw[(hc.eq _ _).1 h1,(ih r).1 h]
     ·rename_i h1; exact absurd h h1
    ·intro h;injection h with h1 h2;rw[aA ((hc.eq _ _).2 h1)]; exact(ih r).2 h2
 ·intro l
  induction l with
  | nil=>intro r; cases r <;> simp[rH]
  | cons a l ih=>
   intro r;cases r with
   | nil=>simp[rH]
   | cons b r=>
    simp only[rH,fX];by_cases h1:c a b=0
    ·have h2:=(hc.eq _ _).1 h1;rw[aA h1,aA ((hc.eq _ _).2 h2.symm)]; exact ih r
    ·rw[aE h1,aE (fun h=>h1 ((hc.eq _ _).2 ((hc.eq _ _).1 h).symm))]; exact hc.sw _ _
 ·intro l
  induction l with
  | nil=>intro r s; cases r <;> cases s <;> simp[rH]
  | cons a l ih=>
   intro r s;cases r with
   | nil=>simp[rH]
   | cons b r=>
    cases s with
    | nil=>simp[rH]
    | cons d s=>
     simp only[rH,fX];by_cases h1:c a b=0
     ·have h2:=(hc.eq _ _).1 h1;rw[aA h1,h2];by_cases h3:c b d=0
      ·rw[aA h3,aA h3]; exact ih r s
      ·rw[aE h3,aE h3]; exact fun _ h=>h
     ·rw[aE h1];by_cases h3:c b d=0
      ·have h4:=(hc.eq _ _).1 h3;rw[aA h3,<-h4,aE h1]; exact fun h _=>h
      ·rw[aE h3];intro h5 h6;have h7:=hc.tr _ _ _ h5 h6;rw[aE (by omega)]; exact h7
theorem qK:∀ (a b:List UInt8),Lib.compareBytes a b=rH (fun x y:UInt8=>vJ (x.toNat:Int) (y.toNat:Int)) a b
 | [],[]=>rfl
 | [],_::_=>rfl
 | _::_,[]=>rfl
 | a::l,b::m=>by
  rw[Lib.compareBytes,rH,qK l m];have e1:(a<b)↔((a.toNat:Int)<(b.toNat:Int)):=by rw[UInt8.lt_iff_toNat_lt]; omega
  have e2:(b<a)↔((b.toNat:Int)<(a.toNat:Int)):=by rw[UInt8.lt_iff_toNat_lt]; omega
  generalize rH (fun x y:UInt8=>vJ (x.toNat:Int) (y.toNat:Int)) l m=r;show _=fX (if (a.toNat:Int)<(b.toNat:Int) then -1 else if (b.toNat:Int)<(a.toNat:Int) then 1 else 0) r;by_cases h1:(a.toNat:Int)<b.toNat
  ·rw[aA (e1.2 h1),aA h1]; rfl
  ·rw[aE (fun h=>h1 (e1.1 h)),aE h1];by_cases h2:(b.toNat:Int)<a.toNat
   ·rw[aA (e2.2 h2),aA h2]; rfl
   ·rw[aE (fun h=>h2 (e2.1 h)),aE h2]; rfl
theorem TO.u8:TO (fun x y:UInt8=>vJ (x.toNat:Int) (y.toNat:Int)):=by
 constructor
 ·intro a b;rw[TO.int.eq];exact⟨fun h=>UInt8.toNat_inj.1 (by omega),fun h=>by rw[h]⟩
 ·intro a b; exact TO.int.sw _ _
 ·intro a b d; exact TO.int.tr _ _ _
def Ad(a b:ByteArray):Int:=Lib.compareBytes a.data.toList b.data.toList
theorem TO.str:TO Ad:=by
 have h:=TO.list TO.u8;unfold Ad;constructor
 ·intro a b;rw[qK,h.eq];constructor
  ·intro h; cases a; cases b; simp at h; simp[h]
  ·rintro rfl; rfl
 ·intro a b; rw[qK,qK]; exact h.sw _ _
 ·intro a b d; rw[qK,qK,qK]; exact h.tr _ _ _
def mA(a b:aF):Int:=fX (vJ a.Kind b.Kind) (fX (vJ a.N b.N) (Ad a.S b.S))
abbrev Ct:List aF->List aF->Int:=rH mA
def dJ(a b:aC):Int:=fX (vJ a.Time b.Time) (Ct a.Row b.Row)
theorem TO.val:TO mA:=by have h:=TO.lex (f:=fun x:ByteArray×Int=>x.2) (g:=fun x=>x.1) TO.int TO.str (fun x y h1 h2=>Prod.ext h2 h1);exact TO.lex (f:=fun x:aF=>x.Kind) (g:=fun x=>(x.S,x.N)) TO.int h (fun x y h1 h2=>by cases x; cases y; simp_all)
theorem TO.row:TO Ct:=TO.val.list
def pl(d:aC):Int×List aF:=(d.Time,d.Row)
def Us(a b:Int×List aF):Int:=fX (vJ a.1 b.1) (Ct a.2 b.2)
theorem TO.place:TO Us:=TO.lex (f:=fun x:Int×List aF=>x.1) (g:=fun x=>x.2) TO.int TO.row (fun _ _ h1 h2=>Prod.ext h1 h2)
theorem uL(a b:aC):dJ a b=Us (pl a) (pl b):=rfl
theorem Fg(a:Int):fX a 0=a:=by unfold fX; split <;> simp_all
theorem aPC(a:Int):aYR a=some false:=by unfold aYR aYN; simp[Tr.den]
theorem Yu(a b:Int):aYQ a b=some (vJ a b):=by unfold aYQ aXC;simp only[Tr.den,aPC,aI,dC,cT,gY,vJ,gt_iff_lt];split <;> (try split) <;> rfl
theorem aKY(a b:ByteArray):aZR a b=some (Ad a b):=rfl
theorem Wk(l:List Int)(h:l.length<=1000):aSN l=some (l.foldr fX 0):=by
 refine Sp.eq ?_;unfold aSN aSJ;simp only[Tr.den,bX];refine Sq.while (fun k:Int=>0<=k/\k<=l.length/\(l.drop k.toNat).foldr fX 0=l.foldr fX 0) (fun k=>l.length-k.toNat) (fun k hk=>?_) ⟨by omega,by omega,by simp⟩;obtain⟨h0,h1,h2⟩:=hk;unfold Vk;simp only[Tr.den,gY];by_cases hk:k<l.length
 ·have hkn:k.toNat<l.length:=by omega
  rw[aA hk,aA ⟨h0,hk⟩];rw[cU hkn]at h2;simp only[List.foldr_cons]at h2;by_cases hz:l.getD k.toNat default=0
  ·rw[aE (Ia hz)];rw[bF (by omega) (by omega)];refine aB.2 ⟨⟨by omega,by omega,?_⟩,by omega⟩;rw[show (k+1).toNat=k.toNat+1 by omega,<-h2]; simp only[fX,hz,eJ]
  ·rw[aA (Oh hz)];refine aB.2 (aB.2 ?_);rw[<-h2]; unfold fX; rw[aE hz]
 ·rw[aE hk];refine aB.2 (aB.2 ?_);have:l.drop k.toNat=[]:=jN (by omega);rw[this]at h2;exact h2
theorem xN(a b:aF):aTP a b=some (mA a b):=by unfold aTP aST;simp only[Tr.den,Yu,aKY,aI];rw[Wk _ (by simp)];simp[Fg,mA]
theorem aBJ(a b:List aF)(ha:a.length<=1073741824)(hb:b.length<=1073741824):Sr a b=some (Ct a b):=by
 refine Sp.eq ?_;unfold Sr Tw;simp only[Tr.den,bX];refine Sq.while (fun k:Int=>0<=k/\k<=a.length/\k<=b.length/\Ct (a.drop k.toNat) (b.drop k.toNat)=Ct a b) (fun k=>a.length-k.toNat) (fun k hk=>?_) ⟨by omega,by omega,by omega,by simp⟩;obtain⟨h0,h1,h2,h3⟩:=hk;unfold Jm;simp only[Tr.den,gY,xN,aI];by_cases hk:k<a.length
 ·have hkn:k.toNat<a.length:=by omega
  rw[aA hk,aA ⟨h0,hk⟩];rw[cU hkn]at h3;by_cases hk':k>=b.length
  ·rw[aA hk'];refine aB.2 (aB.2 ?_);have:b.drop k.toNat=[]:=jN (by omega);rw[this]at h3;simpa[rH] using h3
  ·have hkb:k.toNat<b.length:=by omega
   rw[cU hkb]at h3;simp only[rH]at h3;rw[aE hk',aA ⟨h0,by omega⟩];by_cases hz:mA (a.getD k.toNat default) (b.getD k.toNat default)=0
   ·rw[aE (Ia hz),bF (by omega) (by omega)];refine aB.2 ⟨⟨by omega,by omega,by omega,?_⟩,by omega⟩;rw[show (k+1).toNat=k.toNat+1 by omega]; refine Eq.trans ?_ h3; simp only[fX,hz,eJ]
   ·rw[aA (Oh hz)];refine aB.2 (aB.2 ?_);refine Eq.trans ?_ h3; simp only[fX,aE hz]
 ·rw[aE hk];refine aB.2 ?_;have e:a.drop k.toNat=[]:=jN (by omega);rw[e]at h3;simp only[sel];by_cases hl:(a.length:Int)<b.length
  ·rw[aA hl];refine aB.2 ?_;rw[cU (show k.toNat<b.length by omega)]at h3;exact h3
  ·rw[aE hl];refine aB.2 ?_;rw[jN (show b.length<=k.toNat by omega)]at h3;exact h3
theorem aQC(a b:List aF)(ha:a.length<=1073741824)(hb:b.length<=1073741824):aXS a b=some (Ct a b):=by unfold aXS aTH;simp only[Tr.den,aBJ a b ha hb,aI]
def okR(d:aC):Prop:=d.Row.length<=1073741824
theorem uW(a b:aC)(ha:okR a)(hb:okR b):aUI a b=some (dJ a b):=by unfold aUI aWQ;simp only[Tr.den,Yu,aQC _ _ ha hb,aI];rw[Wk _ (by simp)];simp[Fg,dJ]
def ltD(a b:aC):Bool:=decide (dJ a b<0)
theorem xT{z:aC}:dJ x y<0->dJ y z<0->dJ x z<0:=fun h1 h2=>TO.place.tr (pl x) (pl y) (pl z) h1 h2
theorem jB:Sort.SWO ltD:=by
 constructor
 ·intro x; simp[ltD,(TO.place.eq (pl x) (pl x)).2 rfl,uL]
 ·intro x y z h1 h2;simp only[ltD,gY]at *
  exact xT h1 h2
 ·intro x y z h1 h2;simp only[ltD,uL]at h1 h2 ⊢;have h1:=iG h1;have h2:=iG h2;refine fI fun h3=>?_;have s1:=TO.place.sw (pl x) (pl y);have s2:=TO.place.sw (pl y) (pl z);have s3:=TO.place.sw (pl y) (pl x);have s4:=TO.place.sw (pl z) (pl y);have s5:=TO.place.sw (pl x) (pl z);have s6:=TO.place.sw (pl z) (pl x);by_cases h4:Us (pl x) (pl y)=0
  ·rw[(TO.place.eq _ _).1 h4]at h3; exact h2 h3
  ·by_cases h5:Us (pl y) (pl z)=0
   ·rw[<-(TO.place.eq _ _).1 h5]at h3; exact h1 h3
   ·have:=TO.place.tr (pl z) (pl y) (pl x) (by omega) (by omega);omega
theorem zK(h:ltD x y=true):ltD y x=false:=by
 cases hh:ltD y x with
 | false=>rfl
 | true=>have:=jB.trans _ _ _ h hh;rw[jB.irrefl]at this; cases this
set_option maxRecDepth 20000
def vI(n:Int):aF:=⟨0,n,⟨#[]⟩⟩
def vB(b:Bool):aF:=⟨2,if b then 1 else 0,⟨#[]⟩⟩
def vT(s:ByteArray):aF:=⟨1,0,s⟩
theorem gW(n:Int):aVH n=some (vI n):=by simp[aVH,aUU,Tr.den,vI]
theorem yY(n:Int):aSZ n=some (vI n):=by simp[aSZ,aWU,Tr.den,vI]
theorem jJ(b:Bool):aVS b=some (vB b):=by cases b <;> simp[aVS,aSL,Tr.den,vB]
def bop(op:Int)(a b:aF):aF:=
 if op=8 then vI (IntKind.i64.wrap (a.N+b.N)) else if op=9 then vI (IntKind.i64.wrap (a.N-b.N)) else if op=10 then vI (IntKind.i64.wrap (a.N*b.N))
 else if op=11 then (if b.N=0 then vI 0 else vI (IntKind.i64.wrap (Int.tdiv a.N b.N))) else if op=12 then (if b.N=0 then vI 0 else vI (Int.tmod a.N b.N))
 else if op=13 then vB ((a.Kind==b.Kind)&&((a.N==b.N)&&(a.S.toList==b.S.toList))) else if op=14 then vB (!((a.Kind==b.Kind)&&((a.N==b.N)&&(a.S.toList==b.S.toList))))
 else if op=15 then vB (decide (mA a b<0)) else if op=16 then vB (decide (mA a b<=0))
 else if op=17 then vB (a.N==1&&b.N==1) else if op=18 then vB (a.N==1 || b.N==1)
 else vT ((a.S++b.S).extract 0 (min 200 (a.S.size+b.S.size)))
theorem Xh(p:cF):aTY p=some (bop 8 p.a_ p.b_):=by simp[aTY,aUT,Tr.den,gW,bop]
theorem Xw(p:cF):aYL p=some (bop 9 p.a_ p.b_):=by simp[aYL,aYB,Tr.den,gW,bop]
theorem Yd(p:cF):aXK p=some (bop 10 p.a_ p.b_):=by simp[aXK,aSH,Tr.den,gW,bop]
theorem Vu(p:cF):aQG p=some (bop 11 p.a_ p.b_):=by
 by_cases h:p.b_.N=0
 ·simp[aQG,aKZ,Tr.den,gW,bop,h]
 ·simp[aQG,aKZ,Tr.den,gW,bop,h]
theorem Za(p:cF):aKP p=some (bop 12 p.a_ p.b_):=by
 by_cases h:p.b_.N=0
 ·simp[aKP,aQJ,Tr.den,gW,bop,h]
 ·simp[aKP,aQJ,Tr.den,gW,bop,h]
theorem Yi(p:cF):aXU p=some (bop 13 p.a_ p.b_):=by simp[aXU,aSW,Tr.den,jJ,bop]
theorem Vq(p:cF):aVB p=some (bop 14 p.a_ p.b_):=by simp[aVB,aTL,Tr.den,jJ,bop]
theorem Wh(p:cF):aSF p=some (bop 15 p.a_ p.b_):=by simp[aSF,aYP,Tr.den,xN,jJ,bop]
theorem Xp(p:cF):aVP p=some (bop 16 p.a_ p.b_):=by simp[aVP,aUJ,Tr.den,xN,jJ,bop]
theorem Xi(p:cF):aQE p=some (bop 17 p.a_ p.b_):=by
 by_cases h:p.a_.N=1
 ·simp[aQE,aLN,Tr.den,jJ,bop,h]
 ·have e:(p.a_.N==1)=false:=by simpa using h
  simp[aQE,aLN,Tr.den,jJ,bop,e]
theorem Ys(p:cF):aQS p=some (bop 18 p.a_ p.b_):=by
 by_cases h:p.a_.N=1
 ·simp[aQS,aOC,Tr.den,jJ,bop,h]
 ·have e:(p.a_.N==1)=false:=by simpa using h
  simp[aQS,aOC,Tr.den,jJ,bop,e]
theorem Xs(p:cF)(h:p.a_.S.size+p.b_.S.size<=9223372036854775807):aAF p=some (bop 19 p.a_ p.b_):=by
 have hs:(p.a_.S++p.b_.S).size=p.a_.S.size+p.b_.S.size:=kB;have h1:((p.a_.S.size+p.b_.S.size:Nat):Int)<=9223372036854775807:=by omega
 by_cases hc:(200:Int)<((p.a_.S.size+p.b_.S.size:Nat):Int)
 ·have e:min 200 (p.a_.S.size+p.b_.S.size)=200:=by omega
  simp only[aAF,aJG,Tr.den,bop,hs,aA hc,aA h1,e];simp[vT]; omega
 ·have e:min 200 (p.a_.S.size+p.b_.S.size)=p.a_.S.size+p.b_.S.size:=by omega
  simp only[aAF,aJG,Tr.den,bop,hs,aE hc,aA h1,e];simp[vT];exact⟨by omega,by congr 1⟩
set_option linter.unusedVariables false
section
variable {α:Type} [Inhabited α] (tm:α->Int) (nx:Int->α->Int) (hit:Int->Bool) (sz:Int)
end
def kH(l:List aC):Prop:=∀ x,x∈l->okR x
theorem aOK:okR default:=by show ([]:List aF).length<=_; simp
theorem kH.get(h:kH l)(k:Nat):okR (l.getD k default):=by
 by_cases hk:k<l.length
 ·exact h _ (aR hk)
 ·rw[cG,wI (by omega)]; exact aOK
theorem kH.perm(h:kH l)(hp:l.Perm r):kH r:=fun x hx=>h x (hp.mem_iff.2 hx)
theorem aGV(a a2 v2:Int)(an:Nat)(ha:a=an):∀ (j:Nat) (l:List aC),kH l->j<l.length->l.length<=1000000000000000 ->
  cD (fun s=>(mJ a a2 v2 s).den) (l,(j:Int))=some (.inl (Sort.insInner ltD an j l.toArray).toList):=by
 intro j
 induction j with
 | zero=>intro l hl hj hn;refine gE ?_;unfold mJ;simp only[Tr.den];rw[aE (by simp; omega)];simp[Sort.insInner]
 | succ j ih=>
  intro l hl hj hn;have e1:IntKind.i64.wrap (((j+1:Nat):Int)-1)=(j:Int):=rV (by omega);by_cases hc:an<j+1
  ·have hlt:ltD (l.getD (j+1) default) (l.getD j default)=decide (dJ (l.getD (j+1) default) (l.getD j default)<0):=rfl;cases hd:ltD (l.getD (j+1) default) (l.getD j default) with
   | false=>refine gE ?_;unfold mJ;simp only[Tr.den];rw[e1];rw[aA (by simp; omega),aA (by omega),aA (by simpa using hj),aA (by omega),aA (by simp; omega)];simp only[aQ];rw[uW _ _ (hl.get _) (hl.get _)];simp only[aI];rw[<-hlt,hd];simp only[dC,cT];unfold Sort.insInner;rw[fZ,fZ,hd];simp
   | true=>
    rw[lS (s':=(pX l (j+1) j,(j:Int)))]
    ·have h2:=ih (pX l (j+1) j) (hl.perm (uR l hj (by omega)).symm) (by rw[sO]; omega) (by rw[sO]; exact hn);rw[h2,sV]
     conv=>rhs; unfold Sort.insInner
     rw[fZ,fZ,hd];simp[hc]
    ·unfold mJ;simp only[Tr.den];rw[e1];rw[aA (by simp; omega),aA (by omega),aA (by simpa using hj),aA (by omega),aA (by simp; omega)];simp only[aQ];rw[uW _ _ (hl.get _) (hl.get _)];simp only[aI];rw[<-hlt,hd];simp only[eJ];rw[aA (by omega),aA (by omega),aA (by omega),aA (by omega),aA (by omega),aA (by omega),aA (by omega),aA (by omega),aA (by simp; omega)];rfl
  ·refine gE ?_;unfold mJ;simp only[Tr.den];rw[aE (by simp; omega)];simp only[aI,dC,cT];unfold Sort.insInner;simp[hc]
theorem Tg(a b:Nat)(n:Nat):∀ (i:Nat) (l:List aC),b-i=n->a<i->b<=l.length->l.length<=1000000000000000->kH l ->
  cD (fun s=>(uD (a:Int) (b:Int) s).den) (l,(i:Int))=some (.inl (Sort.insOuter ltD a b i l.toArray).toList):=by
 induction n with
 | zero=>intro i l hi ha hb hn hl;refine gE ?_;unfold uD;simp only[Tr.den];rw[aE (by simp; omega),Sort.insOuter,aE (by omega)]
 | succ n ih=>
  intro i l hi ha hb hn hl;have h1:=aGV (a:Int) (b:Int) (i:Int) a rfl i l hl (by omega) hn;have hp:=(Sort.insInner_spec jB Sort.swp_permIn Sort.permIn_refl Sort.permIn_trans 0 b i (by omega));have hlen:(Sort.insInner ltD a i l.toArray).size=l.length:=by
   have:∀ (j:Nat) (d:Array aC),(Sort.insInner ltD a j d).size=d.size:=by
    intro j
    induction j with
    | zero=>intro d; rfl
    | succ j ih=>intro d; unfold Sort.insInner; split <;> simp[ih,Sort.swp_size]
   rw[this]; simp
  have hperm:(Sort.insInner ltD a i l.toArray).toList.Perm l:=by
   have:∀ (j:Nat) (d:Array aC),j<d.size->(Sort.insInner ltD a j d).toList.Perm d.toList:=by
    intro j
    induction j with
    | zero=>intro d _; exact .refl _
    | succ j ih=>
     intro d hd;unfold Sort.insInner;split
     ·refine(ih _ (by rw[Sort.swp_size]; omega)).trans ?_;have e:=sV d.toList (j+1) j;rw[mU]at e;rw[<-e];exact uR d.toList (i:=j+1) (j:=j) (by simpa using hd) (by simp; omega)
     ·exact .refl _
   simpa using this i l.toArray (by simp; omega)
  rw[lS (s':=((Sort.insInner ltD a i l.toArray).toList,((i+1:Nat):Int)))]
  ·rw[ih (i+1) _ (by omega) (by omega) (by simp[hlen]; omega) (by simp[hlen]; omega) (hl.perm hperm.symm)]
   conv=>rhs; rw[Sort.insOuter,aA (by omega)]
  ·unfold uD;simp only[Tr.den];rw[aA (by simp; omega),h1];simp only[aI,sel];rw[aK (by omega)]
theorem aAO(a b:Nat)(l:List aC)(hb:b<=l.length)(hab:a<=b)(hn:l.length<=1000000000000000)(hl:kH l):Nw (a:Int) (b:Int) l=some (Sort.insertionSort ltD l.toArray a b).toList:=by unfold Nw Sy;simp only[Tr.den];rw[aK (by omega),Tg a b _ (a+1) l rfl (by omega) hb hn hl];rfl
theorem aSR(P X M Y Q:List aC)(n:Nat)(hx:X.length=n)(hy:Y.length=n)(i:Nat)(hi:i<n):
  pX (P++(Y.take i++(X.drop i++(M++(X.take i++(Y.drop i++Q)))))) (P.length+i) (P.length+n+M.length+i)=P++(Y.take (i+1)++(X.drop (i+1)++(M++(X.take (i+1)++(Y.drop (i+1)++Q))))):=by
 have h:=Ej (P++Y.take i) (X.getD i default) (X.drop (i+1)++(M++X.take i)) (Y.getD i default) (Y.drop (i+1)++Q);have e1:(P++Y.take i).length=P.length+i:=by simp; omega
 have e2:(P++Y.take i).length+1+(X.drop (i+1)++(M++X.take i)).length=P.length+n+M.length+i:=by simp; omega
 rw[e2,e1]at h;rw[cU (show i<X.length by omega),cU (show i<Y.length by omega),aL (show i<X.length by omega),aL (show i<Y.length by omega)];simpa using h
theorem Av(P X M Y Q:List aC)(n:Nat)(hx:X.length=n)(hy:Y.length=n)(a b c:Int)(ha:a=P.length)(hb:b=((P.length+n+M.length:Nat):Int))(hc:c=n)(hn:(P++(X++(M++(Y++Q)))).length<=1000000000000000):
  Fe a b c (P++(X++(M++(Y++Q))))=some (P++(Y++(M++(X++Q)))):=by
 subst ha hb hc;simp only[bQ]at hn;unfold Fe Mv;simp only[Tr.den];have h:=aW (bd:=fun s=>(mO (P.length:Int) ((P.length+n+M.length:Nat):Int) (n:Int) s).den) (fun i=>(P++(Y.take i++(X.drop i++(M++(X.take i++(Y.drop i++Q))))),(i:Int))) n (r:=.inl (P++(Y++(M++(X++Q))))) (fun i hi=>?_) ?_
 ·simp only[List.take_zero,List.drop_zero,sN]at h;refine(congrArg (fun x=>Option.bind x _) h).trans ?_;rfl
 ·have hL:(P++(Y.take i++(X.drop i++(M++(X.take i++(Y.drop i++Q)))))).length=P.length+n+M.length+n+Q.length:=by simp; omega
  unfold mO;simp only[Tr.den];rw[dP (by omega),dP (by omega)];simp only[aQ];rw[hL];rw[aA (by simp; omega),aA (by omega),aA (by omega),aA (by omega),aA (by omega),aA (by omega),aA (by omega),aA (by omega),aA (by omega),aA (by simp; omega),aK (by omega)];rw[<-aSR P X M Y Q n hx hy i hi];rfl
 ·unfold mO;simp only[Tr.den];rw[aE (by simp)];rw[kV (by omega),kV (by omega),Vw (by omega),Vw (by omega)];simp
theorem Js(b:Bool)(P U V Q:List aC)(hu:U≠[])(hv:V≠[])(a1 a2 a3:Int)(h1:a1=P.length)(h2:a2=((P.length+U.length:Nat):Int))(h3:a3=((P.length+U.length+V.length:Nat):Int))(hn:(P++(U++(V++Q))).length<=1000000000000000):
  Sq b (wF a1 a2 a3 (P++(U++(V++Q)))) (fun d=>d=P++(V++(U++Q))):=by
 subst h1 h2 h3;unfold wF Nu;simp only[Tr.den,bX];generalize hm:P.length+U.length=m;generalize hT:P++(V++(U++Q))=T;have hl0:(P++(U++(V++Q))).length=T.length:=by rw[<-hT]; simp; omega
 rw[eR (by omega) (by simp at hn; omega),eR (by omega) (by simp at hn; omega)];refine Sq.while (fun s:List aC×Int×Int=>∃ P U V Q:List aC,s.1=P++(U++(V++Q))/\P.length+U.length=m/\s.2.1=U.length/\s.2.2=V.length/\U≠[]/\V≠[]/\P++(V++(U++Q))=T)
  (fun s=>(s.2.1+s.2.2).toNat) (fun s hs=>?_) ⟨P,U,V,Q,rfl,hm,by simp only; omega,by simp only; omega,hu,hv,hT⟩
 clear hu hv hT hm;obtain⟨l,i,j⟩:=s;obtain⟨P,U,V,Q,rfl,hm,hi,hj,hu,hv,hT⟩:=hs;simp only at hi hj;subst hi hj;have hTl:T.length=P.length+U.length+V.length+Q.length:=by rw[<-hT]; simp; omega
 rw[hl0]at hn;have hu0:0<U.length:=fL.2 hu;have hv0:0<V.length:=fL.2 hv;unfold uN;simp only[Tr.den];by_cases hij:U.length=V.length
 ·rw[aE (by simp; omega)];refine aB.2 ?_;simp only[sel];have h:=Av P U [] V Q U.length rfl hij.symm (IntKind.i64.wrap ((m:Int)-(U.length:Int))) (m:Int) (U.length:Int) (by rw[eR (by omega) (by omega)]; omega) (by simp; omega) rfl (by simp; omega);simp only[sN]at h;rw[h];simp only[aI];exact aB.2 hT
 ·rw[aA (by simp; omega)];by_cases hgt:U.length>V.length
  ·rw[aA (by simp; omega)];have hU:U=U.take V.length++U.drop V.length:=(iM _ _).symm;have h:=Av P (U.take V.length) (U.drop V.length) V Q V.length (by simp; omega) rfl (IntKind.i64.wrap ((m:Int)-(U.length:Int))) (m:Int) (V.length:Int) (by rw[eR (by omega) (by omega)]; omega) (by simp; omega) rfl (by simp; omega);rw[<-cJ (U.take V.length),<-hU]at h;rw[h];simp only[aI];rw[eR (by omega) (by omega)];refine aB.2 ⟨⟨P++V,U.drop V.length,U.take V.length,Q,by simp only[cJ],by simp only[bQ,fC]; omega,by simp only[fC],by simp only[cE]; omega,?_,?_,?_⟩,by simp only; omega⟩
   ·intro h0; have:=congrArg List.length h0; simp only[fC,fH]at this; omega
   ·intro h0; have:=congrArg List.length h0; simp only[cE,fH]at this; omega
   ·rw[<-hT]
    conv=>rhs; rw[hU]
    simp only[cJ]
  ·rw[aE (by simp; omega)];have hV:V=V.take (V.length-U.length)++V.drop (V.length-U.length):=(iM _ _).symm;have h:=Av P U (V.take (V.length-U.length)) (V.drop (V.length-U.length)) Q U.length rfl (by simp; omega) (IntKind.i64.wrap ((m:Int)-(U.length:Int))) (IntKind.i64.wrap (IntKind.i64.wrap ((m:Int)+(V.length:Int))-(U.length:Int))) (U.length:Int) (by rw[eR (by omega) (by omega)]; omega) (by rw[dP (by omega),eR (by omega) (by omega)]; simp; omega) rfl (by simp; omega);rw[<-cJ (V.take (V.length-U.length)),<-hV]at h;rw[h];simp only[aI];rw[eR (by omega) (by omega)];refine aB.2 ⟨⟨P,V.drop (V.length-U.length),V.take (V.length-U.length),U++Q,by simp,by simp; omega,by simp; omega,by simp,?_,?_,?_⟩,by simp only; omega⟩
   ·intro h0; have:=congrArg List.length h0; simp only[fC,fH]at this; omega
   ·intro h0; have:=congrArg List.length h0; simp only[cE,fH]at this; omega
   ·rw[<-hT]
    conv=>rhs; rw[hV]
    simp only[cJ]
def Srt(l:List aC):Prop:=l.Pairwise (fun x y=>ltD y x=false)
theorem Srt.app:Srt (l++r)↔Srt l/\Srt r/\∀ x,x∈l->∀ y,y∈r->ltD y x=false:=by unfold Srt; rw[lM]
theorem Srt.get(h:Srt l)(hij:i<=j)(hj:j<l.length):ltD (l.getD j default) (l.getD i default)=false:=by
 rcases Nat.lt_or_eq_of_le hij with h1 | h1
 ·rw[bK hj,bK (show i<l.length by omega)];exact wE.1 h i j (by omega) hj h1
 ·subst h1; exact jB.irrefl _
theorem qF(h:∀ i j,i<j->j<l.length->ltD (l.getD j default) (l.getD i default)=false):Srt l:=by
 unfold Srt;rw[wE];intro i j hi hj hij;have:=h i j hij hj
 rwa [bK hj,bK hi]at this
theorem Kh{R':Type}(b:Bool)(bd:Int×Int->Option ((Int×Int)⊕(Int⊕R')))(p:Nat->Bool)(i0 j0:Nat)(hij:i0<=j0)
  (hstep:∀ i j:Nat,i0<=i->i<j->j<=j0->bd ((i:Int),(j:Int))=some (.inl (if p ((i+j) / 2)=true then ((((i+j) / 2+1:Nat):Int),(j:Int)) else ((i:Int),(((i+j) / 2:Nat):Int)))))
  (hstop:∀ i:Nat,i0<=i->i<=j0->bd ((i:Int),(i:Int))=some (.inr (.inl (i:Int))))(mono:∀ h k,i0<=k->k<=h->h<j0->p h=true->p k=true):
  Sq b (cD bd ((i0:Int),(j0:Int))) (sel (fun r:Int=>∃ n:Nat,r=n/\i0<=n/\n<=j0/\(∀ k,i0<=k->k<n->p k=true)/\(∀ k,n<=k->k<j0->p k=false)) (fun _=>False)):=by
 refine Sq.while (fun s=>∃ i j:Nat,s=((i:Int),(j:Int))/\i0<=i/\i<=j/\j<=j0/\(∀ k,i0<=k->k<i->p k=true)/\(∀ k,j<=k->k<j0->p k=false)) (fun s=>(s.2-s.1).toNat) (fun s hs=>?_)
  ⟨i0,j0,rfl,cS _,hij,cS _,fun k h1 h2=>by omega,fun k h1 h2=>by omega⟩
 obtain⟨i,j,rfl,h1,h2,h3,h4,h5⟩:=hs;by_cases hlt:i<j
 ·rw[hstep i j h1 hlt h3];refine aB.2 ?_;by_cases hp:p ((i+j) / 2)=true
  ·rw[aA hp];refine⟨⟨(i+j) / 2+1,j,rfl,by omega,by omega,h3,fun k hk1 hk2=>?_,h5⟩,by simp only; omega⟩;exact mono ((i+j) / 2) k hk1 (by omega) (by omega) hp
  ·rw[aE hp];refine⟨⟨i,(i+j) / 2,rfl,h1,by omega,by omega,h4,fun k hk1 hk2=>?_⟩,by simp only; omega⟩;cases hpk:p k with
   | false=>rfl
   | true=>exact absurd (mono k ((i+j) / 2) (by omega) hk1 hk2 hpk) hp
 ·have:i=j:=by omega
  subst this;rw[hstop i h1 h3];exact aB.2 ⟨i,rfl,h1,h3,h4,h5⟩
section
variable (P A B Q:List aC)
theorem aHP(P B R:List aC)(x:aC)(e:Int)(he:e=((P.length+B.length+1:Nat):Int))(hn:(P++x::(B++R)).length<=1000000000000000):
  cD (fun s=>(kW e s).den) (P++x::(B++R),(P.length:Int))=some (.inl (P++(B++x::R))):=by
 subst he;simp only[bQ,dA]at hn;have h:=aW (bd:=fun s=>(kW ((P.length+B.length+1:Nat):Int) s).den) (fun t=>(P++(B.take t++x::(B.drop t++R)),((P.length+t:Nat):Int))) B.length (r:=.inl (P++(B++x::R))) (fun t ht=>?_) ?_
 ·simpa using h
 ·have hL:(P++(B.take t++x::(B.drop t++R))).length=P.length+B.length+1+R.length:=by simp; omega
  unfold kW;simp only[Tr.den];rw[rV (by omega),aK (by omega)];simp only[aQ];rw[hL];rw[aA (by simp; omega),aA (by omega),aA (by omega),aA (by omega),aA (by omega),aA (by omega),aA (by omega),aA (by omega),aA (by omega),aA (by simp; omega)];have h2:=Ej (P++B.take t) x [] (B.getD t default) (B.drop (t+1)++R);rw[aL ht,cU ht];rw[show (P++B.take t).length=P.length+t by simp; omega]at h2;simp only[fH,sY,sN,cJ,vV]at h2 ⊢;rw[<-h2];rfl
 ·unfold kW;simp only[Tr.den];rw[rV (by omega),aE (by simp)];simp
theorem Po(P A R:List aC)(y:aC)(e k:Int)(he:e=(P.length:Int))(hk:k=((P.length+A.length:Nat):Int))(hn:(P++(A++y::R)).length<=1000000000000000):
  cD (fun s=>(lL e s).den) (P++(A++y::R),k)=some (.inl (P++y::(A++R))):=by
 subst he hk;simp only[bQ,dA]at hn;have h:=aW (bd:=fun s=>(lL (P.length:Int) s).den) (fun t=>(P++(A.take (A.length-t)++y::(A.drop (A.length-t)++R)),((P.length+(A.length-t):Nat):Int))) A.length (r:=.inl (P++y::(A++R))) (fun t ht=>?_) ?_
 ·simpa using h
 ·have hL:(P++(A.take (A.length-t)++y::(A.drop (A.length-t)++R))).length=P.length+A.length+1+R.length:=by simp; omega
  unfold lL;simp only[Tr.den];obtain⟨u,hu⟩:∃ u,A.length-t=u+1:=⟨A.length-t-1,by omega⟩;have hu':A.length-(t+1)=u:=by omega
  rw[hu]at hL ⊢;rw[hu'];rw[<-pN,rV (by omega)];simp only[aQ];rw[hL];rw[aA (by simp; omega),aA (by omega),aA (by omega),aA (by omega),aA (by omega),aA (by omega),aA (by omega),aA (by omega),aA (by omega),aA (by simp; omega)];have h2:=aCO (P++A.take u) (A.getD u default) [] y (A.drop (u+1)++R);rw[aL (show u<A.length by omega),cU (show u<A.length by omega)];rw[show (P++A.take u).length=P.length+u by simp; omega]at h2;simp only[fH,sY,sN,cJ,vV]at h2 ⊢;rw[<-h2];rfl
 ·unfold lL;simp only[Tr.den];rw[aE (by simp)];simp
end
def gQ(P A B Q:List aC):Int×Int×Int×List aC:=((P.length:Int),((P.length+A.length:Nat):Int),((P.length+A.length+B.length:Nat):Int),P++(A++(B++Q)))
def aYG(a:Int×Int×Int×List aC):Prop:=∃ P A B Q,a=gQ P A B Q/\A≠[]/\B≠[]/\Srt A/\Srt B/\kH (P++(A++(B++Q)))/\(P++(A++(B++Q))).length<=1000000000000000
def aSS(a:Int×Int×Int×List aC)(d:List aC):Prop:=∀ P A B Q,a=gQ P A B Q->∃ C,d=P++(C++Q)/\C.Perm (A++B)/\Srt C
theorem Ah{P A B Q P' A' B' Q':List aC}(h:gQ P A B Q=gQ P' A' B' Q'):P=P'/\A=A'/\B=B'/\Q=Q':=by unfold gQ at h;simp only[gP]at h;obtain⟨h1,h2,h3,h4⟩:=h;obtain⟨e1,h5⟩:=List.append_inj h4 (by omega);obtain⟨e2,h6⟩:=List.append_inj h5 (by omega);obtain⟨e3,e4⟩:=List.append_inj h6 (by omega);exact⟨e1,e2,e3,e4⟩
theorem Uk{A:List aC}(h:Srt A){h':Nat}(hk:k<=h')(hh:h' < A.length)(x:aC)(hp:ltD (A.getD h' default) x=true):ltD (A.getD k default) x=true:=by
 have:=h.get hk hh;cases hc:ltD (A.getD k default) x with
 | true=>rfl
 | false=>rw[<-hp];exact(jB.ntrans _ _ _ this hc).symm
theorem Nn{A:List aC}(h:Srt A){h':Nat}(hk:k<=h')(hh:h' < A.length)(x:aC)(hp:ltD x (A.getD h' default)=false):ltD x (A.getD k default)=false:=by exact jB.ntrans _ _ _ hp (h.get hk hh)
section
variable (b:Bool) (P A B Q:List aC)
theorem Gp(x:aC)(hB:Srt B)(ho:kH (P++x::(B++Q)))(hn:(P++x::(B++Q)).length<=1000000000000000):
  Sq b (cD (fun s=>(uP (P.length:Int) (P++x::(B++Q)) s).den) (((P.length+1:Nat):Int),((P.length+1+B.length:Nat):Int)))
   (sel (fun r:Int=>∃ n:Nat,r=((P.length+1+n:Nat):Int)/\n<=B.length/\(∀ k,k<n->ltD (B.getD k default) x=true)/\(∀ k,n<=k->k<B.length->ltD (B.getD k default) x=false)) (fun _=>False)):=by
 simp only[bQ,dA]at hn;have hL:(P++x::(B++Q)).length=P.length+1+B.length+Q.length:=by simp; omega
 have e1:(P++x::(B++Q)).getD P.length default=x:=by rw[bE,aE (by omega)]; simp
 have e2:∀ k,k<B.length->(P++x::(B++Q)).getD (P.length+1+k) default=B.getD k default:=by intro k hk;rw[bE,aE (by omega),show P.length+1+k-P.length=k+1 by omega,List.getD_cons_succ,bE,aA hk]
 refine(Kh b _ (fun h=>ltD ((P++x::(B++Q)).getD h default) x) (P.length+1) (P.length+1+B.length) (by omega) (fun i j h1 h2 h3=>?_) (fun i h1 h2=>?_) (fun h k h1 h2 h3 h4=>?_)).imp ?_
 ·unfold uP;simp only[Tr.den];rw[oV (by omega)];simp only[aQ];rw[hL];rw[aA (by simp; omega),aA (by omega),aA (by omega),aA (by omega),aA (by omega)];rw[uW _ _ (ho.get _) (ho.get _),e1];simp only[aI];rw[show decide (dJ ((P++x::(B++Q)).getD ((i+j) / 2) default) x<0)=ltD ((P++x::(B++Q)).getD ((i+j) / 2) default) x from rfl];cases ltD ((P++x::(B++Q)).getD ((i+j) / 2) default) x with
  | true=>simp only[eJ,aI]; rw[aK (by omega)]
  | false=>simp only[dC,cT,aI]
 ·unfold uP;simp only[Tr.den];rw[aE (by simp)]
 ·obtain⟨k',rfl⟩:∃ k',k=P.length+1+k':=⟨k-(P.length+1),by omega⟩;obtain⟨h',rfl⟩:∃ h',h=P.length+1+h':=⟨h-(P.length+1),by omega⟩;rw[e2 _ (by omega)]at h4 ⊢;exact Uk hB (by omega) (by omega) x h4
 ·intro z hz;cases z with
  | inr z=>exact hz
  | inl z=>
   obtain⟨n,rfl,h1,h2,h3,h4⟩:=hz;refine⟨n-(P.length+1),by omega,by omega,fun k hk=>?_,fun k hk1 hk2=>?_⟩
   ·rw[<-e2 k (by omega)]; exact h3 _ (by omega) (by omega)
   ·rw[<-e2 k hk2]; exact h4 _ (by omega) (by omega)
theorem zG(y:aC)(hA:Srt A)(ho:kH (P++(A++y::Q)))(hn:(P++(A++y::Q)).length<=1000000000000000):
  Sq b (cD (fun s=>(uK ((P.length+A.length:Nat):Int) (P++(A++y::Q)) s).den) ((P.length:Int),((P.length+A.length:Nat):Int)))
   (sel (fun r:Int=>∃ n:Nat,r=((P.length+n:Nat):Int)/\n<=A.length/\(∀ k,k<n->ltD y (A.getD k default)=false)/\(∀ k,n<=k->k<A.length->ltD y (A.getD k default)=true)) (fun _=>False)):=by
 simp only[bQ,dA]at hn;have hL:(P++(A++y::Q)).length=P.length+A.length+1+Q.length:=by simp; omega
 have e1:(P++(A++y::Q)).getD (P.length+A.length) default=y:=by rw[bE,aE (by omega),bE,aE (by omega)]; simp
 have e2:∀ k,k<A.length->(P++(A++y::Q)).getD (P.length+k) default=A.getD k default:=by intro k hk;rw[bE,aE (by omega),show P.length+k-P.length=k by omega,bE,aA hk]
 refine(Kh b _ (fun h=>!ltD y ((P++(A++y::Q)).getD h default)) P.length (P.length+A.length) (by omega) (fun i j h1 h2 h3=>?_) (fun i h1 h2=>?_) (fun h k h1 h2 h3 h4=>?_)).imp ?_
 ·unfold uK;simp only[Tr.den];rw[oV (by omega)];simp only[aQ];rw[hL];rw[aA (by simp; omega),aA (by omega),aA (by omega),aA (by omega),aA (by omega)];rw[uW _ _ (ho.get _) (ho.get _),e1];simp only[aI];rw[show decide (dJ y ((P++(A++y::Q)).getD ((i+j) / 2) default)<0)=ltD y ((P++(A++y::Q)).getD ((i+j) / 2) default) from rfl];cases ltD y ((P++(A++y::Q)).getD ((i+j) / 2) default) with
  | true=>simp
  | false=>simp; rw[bF] <;> omega
 ·unfold uK;simp only[Tr.den];rw[aE (by simp)]
 ·obtain⟨k',rfl⟩:∃ k',k=P.length+k':=⟨k-P.length,by omega⟩;obtain⟨h',rfl⟩:∃ h',h=P.length+h':=⟨h-P.length,by omega⟩;rw[e2 _ (by omega)]at h4 ⊢;simp only[lV]at h4 ⊢;exact Nn hA (by omega) (by omega) y h4
 ·intro z hz;cases z with
  | inr z=>exact hz
  | inl z=>
   obtain⟨n,rfl,h1,h2,h3,h4⟩:=hz;refine⟨n-P.length,by omega,by omega,fun k hk=>?_,fun k hk1 hk2=>?_⟩
   ·have:=h3 (P.length+k) (by omega) (by omega);rw[e2 k (by omega)]at this; simpa using this
   ·have:=h4 (P.length+k) (by omega) (by omega);rw[e2 k hk2]at this; simpa using this
end
theorem oF(p q:Prop)[Decidable p][Decidable q]:(if decide p=true then some (decide q) else some false)=some (decide (p/\q)):=by by_cases hp:p <;> simp[hp]
theorem dT(h:x∈l.take n):∃ k,k<n/\k<l.length/\x=l.getD k default:=by obtain⟨k,hk,rfl⟩:=Ab.1 h;simp only[cE]at hk;exact⟨k,by omega,by omega,by rw[bK (by omega)]; simp⟩
theorem dO(h:x∈l.drop n):∃ k,n<=k/\k<l.length/\x=l.getD k default:=by obtain⟨k,hk,rfl⟩:=Ab.1 h;simp only[fC]at hk;exact⟨n+k,by omega,by omega,by rw[bK (by omega)]; simp⟩
theorem Srt.take{l:List aC}(h:Srt l)(n:Nat):Srt (l.take n):=At (List.take_sublist _ _) h
theorem Srt.drop{l:List aC}(h:Srt l)(n:Nat):Srt (l.drop n):=At (List.drop_sublist _ _) h
theorem xH(h:Srt l)(h1:∀ k,k<n->k<l.length->ltD x (l.getD k default)=false)(h2:∀ k,n<=k->k<l.length->ltD (l.getD k default) x=false):Srt (l.take n++x::l.drop n):=by
 rw[show x::l.drop n=[x]++l.drop n from rfl,Srt.app,Srt.app];refine⟨h.take n,⟨oO _ _,h.drop n,fun a ha y hy=>?_⟩,fun a ha y hy=>?_⟩
 ·simp only[bZ]at ha;subst ha;obtain⟨k,h3,h4,rfl⟩:=dO hy;exact h2 k h3 h4
 ·obtain⟨k,h3,h4,rfl⟩:=dT ha;simp only[dE,bZ]at hy;rcases hy with rfl | hy
  ·exact h1 k h3 h4
  ·obtain⟨k',h5,h6,rfl⟩:=dO hy;exact h.get (by omega) h6
theorem aFS{A B:List aC}(hA:Srt A)(hB:Srt B){u v:Nat}(hu:u<=A.length)(hv:v<=B.length)
  (h1:0<u->v<B.length->ltD (B.getD v default) (A.getD (u-1) default)=false)(h2:0<v->u<A.length->ltD (A.getD u default) (B.getD (v-1) default)=false)
  {C D:List aC}(hC:C.Perm (A.take u++B.take v))(hD:D.Perm (A.drop u++B.drop v))(sC:Srt C)(sD:Srt D):Srt (C++D)/\(C++D).Perm (A++B):=by
 constructor
 ·rw[Srt.app];refine⟨sC,sD,fun x hx y hy=>?_⟩;have hx:=hC.mem_iff.1 hx;have hy:=hD.mem_iff.1 hy;rw[dE]at hx hy;rcases hx with hx | hx
  ·obtain⟨i,i1,i2,rfl⟩:=dT hx;rcases hy with hy | hy
   ·obtain⟨j,j1,j2,rfl⟩:=dO hy;exact hA.get (by omega) j2
   ·obtain⟨j,j1,j2,rfl⟩:=dO hy;exact jB.ntrans _ _ _ (hB.get j1 j2) (jB.ntrans _ _ _ (h1 (by omega) (by omega)) (hA.get (i:=i) (j:=u-1) (by omega) (by omega)))
  ·obtain⟨i,i1,i2,rfl⟩:=dT hx;rcases hy with hy | hy
   ·obtain⟨j,j1,j2,rfl⟩:=dO hy;exact jB.ntrans _ _ _ (hA.get j1 j2) (jB.ntrans _ _ _ (h2 (by omega) (by omega)) (hB.get (i:=i) (j:=v-1) (by omega) (by omega)))
   ·obtain⟨j,j1,j2,rfl⟩:=dO hy;exact hB.get (by omega) j2
 ·refine(hC.append hD).trans ?_;have e:(A++B).Perm (A.take u++(A.drop u++(B.take v++B.drop v))):=by rw[iM,<-cJ,iM]
  refine List.Perm.trans ?_ e.symm;rw[cJ];refine Bd _ ?_;rw[<-cJ,<-cJ];exact List.Perm.append_right _ oM
section
variable (b:Bool) (P A B Q:List aC)
theorem Gl(hA:Srt A)(hB:Srt B)(ho:kH (P++(A++(B++Q))))(hn:(P++(A++(B++Q))).length<=1000000000000000)(i0 j0:Nat)(mid:Nat)(hmid:mid=(P.length+(P.length+A.length+B.length)) / 2)
  (h1:P.length<=i0)(h2:i0<=j0)(h3:j0<=P.length+A.length)(h4:j0<=mid)(h5:mid<=B.length+i0):
  Sq b (cD (fun s=>(pG (P.length:Int) ((P.length+A.length:Nat):Int) ((P.length+A.length+B.length:Nat):Int) (P++(A++(B++Q))) s).den) ((i0:Int),(j0:Int)))
   (sel (fun r:Int=>∃ n:Nat,r=(n:Int)/\i0<=n/\n<=j0/\(∀ c,i0<=c->c<n->ltD (B.getD (mid-1-c) default) (A.getD (c-P.length) default)=false)/\(∀ c,n<=c->c<j0->ltD (B.getD (mid-1-c) default) (A.getD (c-P.length) default)=true)) (fun _=>False)):=by
 simp only[bQ]at hn;have hL:(P++(A++(B++Q))).length=P.length+A.length+B.length+Q.length:=by simp; omega
 have e1:∀ k,P.length<=k->k<P.length+A.length->(P++(A++(B++Q))).getD k default=A.getD (k-P.length) default:=by intro k k1 k2;rw[bE,aE (by omega),bE,aA (by omega)]
 have e2:∀ k,P.length+A.length<=k->k<P.length+A.length+B.length->(P++(A++(B++Q))).getD k default=B.getD (k-(P.length+A.length)) default:=by
  intro k k1 k2;rw[bE,aE (by omega),bE,aE (by omega),bE,aA (by omega)]
  congr 1; omega
 refine(Kh b _ (fun c=>!ltD (B.getD (mid-1-c) default) (A.getD (c-P.length) default)) i0 j0 h2 (fun i j q1 q2 q3=>?_) (fun i q1 q2=>?_) (fun h k q1 q2 q3 q4=>?_)).imp ?_
 ·unfold pG;simp only[Tr.den];rw[oV (i:=P.length) (j:=P.length+A.length+B.length) (by omega),<-hmid,oV (i:=i) (j:=j) (by omega)];have w1:IntKind.i64.wrap (IntKind.i64.wrap (IntKind.i64.wrap ((mid:Int)+((P.length+A.length:Nat):Int))-1)-(((i+j) / 2:Nat):Int))=((mid+(P.length+A.length)-1-(i+j) / 2:Nat):Int):=by rw[dP (by omega),bF (n:=((mid+(P.length+A.length):Nat):Int)-1) (by omega) (by omega),bF (by omega) (by omega)];omega
  rw[w1];simp only[aQ];rw[hL];rw[aA (by simp; omega),aA (by omega),aA (by omega),aA (by omega),aA (by omega)];rw[uW _ _ (ho.get _) (ho.get _)];simp only[aI];rw[e1 ((i+j) / 2) (by omega) (by omega),e2 (mid+(P.length+A.length)-1-(i+j) / 2) (by omega) (by omega),show mid+(P.length+A.length)-1-(i+j) / 2-(P.length+A.length)=mid-1-(i+j) / 2 by omega];rw[show decide (dJ (B.getD (mid-1-(i+j) / 2) default) (A.getD ((i+j) / 2-P.length) default)<0)=ltD (B.getD (mid-1-(i+j) / 2) default) (A.getD ((i+j) / 2-P.length) default) from rfl];cases ltD (B.getD (mid-1-(i+j) / 2) default) (A.getD ((i+j) / 2-P.length) default) with
  | true=>simp
  | false=>simp; rw[bF] <;> omega
 ·unfold pG;simp only[Tr.den];rw[aE (by simp)]
 ·simp only[lV]at q4 ⊢;exact jB.ntrans _ _ _ (hB.get (i:=mid-1-h) (j:=mid-1-k) (by omega) (by omega)) (jB.ntrans _ _ _ q4 (hA.get (i:=k-P.length) (j:=h-P.length) (by omega) (by omega)))
 ·intro z hz;cases z with
  | inr z=>exact hz
  | inl z=>obtain⟨n,rfl,q1,q2,q3,q4⟩:=hz;refine⟨n,rfl,q1,q2,fun c c1 c2=>by simpa using q3 c c1 c2,fun c c1 c2=>by simpa using q4 c c1 c2⟩
end
theorem aUS(b:Bool)(f:Uh)(P A B Q:List aC)(hA0:A≠[])(hB0:B≠[])(hA:Srt A)(hB:Srt B)(ho:kH (P++(A++(B++Q))))(hn:(P++(A++(B++Q))).length<=1000000000000000)
  (hrec:∀ P' A' B' Q',A'≠[]->B'≠[]->Srt A'->Srt B'->kH (P'++(A'++(B'++Q')))->(P'++(A'++(B'++Q'))).length<=1000000000000000->A'.length+B'.length<A.length+B.length ->
   Sq b (f.1 (gQ P' A' B' Q')) (fun d=>∃ C,d=P'++(C++Q')/\C.Perm (A'++B')/\Srt C)):
  Sq b (As f (P.length:Int) ((P.length+A.length:Nat):Int) ((P.length+A.length+B.length:Nat):Int) (P++(A++(B++Q)))).den (fun d=>∃ C,d=P++(C++Q)/\C.Perm (A++B)/\Srt C):=by
 have hA1:0<A.length:=fL.2 hA0;have hB1:0<B.length:=fL.2 hB0;have hn':=hn;simp only[bQ]at hn;have hL:(P++(A++(B++Q))).length=P.length+A.length+B.length+Q.length:=by simp; omega
 unfold As;simp only[Tr.den];rw[eR (n:=P.length+A.length) (m:=P.length) (by omega) (by omega),eR (n:=P.length+A.length+B.length) (m:=P.length+A.length) (by omega) (by omega)];by_cases c1:A.length=1
 ·obtain⟨x,rfl⟩:=Kt.1 c1;rw[aA (by simp)];simp only[List.singleton_append,dN]at *
  refine Sq.bind _ (Gp b P B Q x hB ho hn') (fun z hz=>?_);cases z with
  | inr z=>exact hz.elim
  | inl z=>
   obtain⟨n,rfl,h1,h2,h3⟩:=hz;simp only[sel];have hb:B++Q=B.take n++(B.drop n++Q):=by rw[<-cJ,iM]
   rw[hb,aHP P (B.take n) (B.drop n++Q) x _ (by simp; omega) (by rw[<-hb]; exact hn')];simp only[aI,sel];refine aB.2 ⟨B.take n++x::B.drop n,by simp,?_,xH hB (fun k k1 k2=>zK (h2 k k1)) h3⟩;rw[List.perm_middle.congr_left,iM]
 ·rw[aE (by simp; omega)];by_cases c2:B.length=1
  ·obtain⟨y,rfl⟩:=Kt.1 c2;rw[aA (dI (by simp))];simp only[List.singleton_append,dN]at *
   refine Sq.bind _ (zG b P A Q y hA ho hn') (fun z hz=>?_);cases z with
   | inr z=>exact hz.elim
   | inl z=>
    obtain⟨n,rfl,h1,h2,h3⟩:=hz;simp only[sel];have hb:P++(A++y::Q)=(P++A.take n)++(A.drop n++y::Q):=by rw[cJ,<-cJ (A.take n),iM]
    rw[hb,Po (P++A.take n) (A.drop n) Q y _ _ (by simp; omega) (by simp; omega) (by rw[<-hb]; exact hn')];simp only[aI,sel];refine aB.2 ⟨A.take n++y::A.drop n,by simp,?_,xH hA (fun k k1 k2=>h2 k k1) (fun k k1 k2=>zK (h3 k k1 k2))⟩;refine List.perm_middle.trans ?_;rw[iM];exact(List.perm_append_singleton y A).symm
  ·rw[aE (by simp; omega)];rw[oV (i:=P.length) (j:=P.length+A.length+B.length) (by omega)];generalize hmid:(P.length+(P.length+A.length+B.length)) / 2=mid;have key:∀ (i0 j0:Nat),P.length<=i0->i0<=j0->j0<=P.length+A.length->j0<=mid->mid<=B.length+i0->(i0=P.length\/mid=B.length+i0)->(j0=P.length+A.length\/j0=mid) ->
     ∀ K:Int->Option (List aC),(∀ u v:Nat,u<=A.length->v<=B.length->u+v+P.length=mid->(0<u->v<B.length->ltD (B.getD v default) (A.getD (u-1) default)=false)->(0<v->u<A.length->ltD (A.getD u default) (B.getD (v-1) default)=false) ->
      Sq b (K ((P.length+u:Nat):Int)) (fun d=>∃ C,d=P++(C++Q)/\C.Perm (A++B)/\Srt C)) ->
     Sq b ((cD (fun s=>(pG (P.length:Int) ((P.length+A.length:Nat):Int) ((P.length+A.length+B.length:Nat):Int) (P++(A++(B++Q))) s).den) ((i0:Int),(j0:Int))).bind (sel K some)) (fun d=>∃ C,d=P++(C++Q)/\C.Perm (A++B)/\Srt C):=by
    intro i0 j0 h1 h2 h3 h4 h5 h6 h7 K hK;refine Sq.bind _ (Gl b P A B Q hA hB ho hn' i0 j0 mid hmid.symm h1 h2 h3 h4 h5) (fun z hz=>?_);cases z with
    | inr z=>exact hz.elim
    | inl z=>
     obtain⟨n,rfl,q1,q2,q3,q4⟩:=hz;simp only[sel];have:=hK (n-P.length) (mid-n) (by omega) (by omega) (by omega) (fun u1 u2=>?_) (fun u1 u2=>?_)
     ·rwa [show P.length+(n-P.length)=n by omega]at this
     ·have:=q3 (n-1) (by omega) (by omega)
      rwa [show mid-1-(n-1)=mid-n by omega,show n-1-P.length=n-P.length-1 by omega]at this
     ·have:=q4 n (by omega) (by omega);rw[show mid-1-n=mid-n-1 by omega]at this;exact zK this
   have body:∀ u v:Nat,u<=A.length->v<=B.length->u+v+P.length=mid->(0<u->v<B.length->ltD (B.getD v default) (A.getD (u-1) default)=false)->(0<v->u<A.length->ltD (A.getD u default) (B.getD (v-1) default)=false) ->
     Sq b ((if decide (((P.length+u:Nat):Int)<((P.length+A.length:Nat):Int))=true then some (decide (((P.length+A.length:Nat):Int)<IntKind.i64.wrap (IntKind.i64.wrap ((mid:Int)+((P.length+A.length:Nat):Int))-((P.length+u:Nat):Int)))) else some false).bind fun j27=>
      (if j27=true then (wF ((P.length+u:Nat):Int) ((P.length+A.length:Nat):Int) (IntKind.i64.wrap (IntKind.i64.wrap ((mid:Int)+((P.length+A.length:Nat):Int))-((P.length+u:Nat):Int))) (P++(A++(B++Q)))).bind (fun r=>some r) else some (P++(A++(B++Q)))).bind fun j28=>
      (if decide ((P.length:Int)<((P.length+u:Nat):Int))=true then some (decide (((P.length+u:Nat):Int)<(mid:Int))) else some false).bind fun j30=>
      (if j30=true then (f.1 ((P.length:Int),((P.length+u:Nat):Int),(mid:Int),j28)).bind (fun r=>some r) else some j28).bind fun j31=>
      (if decide ((mid:Int)<IntKind.i64.wrap (IntKind.i64.wrap ((mid:Int)+((P.length+A.length:Nat):Int))-((P.length+u:Nat):Int)))=true then some (decide (IntKind.i64.wrap (IntKind.i64.wrap ((mid:Int)+((P.length+A.length:Nat):Int))-((P.length+u:Nat):Int))<((P.length+A.length+B.length:Nat):Int))) else some false).bind fun j33=>
      (if j33=true then (f.1 ((mid:Int),IntKind.i64.wrap (IntKind.i64.wrap ((mid:Int)+((P.length+A.length:Nat):Int))-((P.length+u:Nat):Int)),((P.length+A.length+B.length:Nat):Int),j31)).bind (fun r=>some r) else some j31).bind fun j34=>some j34)
      (fun d=>∃ C,d=P++(C++Q)/\C.Perm (A++B)/\Srt C):=by
    intro u v hu hv huv f1 f2;have w2:IntKind.i64.wrap (IntKind.i64.wrap ((mid:Int)+((P.length+A.length:Nat):Int))-((P.length+u:Nat):Int))=((P.length+A.length+v:Nat):Int):=by rw[dP (by omega),eR (by omega) (by omega)]; congr 1; omega
    rw[w2];simp only[oF,aI];have eA:=iM u A;have eB:=iM v B;have lA1:(A.take u).length=u:=by simp; omega
    have lB1:(B.take v).length=v:=by simp; omega
    have lA2:(A.drop u).length=A.length-u:=by simp
    have lB2:(B.drop v).length=B.length-v:=by simp
    have hs:P++(A++(B++Q))=(P++A.take u)++(A.drop u++(B.take v++(B.drop v++Q))):=by
     conv=>lhs; rw[<-eA,<-eB]
     simp only[cJ]
    refine Sq.bind (fun d=>d=P++(A.take u++(B.take v++(A.drop u++(B.drop v++Q))))) ?_ (fun j28 h28=>?_)
    ·by_cases hc:(((P.length+u:Nat):Int)<((P.length+A.length:Nat):Int))/\(((P.length+A.length:Nat):Int)<((P.length+A.length+v:Nat):Int))
     ·rw[aA (by simpa using hc)];rw[hs]at hn' ⊢;have h:=Js b (P++A.take u) (A.drop u) (B.take v) (B.drop v++Q) (fun h0=>by have:=congrArg List.length h0; simp only[fC,fH]at this; omega) (fun h0=>by have:=congrArg List.length h0; simp only[cE,fH]at this; omega)
       ((P.length+u:Nat):Int) ((P.length+A.length:Nat):Int) ((P.length+A.length+v:Nat):Int) (by simp; omega) (by simp; omega) (by simp; omega) hn'
      refine Sq.bind _ h (fun d hd=>aB.2 ?_);rw[hd]; simp only[cJ]
     ·rw[aE (by simpa using hc)];refine aB.2 ?_;rw[hs];by_cases hu':u=A.length
      ·have:A.drop u=[]:=by subst hu'; simp
       rw[this]; simp
      ·have:v=0:=by omega
       subst this; simp
    subst h28;have oD:kH (P++(A.take u++(B.take v++(A.drop u++(B.drop v++Q))))):=by refine ho.perm ?_;rw[hs];simp only[cJ];exact Bd _ (Bd _ (List.perm_append_comm_assoc _ _ _))
    refine Sq.bind (fun d=>∃ C,d=P++(C++(A.drop u++(B.drop v++Q)))/\C.Perm (A.take u++B.take v)/\Srt C) ?_ (fun j31 h31=>?_)
    ·by_cases hc:((P.length:Int)<((P.length+u:Nat):Int))/\(((P.length+u:Nat):Int)<(mid:Int))
     ·rw[aA (by simpa using hc)];have e:((P.length:Int),((P.length+u:Nat):Int),(mid:Int),P++(A.take u++(B.take v++(A.drop u++(B.drop v++Q)))))=gQ P (A.take u) (B.take v) (A.drop u++(B.drop v++Q)):=by unfold gQ; rw[lA1,lB1,<-huv]; simp; omega
      rw[e];refine Sq.bind _ (hrec _ _ _ _ (fun h0=>by have:=congrArg List.length h0; simp only[cE,fH]at this; omega) (fun h0=>by have:=congrArg List.length h0; simp only[cE,fH]at this; omega) (hA.take u) (hB.take v) oD (by simp; omega) (by omega)) (fun d hd=>aB.2 hd)
     ·rw[aE (by simpa using hc)];refine aB.2 ⟨A.take u++B.take v,by simp,.refl _,?_⟩;by_cases hu':u=0
      ·subst hu'; simpa using hB.take v
      ·have:v=0:=by omega
       subst this; simpa using hA.take u
    obtain⟨C,rfl,pC,sC⟩:=h31;have lC:C.length=u+v:=by rw[pC.length_eq]; simp; omega
    have fin:∀ D:List aC,D.Perm (A.drop u++B.drop v)->Srt D->Srt (C++D)/\(C++D).Perm (A++B):=fun D pD sD=>aFS hA hB hu hv f1 f2 pC pD sC sD;refine Sq.bind (fun d=>∃ C,d=P++(C++Q)/\C.Perm (A++B)/\Srt C) ?_ (fun j34 h34=>aB.2 h34);by_cases hc:((mid:Int)<((P.length+A.length+v:Nat):Int))/\(((P.length+A.length+v:Nat):Int)<((P.length+A.length+B.length:Nat):Int))
    ·rw[aA (by simpa using hc)];have e:((mid:Int),((P.length+A.length+v:Nat):Int),((P.length+A.length+B.length:Nat):Int),P++(C++(A.drop u++(B.drop v++Q))))=gQ (P++C) (A.drop u) (B.drop v) Q:=by unfold gQ; rw[lA2,lB2,<-huv]; simp; omega
     rw[e];refine Sq.bind _ (hrec _ _ _ _ (fun h0=>by have:=congrArg List.length h0; simp only[fC,fH]at this; omega) (fun h0=>by have:=congrArg List.length h0; simp only[fC,fH]at this; omega) (hA.drop u) (hB.drop v) ?_ (by simp; omega) (by omega)) (fun d hd=>?_)
     ·refine oD.perm ?_;rw[cJ];refine Bd _ ?_;rw[<-cJ];exact List.Perm.append_right _ pC.symm
     ·obtain⟨D,rfl,pD,sD⟩:=hd;exact aB.2 ⟨C++D,by simp,(fin D pD sD).2,(fin D pD sD).1⟩
    ·rw[aE (by simpa using hc)];have:=fin (A.drop u++B.drop v) (.refl _) (by
      by_cases hu':u=A.length
      ·have:A.drop u=[]:=by subst hu'; simp
       rw[this]; simpa using hB.drop v
      ·have:B.drop v=[]:=by rw[show v=B.length by omega]; simp
       rw[this]; simpa using hA.drop u)
     exact aB.2 ⟨C++(A.drop u++B.drop v),by simp,this.2,this.1⟩
   by_cases hm:mid<P.length+A.length
   ·rw[aA (by simp; omega)];simp only[aI];rw[dP (n:=mid) (m:=P.length+A.length) (by omega),eR (n:=mid+(P.length+A.length)) (by omega) (by omega),<-dP (n:=mid) (m:=P.length+A.length) (by omega)];exact key (mid+(P.length+A.length)-(P.length+A.length+B.length)) mid (by omega) (by omega) (by omega) (by omega) (by omega) (by omega) (by omega) _ body
   ·rw[aE (by simp; omega)];simp only[aI];exact key P.length (P.length+A.length) (by omega) (by omega) (by omega) (by omega) (by omega) (by omega) (by omega) _ body
theorem Lf(P A B Q:List aC)(hA0:A≠[])(hB0:B≠[])(hA:Srt A)(hB:Srt B)(ho:kH (P++(A++(B++Q))))(hn:(P++(A++(B++Q))).length<=1000000000000000):
  Sp (Ty (P.length:Int) ((P.length+A.length:Nat):Int) ((P.length+A.length+B.length:Nat):Int) (P++(A++(B++Q)))) (fun d=>∃ C,d=P++(C++Q)/\C.Perm (A++B)/\Srt C):=by
 have h:=mH (C:=fun (a:Int×Int×Int×List aC) (x:Option (List aC))=>fD Proofs.Tryz.prog 272 [.own 30000,.t (.int .i64 (a.1)),.t (.int .i64 (a.2.1)),.t (.int .i64 (a.2.2.1)),.fn (.func 183) 0 []] [(30000,.arr 50 3 (a.2.2.2.length) (eF aH a.2.2.2))] [30000] x (fun (y:List aC)=>.tup []) (fun (y:List aC)=>[(30000,.arr 50 3 (y.length) (eF aH y))]))
  (fun a=>⟨bU Proofs.Tryz.func272 (by kernel_rfl),fun _ h=>nomatch h⟩) (fun rec a=>As rec a.1 a.2.1 a.2.2.1 a.2.2.2) (fun rec a=>Ky rec a.1 a.2.1 a.2.2.1 a.2.2.2)
  aYG (fun a=>(a.2.2.1-a.1).toNat) aSS (fun b f a ha hrec=>?_) true (gQ P A B Q) ⟨P,A,B,Q,rfl,hA0,hB0,hA,hB,ho,hn⟩
 ·exact h.imp fun d hd=>hd P A B Q rfl
 ·obtain⟨P,A,B,Q,rfl,hA0,hB0,hA,hB,ho,hn⟩:=ha;refine(aUS b f P A B Q hA0 hB0 hA hB ho hn (fun P' A' B' Q' a1 a2 a3 a4 a5 a6 a7=>?_)).imp fun d hd P' A' B' Q' he=>?_
  ·exact(hrec (gQ P' A' B' Q') ⟨P',A',B',Q',rfl,a1,a2,a3,a4,a5,a6⟩ (by simp only[gQ]; omega)).imp fun d hd=>hd P' A' B' Q' rfl
  ·obtain⟨rfl,rfl,rfl,rfl⟩:=Ah he;exact hd
def eX(a b:Nat)(l:List aC):Prop:=∀ i j,a<=i->i<j->j<b->ltD (l.getD j default) (l.getD i default)=false
structure PI (a b:Nat)(l d:List aC):Prop where
 len:d.length=l.length
 out:∀ k,k<a\/b<=k->d.getD k default=l.getD k default
 perm:d.Perm l
theorem eX.congr{b:Nat}{d:List aC}(h:eX a b l)(he:∀ k,a<=k->k<b->d.getD k default=l.getD k default):eX a b d:=by intro i j h1 h2 h3;rw[he i h1 (by omega),he j (by omega) h3];exact h i j h1 h2 h3
theorem eX.sub{b a' b':Nat}(h:eX a b l)(h1:a<=a')(h2:b'<=b):eX a' b' l:=fun i j q1 q2 q3=>h i j (by omega) q2 (by omega)
theorem tR(a m b:Nat)(l:List aC)(h1:a<m)(h2:m<b)(h3:b<=l.length)(ha:eX a m l)(hb:eX m b l)(ho:kH l)(hn:l.length<=1000000000000000):
  Sp (Ty (a:Int) (m:Int) (b:Int) l) (fun d=>PI a b l d/\eX a b d):=by
 have e:l=l.take a++((l.drop a).take (m-a)++((l.drop m).take (b-m)++l.drop b)):=by
  have e1:l.drop m=(l.drop m).take (b-m)++l.drop b:=by
   conv=>lhs; rw[<-iM (b-m) (l.drop m)]
   rw[wY,show m+(b-m)=b by omega]
  have e2:l.drop a=(l.drop a).take (m-a)++l.drop m:=by
   conv=>lhs; rw[<-iM (m-a) (l.drop a)]
   rw[wY,show a+(m-a)=m by omega]
  rw[<-e1,<-e2,iM]
 have lP:(l.take a).length=a:=by simp; omega
 have lA:((l.drop a).take (m-a)).length=m-a:=by simp; omega
 have lB:((l.drop m).take (b-m)).length=b-m:=by simp; omega
 have gA:∀ k,k<m-a->((l.drop a).take (m-a)).getD k default=l.getD (a+k) default:=by intro k hk;rw[bK (by omega),bK (by omega)]; simp
 have gB:∀ k,k<b-m->((l.drop m).take (b-m)).getD k default=l.getD (m+k) default:=by intro k hk;rw[bK (by omega),bK (by omega)]; simp
 have h:=Lf (l.take a) ((l.drop a).take (m-a)) ((l.drop m).take (b-m)) (l.drop b) (fun h0=>by rw[h0]at lA; simp at lA; omega) (fun h0=>by rw[h0]at lB; simp at lB; omega)
  (qF fun i j hij hj=>by rw[gA i (by omega),gA j (by omega)]; exact ha _ _ (by omega) (by omega) (by omega))
  (qF fun i j hij hj=>by rw[gB i (by omega),gB j (by omega)]; exact hb _ _ (by omega) (by omega) (by omega)) (by rw[<-e]; exact ho) (by rw[<-e]; exact hn)
 rw[lP,lA,lB,<-e,show a+(m-a)=m by omega,show m+(b-m)=b by omega]at h;refine h.imp fun d hd=>?_;obtain⟨C,rfl,pC,sC⟩:=hd;have lC:C.length=b-a:=by rw[pC.length_eq,bQ,lA,lB]; omega
 have lD:(l.drop b).length=l.length-b:=by simp
 refine⟨⟨by rw[bQ,bQ,lP,lC,lD]; omega,fun k hk=>?_,?_⟩,?_⟩
 ·rcases hk with hk | hk
  ·rw[bE,aA (by omega),bK (by omega)];by_cases hl:k<l.length
   ·rw[bK hl]; simp
   ·omega
  ·rw[bE,aE (by omega),bE,aE (by omega),lP,lC];by_cases hl:k<l.length
   ·rw[bK (by omega),bK hl]; simp; congr 1; omega
   ·rw[cG,wI (by omega),cG,wI (by omega)]
 ·conv=>rhs; rw[e]
  refine Bd _ ?_;rw[<-cJ];exact List.Perm.append_right _ pC
 ·intro i j q1 q2 q3;rw[bE,aE (by omega),bE,aA (by omega),bE,aE (by omega),bE,aA (by omega)];exact sC.get (by omega) (by omega)
theorem xS(a b:Nat)(l:List aC)(hab:a<=b)(hb:b<=l.length)(ho:kH l)(hn:l.length<=1000000000000000):Sp (Nw (a:Int) (b:Int) l) (fun d=>PI a b l d/\eX a b d):=by
 refine Sq.of_eq (aAO a b l hb hab hn ho) ?_;have h:=Sort.insertionSort_holds jB l.toArray a b hab (by simpa using hb);obtain⟨⟨h1,h2,h3⟩,h4⟩:=h;have g:∀ (k:Nat),(Sort.insertionSort ltD l.toArray a b).toList.getD k default=(Sort.insertionSort ltD l.toArray a b)[k]!:=fun k=>by rw[<-fZ]
 refine⟨⟨by simpa using h1,fun k hk=>by rw[g,h2 k hk,fZ],?_⟩,fun i j q1 q2 q3=>by rw[g,g]; exact h4 i j q1 q2 q3⟩;have h5:=Sort.permIn_mono _ _ a b 0 l.length (by omega) (by omega) (by simp) (show Sort.PermIn a b l.toArray (Sort.insertionSort ltD l.toArray a b) from ⟨h1,h2,h3⟩);have h6:=h5.2.2;rw[show l.length=l.toArray.size by simp]at h6;rw[show (Sort.insertionSort ltD l.toArray a b).extract 0 l.toArray.size=Sort.insertionSort ltD l.toArray a b by rw[<-h1]; simp]at h6;simpa using h6
theorem jH{w c:Nat}(ha:w∣a)(hc:w∣c)(h:c<a):c+w<=a:=by have:=Nat.le_of_dvd (by omega) (Nat.dvd_sub ha hc);omega
theorem Zv(l:List aC)(ho:kH l)(hn:l.length<=100000000000000):Sp (Tm (l.length:Int) l) (fun d=>d.Perm l/\Srt d):=by
 unfold Tm Vb;simp only[Tr.den,bX];refine Sq.while (fun s:List aC×Int×Int=>∃ a:Nat,s.2.1=a/\s.2.2=((a+20:Nat):Int)/\20∣a/\a<=l.length/\s.1.Perm l/\∀ c,20∣c->c+20<=a->eX c (c+20) s.1) (fun s=>(l.length-s.2.1).toNat) (fun s hs=>?_)
  ⟨0,rfl,rfl,by simp,by omega,.refl _,fun c h1 h2=>by omega⟩
 obtain⟨d,i,j⟩:=s;obtain⟨a,h1,h2,h3,h4,h5,h6⟩:=hs;simp only at h1 h2 h5 h6;subst h1 h2;have hlen:=h5.length_eq;unfold Iq;simp only[Tr.den];by_cases hc:a+20<=l.length
 ·rw[aA (by simp; omega)];refine bX.2 ((xS a (a+20) d (by omega) (by omega) (ho.perm h5.symm) (by omega)).imp fun d' hd'=>?_);rw[bF (by omega) (by omega)];refine aB.2 ⟨⟨a+20,rfl,by simp,?_,hc,hd'.1.perm.trans h5,fun c q1 q2=>?_⟩,by simp only; omega⟩
  ·omega
  ·by_cases hca:c<a
   ·exact(h6 c q1 (jH h3 q1 hca)).congr fun k k1 k2=>hd'.1.out k (.inl (by have:=jH h3 q1 hca; omega))
   ·have:c=a:=by omega
    subst this; exact hd'.2
 ·rw[aE (by simp; omega)];refine aB.2 ?_;simp only[sel];refine bX.2 ((xS a l.length d h4 (by omega) (ho.perm h5.symm) (by omega)).imp fun d2 hd2=>?_);obtain⟨p2,s2⟩:=hd2;have hp2:d2.Perm l:=p2.perm.trans h5;have b2:∀ c,20∣c->eX c (min (c+20) l.length) d2:=by
   intro c hc';by_cases hca:c<a
   ·have:=jH h3 hc' hca;exact((h6 c hc' this).congr fun k k1 k2=>p2.out k (.inl (by omega))).sub (by omega) (by omega)
   ·exact s2.sub (by omega) (by omega)
  clear h6 p2 s2;refine bX.2 ?_;refine Sq.while (fun s:List aC×Int=>∃ w:Nat,s.2=w/\0<w/\w<=400000000000000/\s.1.Perm l/\∀ c,w∣c->eX c (min (c+w) l.length) s.1) (fun s=>(l.length-s.2).toNat) (fun s hs=>?_) ⟨20,rfl,by omega,by omega,hp2,b2⟩;obtain⟨d,i⟩:=s;obtain⟨w,k1,k2,k3,k4,k5⟩:=hs;simp only at k1 k4 k5;subst k1;unfold Jw;simp only[Tr.den];by_cases hw:w<l.length
  ·rw[aA (by simp; omega)];have e2w:IntKind.i64.wrap (2*(w:Int))=((2*w:Nat):Int):=by rw[bF] <;> omega
   rw[e2w];refine bX.2 ?_;refine Sq.while (fun s:List aC×Int×Int=>∃ a:Nat,s.2.1=a/\s.2.2=((a+2*w:Nat):Int)/\(2*w)∣a/\a<=l.length/\s.1.Perm l/\(∀ c,(2*w)∣c->c+2*w<=a->eX c (c+2*w) s.1)/\∀ c,w∣c->a<=c->eX c (min (c+w) l.length) s.1) (fun s=>(l.length-s.2.1).toNat) (fun s hs=>?_)
    ⟨0,rfl,by simp,by simp,by omega,k4,fun c q1 q2=>by omega,fun c q1 q2=>k5 c q1⟩
   obtain⟨d,i,j⟩:=s;obtain⟨a,g1,g2,g3,g4,g5,g6,g7⟩:=hs;simp only at g1 g2 g5 g6 g7;subst g1 g2;have hlen:=g5.length_eq;have gw:w∣a:=Nat.dvd_trans ⟨2,by omega⟩ g3;have gw':w∣a+w:=Nat.dvd_add gw (Nat.dvd_refl w);unfold Jg;simp only[Tr.den];by_cases hb:a+2*w<=l.length
   ·rw[aA (by simp; omega),dP (by omega),e2w,dP (by omega)];refine bX.2 ((tR a (a+w) (a+2*w) d (by omega) (by omega) (by omega) ((g7 a gw (by omega)).sub (by omega) (by omega)) ((g7 (a+w) gw' (by omega)).sub (by omega) (by omega)) (ho.perm g5.symm) (by omega)).imp fun d' hd'=>?_);refine aB.2 ⟨⟨a+2*w,rfl,rfl,Nat.dvd_add g3 (Nat.dvd_refl _),hb,hd'.1.perm.trans g5,fun c q1 q2=>?_,fun c q1 q2=>?_⟩,by simp only; omega⟩
    ·by_cases hca:c<a
     ·have:=jH g3 q1 hca;exact(g6 c q1 this).congr fun k k1 k2=>hd'.1.out k (.inl (by omega))
     ·have:c=a:=by omega
      subst this; exact hd'.2
    ·exact(g7 c q1 (by omega)).congr fun k k1 k2=>hd'.1.out k (.inr (by omega))
   ·rw[aE (by simp; omega)];refine aB.2 ?_;simp only[sel];rw[dP (by omega)];refine Sq.bind (fun d'=>d'.Perm l/\eX a l.length d'/\∀ k,k<a->d'.getD k default=d.getD k default) ?_ (fun d' hd'=>?_)
    ·by_cases hm:a+w<l.length
     ·rw[aA (by simp; omega)];refine bX.2 ((tR a (a+w) l.length d (by omega) (by omega) (by omega) ((g7 a gw (by omega)).sub (by omega) (by omega)) ((g7 (a+w) gw' (by omega)).sub (by omega) (by omega)) (ho.perm g5.symm) (by omega)).imp fun d' hd'=>?_);exact aB.2 ⟨hd'.1.perm.trans g5,hd'.2,fun k hk=>hd'.1.out k (.inl hk)⟩
     ·rw[aE (by simp; omega)];exact aB.2 ⟨g5,(g7 a gw (by omega)).sub (by omega) (by omega),fun _ _=>rfl⟩
    ·obtain⟨q1,q2,q3⟩:=hd';rw[show IntKind.i64.wrap ((w:Int)*2)=((2*w:Nat):Int) by rw[bF] <;> omega];refine aB.2 ⟨⟨2*w,rfl,by omega,by omega,q1,fun c hc'=>?_⟩,by simp only; omega⟩;by_cases hca:c<a
     ·have:=jH g3 hc' hca;exact((g6 c hc' this).congr fun k k1 k2=>q3 k (by omega)).sub (by omega) (by omega)
     ·exact q2.sub (by omega) (by omega)
  ·rw[aE (by simp; omega)];refine aB.2 ?_;simp only[sel];refine aB.2 ⟨k4,qF fun i j hij hj=>?_⟩;have:=k5 0 (by simp);rw[k4.length_eq]at hj;exact this i j (by omega) hij (by omega)
theorem aHY(l:List aC)(ho:kH l)(hn:l.length<=100000000000000):Sp (aFB l) (fun d=>d.Perm l/\Srt d):=by unfold aFB aCZ;simp only[Tr.den,bX];exact(Zv l ho hn).imp fun d hd=>aB.2 hd
abbrev Pl:=Int×List aF
def wt(p:Pl->Bool):List aC->Int
 | []=>0
 | x::l=>(if p (pl x)=true then x.N else 0)+wt p l
theorem iL(p:Pl->Bool)(l r:List aC):wt p (l++r)=wt p l+wt p r:=by
 induction l with
 | nil=>simp[wt]
 | cons x l ih=>simp only[vV,wt,ih]; omega
theorem Lu(p:Pl->Bool)(h:l.Perm r):wt p l=wt p r:=by
 induction h with
 | nil=>rfl
 | cons x _ ih=>simp only[wt,ih]
 | swap x y l=>simp only[wt]; omega
 | trans _ _ h1 h2=>exact h1.trans h2
abbrev W (n:Int):Int:=IntKind.i64.wrap n
def lJ(l r:List aC):Prop:=∀ p,W (wt p l)=W (wt p r)
theorem vN{a b c d:Int}(h:W a=W c)(h':W b=W d):W (a+b)=W (c+d):=by
 have e1:W (a+b)=W (W a+W b):=by show IntKind.i64.wrap _=IntKind.i64.wrap _; rw[mP,Jp]
 have e2:W (c+d)=W (W c+W d):=by show IntKind.i64.wrap _=IntKind.i64.wrap _; rw[mP,Jp]
 rw[e1,e2,h,h']
theorem lJ.refl(l:List aC):lJ l l:=fun _=>rfl
theorem lJ.symm{l r:List aC}(h:lJ l r):lJ r l:=fun p=>(h p).symm
theorem lJ.trans{l r s:List aC}(h:lJ l r)(h':lJ r s):lJ l s:=fun p=>(h p).trans (h' p)
theorem lJ.app{l' r':List aC}(h:lJ l r)(h':lJ l' r'):lJ (l++l') (r++r'):=fun p=>by rw[iL,iL]; exact vN (h p) (h' p)
theorem lJ.of_perm(h:l.Perm r):lJ l r:=fun p=>by rw[Lu p h]
def rR(n:Int):Prop:=-9223372036854775808<=n/\n<=9223372036854775807
theorem xY{n:Int}(h:rR n):W n=n:=bF h.1 h.2
theorem aPY(n:Int):rR (W n):=On n
structure Can (l:List aC):Prop where
 lt:l.Pairwise (fun x y=>dJ x y<0)
 nz:∀ x,x∈l->x.N≠0
 n64:∀ x,x∈l->rR x.N
theorem Can.nil:Can []:=⟨.nil,by simp,by simp⟩
theorem Can.tail(h:Can (x::l)):Can l:=⟨(lZ.1 h.lt).2,fun y hy=>h.nz y (cC _ hy),fun y hy=>h.n64 y (cC _ hy)⟩
theorem Can.head(h:Can (x::l)):∀ y,y∈l->dJ x y<0:=(lZ.1 h.lt).1
theorem Lb{p:Pl->Bool}(h:∀ y,y∈l->p (pl y)=false):wt p l=0:=by
 induction l with
 | nil=>rfl
 | cons x l ih=>simp only[wt,h x (bW),ih fun y hy=>h y (cC _ hy)]; rfl
theorem zB(h:dJ x y<0):pl x≠pl y:=by intro he;rw[uL,he,(TO.place.eq _ _).2 rfl]at h;omega
theorem lE:dJ x y=0↔pl x=pl y:=TO.place.eq (pl x) (pl y)
theorem xB:0<dJ x y↔dJ y x<0:=(TO.place.sw (pl y) (pl x)).symm
def at1(q:Pl):Pl->Bool:=fun r=>Us q r==0
theorem Mq{q r:Pl}:at1 q r=true↔q=r:=by unfold at1; rw[eE]; exact TO.place.eq _ _
theorem aCW(q:Pl):at1 q q=true:=Mq.2 rfl
theorem Nc{q r:Pl}(h:q≠r):at1 q r=false:=by
 cases hc:at1 q r with
 | false=>rfl
 | true=>exact absurd (Mq.1 hc) h
theorem Can.wt_mem(h:Can l)(hx:x∈l):wt (at1 (pl x)) l=x.N:=by
 induction l with
 | nil=>simp at hx
 | cons y l ih=>
  simp only[wt];rcases aX.1 hx with rfl | hx'
  ·rw[aA (aCW _),Lb fun z hz=>Nc (zB (h.head z hz))]; omega
  ·rw[ih h.tail hx',aE (by rw[Nc (Ne.symm (zB (h.head x hx')))]; simp)]; omega
theorem Can.wt_not{q:Pl}(hx:∀ y,y∈l->pl y≠q):wt (at1 q) l=0:=Lb fun y hy=>Nc (Ne.symm (hx y hy))
theorem aUN(h:pl x=pl y)(hn:x.N=y.N):x=y:=by cases x; cases y;simp only[pl,gP]at h hn;obtain⟨rfl,rfl⟩:=h;subst hn; rfl
theorem Can.ext:∀ {l r:List aC},Can l->Can r->lJ l r->l=r:=by
 have key:∀ {x:aC} {l r:List aC},Can (x::l)->lJ (x::l) r->(∀ y,y∈r->dJ x y<0)->False:=by intro x l r hl hs hy;have h1:=hs (at1 (pl x));rw[hl.wt_mem bW,Can.wt_not (fun y h=>Ne.symm (zB (hy y h)))]at h1;rw[xY (hl.n64 x bW)]at h1;exact hl.nz x bW h1
 intro l
 induction l with
 | nil=>
  intro r _ hr hs;cases r with
  | nil=>rfl
  | cons y r=>exact(key hr hs.symm (by simp)).elim
 | cons x l ih=>
  intro r hl hr hs;cases r with
  | nil=>exact(key hl hs (by simp)).elim
  | cons y r=>
   by_cases h1:dJ x y<0
   ·exact(key hl hs fun z hz=>by
     rcases aX.1 hz with rfl | hz
     ·exact h1
     ·exact xT h1 (hr.head z hz)).elim
   ·by_cases h2:dJ y x<0
    ·exact(key hr hs.symm fun z hz=>by
      rcases aX.1 hz with rfl | hz
      ·exact h2
      ·exact xT h2 (hl.head z hz)).elim
    ·have h3:dJ x y=0:=by have:=xB (x:=x) (y:=y);omega
     have hp:=lE.1 h3;have hn:x.N=y.N:=by have h4:=hs (at1 (pl x));rw[hl.wt_mem bW,hp,hr.wt_mem bW,xY (hl.n64 x bW),xY (hr.n64 y bW)]at h4;exact h4
     have hxy:=aUN hp hn;subst hxy;rw[ih hl.tail hr.tail fun p=>?_];have h5:=hs p;simp only[wt]at h5;have h6:=vN (a:=-(if p (pl x)=true then x.N else 0)) (c:=-(if p (pl x)=true then x.N else 0)) rfl h5
     rwa [Int.neg_add_cancel_left,Int.neg_add_cancel_left]at h6
def rO(d:aC):List aC->List aC
 | []=>if d.N=0 then [] else [d]
 | x::l=>if dJ d x<0 then (if d.N=0 then x::l else d::x::l) else if dJ d x=0 then (if W (x.N+d.N)=0 then l else ⟨x.Time,x.Row,W (x.N+d.N)⟩::l) else x::rO d l
def cons(l:List aC):List aC:=l.foldr rO []
theorem Wd(d:aC)(p:Pl->Bool):∀ l,W (wt p (rO d l))=W (wt p (d::l))
 | []=>by
  simp only[rO,wt];by_cases h:d.N=0
  ·rw[aA h,h]; simp[wt]
  ·rw[aE h]; rfl
 | x::l=>by
  simp only[rO];by_cases h1:dJ d x<0
  ·rw[aA h1];by_cases h:d.N=0
   ·rw[aA h]; simp only[wt,h]; congr 1; split <;> omega
   ·rw[aE h]
  ·rw[aE h1];by_cases h2:dJ d x=0
   ·rw[aA h2];have hp:=lE.1 h2;have e:wt p (d::x::l)=(if p (pl x)=true then x.N+d.N else 0)+wt p l:=by simp only[wt,hp]; split <;> omega
    rw[e];by_cases h3:W (x.N+d.N)=0
    ·rw[aA h3];by_cases hpx:p (pl x)=true
     ·rw[aA hpx];have h0:W (x.N+d.N)=W 0:=by rw[h3]; rfl
      have:=vN h0 (rfl:W (wt p l)=W (wt p l));rw[this]; simp
     ·rw[aE hpx]; simp
    ·rw[aE h3];simp only[wt];rw[show pl (⟨x.Time,x.Row,W (x.N+d.N)⟩:aC)=pl x from rfl];by_cases hpx:p (pl x)=true
     ·rw[aA hpx,aA hpx]; exact mP _ _
     ·rw[aE hpx,aE hpx]
   ·rw[aE h2];have ih:=Wd d p l;have:W (wt p (x::rO d l))=W (wt p (x::d::l)):=by simp only[wt]at ih ⊢;exact vN rfl ih
    rw[this];simp only[wt]; congr 1; omega
theorem Hl{d:aC}:∀ {l:List aC} {y:aC},y∈rO d l->pl y=pl d\/∃ z,z∈l/\pl y=pl z
 | [],y,h=>by
  simp only[rO]at h;split at h
  ·simp at h
  ·simp at h; exact .inl (by rw[h])
 | x::l,y,h=>by
  simp only[rO]at h;split at h
  ·split at h
   ·exact .inr ⟨y,h,rfl⟩
   ·rcases aX.1 h with rfl | h
    ·exact .inl rfl
    ·exact .inr ⟨y,h,rfl⟩
  ·split at h
   ·rename_i h2;split at h
    ·exact .inr ⟨y,cC _ h,rfl⟩
    ·rcases aX.1 h with rfl | h
     ·exact .inr ⟨x,bW,rfl⟩
     ·exact .inr ⟨y,cC _ h,rfl⟩
   ·rcases aX.1 h with rfl | h
    ·exact .inr ⟨y,bW,rfl⟩
    ·rcases Hl h with h | ⟨z,hz,he⟩
     ·exact .inl h
     ·exact .inr ⟨z,cC _ hz,he⟩
theorem nP{x' y':aC}(h:pl x=pl x')(h':pl y=pl y'):dJ x y=dJ x' y':=by rw[uL,uL,h,h']
theorem Rb{d:aC}(hd:rR d.N):∀ {l:List aC},Can l->Can (rO d l)
 | [],_=>by
  simp only[rO];split
  ·exact .nil
  ·rename_i h;exact⟨oO _ _,fun x hx=>by rw[bZ.1 hx]; exact h,fun x hx=>by rw[bZ.1 hx]; exact hd⟩
 | x::l,h=>by
  simp only[rO];split
  ·rename_i h1;split
   ·exact h
   ·rename_i h2;refine⟨lZ.2 ⟨fun y hy=>?_,h.lt⟩,fun y hy=>?_,fun y hy=>?_⟩
    ·rcases aX.1 hy with rfl | hy
     ·exact h1
     ·exact xT h1 (h.head y hy)
    ·rcases aX.1 hy with rfl | hy
     ·exact h2
     ·exact h.nz y hy
    ·rcases aX.1 hy with rfl | hy
     ·exact hd
     ·exact h.n64 y hy
  ·rename_i h1;split
   ·split
    ·exact h.tail
    ·rename_i h3;refine⟨lZ.2 ⟨fun y hy=>h.head y hy,h.tail.lt⟩,fun y hy=>?_,fun y hy=>?_⟩
     ·rcases aX.1 hy with rfl | hy
      ·exact h3
      ·exact h.tail.nz y hy
     ·rcases aX.1 hy with rfl | hy
      ·exact aPY _
      ·exact h.tail.n64 y hy
   ·rename_i h2;have ih:=Rb hd h.tail;have hxd:dJ x d<0:=by have:=xB (x:=d) (y:=x); omega
    refine⟨lZ.2 ⟨fun y hy=>?_,ih.lt⟩,fun y hy=>?_,fun y hy=>?_⟩
    ·rcases Hl hy with he | ⟨z,hz,he⟩
     ·rw[nP rfl he]; exact hxd
     ·rw[nP rfl he]; exact h.head z hz
    ·rcases aX.1 hy with rfl | hy
     ·exact h.nz y bW
     ·exact ih.nz y hy
    ·rcases aX.1 hy with rfl | hy
     ·exact h.n64 y bW
     ·exact ih.n64 y hy
def okN(l:List aC):Prop:=∀ x,x∈l->rR x.N
theorem iS(h:okN l):Can (cons l):=by
 induction l with
 | nil=>exact .nil
 | cons x l ih=>exact Rb (h x bW) (ih fun y hy=>h y (cC _ hy))
theorem iZ(l:List aC):lJ (cons l) l:=by
 induction l with
 | nil=>exact .refl _
 | cons x l ih=>intro p;rw[show cons (x::l)=rO x (cons l) from rfl,Wd];simp only[wt];exact vN rfl (ih p)
theorem Nq(h:Can r)(hl:okN l)(hs:lJ r l):cons l=r:=(iS hl).ext h ((iZ l).trans hs.symm)
theorem Gk:∀ {y:aC},y∈cons l->∃ z,z∈l/\pl y=pl z:=by
 induction l with
 | nil=>intro y hy; simp[cons]at hy
 | cons x l ih=>
  intro y hy;rcases Hl (show y∈rO x (cons l) from hy) with h | ⟨z,hz,h⟩
  ·exact⟨x,bW,h⟩
  ·obtain⟨u,hu,h'⟩:=ih hz;exact⟨u,cC _ hu,h.trans h'⟩
theorem Pb(d:aC):∀ l:List aC,(rO d l).length<=l.length+1
 | []=>by simp only[rO]; split <;> simp
 | x::l=>by
  have:=Pb d l;simp only[rO];split
  ·split <;> simp
  ·split
   ·split
    ·simp; omega
    ·simp
   ·simp; omega
theorem xF(l:List aC):(cons l).length<=l.length:=by
 induction l with
 | nil=>simp[cons]
 | cons x l ih=>have:=Pb x (cons l);show (rO x (cons l)).length<=_;simp only[dA];omega
theorem aNI(h:Can l):cons l=l:=Nq h h.n64 (.refl _)
theorem Can.filter{l:List aC}(h:Can l)(p:aC->Bool):Can (l.filter p):=⟨h.lt.filter p,fun x hx=>h.nz x (iD.1 hx).1,fun x hx=>h.n64 x (iD.1 hx).1⟩
theorem aDP(l:List aC)(h:l.length<=1000000000000):aFX l=some l:=by
 unfold aFX;refine Det.eq ?_;unfold aFM;simp only[Tr.wpT];refine⟨fun h0=>?_,?_⟩
 ·rw[aA trivial]; exact(rK h0).symm
 ·rw[aE (by simp)];refine⟨by simp only[fH]; omega,rfl⟩
theorem aEK(l:List aF)(h:l.length<=1000000000000):Wp l=some l:=by
 unfold Wp;refine Det.eq ?_;unfold aEX;simp only[Tr.wpT];refine⟨fun h0=>?_,?_⟩
 ·rw[aA trivial]; exact(rK h0).symm
 ·rw[aE (by simp)];refine⟨by simp only[fH]; omega,rfl⟩
def Ng:Pl->Bool:=fun _=>true
theorem aCK(h:ltD x y=false):¬ dJ x y<0:=iG h
theorem aBA(n:Nat)(h:n<=1000000000000):Tv (n:Int)=some []:=by
 unfold Tv Ub;simp only[Tr.den];rw[aE (cB (by omega)),show IntKind.i64.wrap ((n:Int)-0)=(n:Int) by rw[bF] <;> omega];by_cases h0:(n:Int)>0
 ·rw[aA (bO h0),aA (by simp; omega),aA (by simp)];rfl
 ·rw[aE (cB h0)]; rfl
theorem aCG(n:Nat)(h:n<=1000000000000):Tn (n:Int)=some []:=by
 unfold Tn To;simp only[Tr.den];rw[aE (cB (by omega)),show IntKind.i64.wrap ((n:Int)-0)=(n:Int) by rw[bF] <;> omega];by_cases h0:(n:Int)>0
 ·rw[aA (bO h0),aA (by simp; omega),aA (by simp)];rfl
 ·rw[aE (cB h0)]; rfl
theorem jR{α:Type}[Inhabited α](ls:List (List α))(i:Nat)(hi:i<ls.length):(ls.take (i+1)).flatten=(ls.take i).flatten++ls.getD i default:=by rw[aL hi]; simp
theorem Di{α:Type}[Inhabited α](ls:List (List α))(i:Nat):(ls.take i).flatten.length<=ls.flatten.length:=by
 have:ls.flatten=(ls.take i).flatten++(ls.drop i).flatten:=by rw[<-List.flatten_append,iM]
 rw[this,bQ]; omega
theorem aTV(ls:List (List aC))(h:ls.flatten.length<=1000000000000)(hl:ls.length<=1000000000000):G39 ls=some ls.flatten:=by
 unfold G39 T39;simp only[Tr.den];have h1:=aW (bd:=fun s=>(Ly ls s).den) (fun i=>(((ls.take i).flatten.length:Int),(i:Int))) ls.length (r:=.inl (ls.flatten.length:Int)) (fun i hi=>?_) ?_
 ·refine(congrArg (fun x=>Option.bind x _) h1).trans ?_;simp only[aI,sel];rw[aBA _ h];simp only[aI];have h2:=aW (bd:=fun s=>(La ls s).den) (fun i=>((ls.take i).flatten,(i:Int))) ls.length (r:=.inl ls.flatten) (fun i hi=>?_) ?_
  ·refine(congrArg (fun x=>Option.bind x _) h2).trans ?_;rfl
  ·unfold La;simp only[Tr.den,aQ];have:=Di ls (i+1);rw[jR ls i hi,bQ]at this;rw[aA (bO (by omega)),aA (by omega),aA (by omega),aK (by omega),jR ls i hi]
  ·unfold La;simp only[Tr.den];rw[aE (cB (by omega)),cV]
 ·unfold Ly;simp only[Tr.den,aQ];have:=Di ls (i+1);rw[jR ls i hi,bQ]at this;rw[aA (bO (by omega)),aA (by omega),aE (cB (by rw[dP (by omega)]; omega)),dP (by omega),aK (by omega),jR ls i hi,bQ]
 ·unfold Ly;simp only[Tr.den];rw[aE (cB (by omega)),cV]
theorem aKV(ls:List (List aF))(h:ls.flatten.length<=1000000000000)(hl:ls.length<=1000000000000):aVZ ls=some ls.flatten:=by
 unfold aVZ aSK;simp only[Tr.den];have h1:=aW (bd:=fun s=>(Dw ls s).den) (fun i=>(((ls.take i).flatten.length:Int),(i:Int))) ls.length (r:=.inl (ls.flatten.length:Int)) (fun i hi=>?_) ?_
 ·refine(congrArg (fun x=>Option.bind x _) h1).trans ?_;simp only[aI,sel];rw[aCG _ h];simp only[aI];have h2:=aW (bd:=fun s=>(Cy ls s).den) (fun i=>((ls.take i).flatten,(i:Int))) ls.length (r:=.inl ls.flatten) (fun i hi=>?_) ?_
  ·refine(congrArg (fun x=>Option.bind x _) h2).trans ?_;rfl
  ·unfold Cy;simp only[Tr.den,aQ];have:=Di ls (i+1);rw[jR ls i hi,bQ]at this;rw[aA (bO (by omega)),aA (by omega),aA (by omega),aK (by omega),jR ls i hi]
  ·unfold Cy;simp only[Tr.den];rw[aE (cB (by omega)),cV]
 ·unfold Dw;simp only[Tr.den,aQ];have:=Di ls (i+1);rw[jR ls i hi,bQ]at this;rw[aA (bO (by omega)),aA (by omega),aE (cB (by rw[dP (by omega)]; omega)),dP (by omega),aK (by omega),jR ls i hi,bQ]
 ·unfold Dw;simp only[Tr.den];rw[aE (cB (by omega)),cV]
structure okD (l:List aC):Prop where
 r:kH l
 n:okN l
theorem okD.app(h:okD l)(h':okD r):okD (l++r):=
 ⟨fun x hx=>(dE.1 hx).elim (h.r x) (h'.r x),fun x hx=>(dE.1 hx).elim (h.n x) (h'.n x)⟩
theorem okD.nil:okD []:=⟨fun _ h=>by simp at h,fun _ h=>by simp at h⟩
theorem okD.sub(h:okD l)(hs:∀ x,x∈r->x∈l):okD r:=⟨fun x hx=>h.r x (hs x hx),fun x hx=>h.n x (hs x hx)⟩
theorem okD.cons{l:List aC}(h:okD l):okD (cons l):=⟨fun x hx=>by
 obtain⟨z,hz,he⟩:=Gk hx;have:=h.r z hz;unfold okR at this ⊢
 rwa [show x.Row=z.Row from congrArg (·.2) he],(iS h.n).n64⟩
structure LO (K:Type)[MKey K]:Prop where
 irr:∀ a:K,MKey.lt a a=false
 tr:∀ a b c:K,MKey.lt a b=true->MKey.lt b c=true->MKey.lt a c=true
 tot:∀ a b:K,a≠b->MKey.lt a b=true\/MKey.lt b a=true
theorem lQ:∀ (x y:List UInt8),Op.bytesLess x y=decide (Lib.compareBytes x y<0)
 | [],[]=>by simp[Op.bytesLess,Lib.compareBytes]
 | _::_,[]=>by simp[Op.bytesLess,Lib.compareBytes]
 | [],_::_=>by simp[Op.bytesLess,Lib.compareBytes]
 | a::x,b::y=>by
  rw[Op.bytesLess,lQ x y,Lib.compareBytes];by_cases h1:a<b
  ·simp[h1]
  ·by_cases h2:b<a
   ·have h3:¬ a=b:=fun h=>by subst h; exact absurd h2 h1
    simp[h1,h2,h3]
   ·have h3:a=b:=UInt8.le_antisymm (UInt8.not_lt.1 h2) (UInt8.not_lt.1 h1);simp[h3]
theorem LO.bytes:LO ByteArray:=by
 have e:∀ a b:ByteArray,MKey.lt a b=decide (Ad a b<0):=fun a b=>by show Op.bytesLess a.toList b.toList=_;rw[lQ,Lib.toList_data,Lib.toList_data]; rfl
 constructor
 ·intro a;rw[e,(TO.str.eq a a).2 rfl]; rfl
 ·intro a b c h1 h2;rw[e]at h1 h2 ⊢;exact bO (TO.str.tr a b c (dX h1) (dX h2))
 ·intro a b h;rw[e,e];have h1:=TO.str.eq a b;have h2:=TO.str.sw b a;by_cases h3:Ad a b<0
  ·exact .inl (bO h3)
  ·refine .inr (bO ?_);by_cases h4:Ad a b=0
   ·exact absurd (h1.1 h4) h
   ·omega
section
variable {K V:Type} [MKey K]
def MC(v:List (K×V)):Prop:=v.Pairwise fun p q=>MKey.lt p.1 q.1=true
theorem Hg(v:List (K×V))(k k':K):bG (mdel v k) k'=if k=k' then none else bG v k':=by
 induction v with
 | nil=>simp[mdel,bG]
 | cons p v ih=>
  simp only[mdel,wL]at ih ⊢;by_cases hp:p.1=k
  ·rw[aE (by simpa using hp),ih];simp only[bG,hp];by_cases hk:k=k' <;> simp[hk]
  ·rw[aA (by simpa using hp)];simp only[bG,ih];by_cases hk:k=k'
   ·subst hk; simp[hp]
   ·simp[hk]
theorem Fx(k:K)(c:V)(k':K):∀ v:List (K×V),bG v k=none->bG (mins k c v) k'=if k=k' then some c else bG v k'
 | [],_=>by simp[mins,bG]
 | p::v,h=>by
  simp only[bG]at h;by_cases hp:p.1=k
  ·rw[aA hp]at h; cases h
  ·rw[aE hp]at h;simp only[mins];split
   ·simp only[bG]
   ·simp only[bG,Fx k c k' v h];by_cases hk:k=k'
    ·subst hk; simp[hp]
    ·simp[hk]
theorem qU(v:List (K×V))(k:K)(c:V)(k':K):bG (mput v k c) k'=if k=k' then some c else bG v k':=by unfold mput;rw[Fx k c k' _ (by rw[Hg]; simp),Hg];by_cases h:k=k' <;> simp[h]
theorem MC.mdel{v:List (K×V)}(h:MC v)(k:K):MC (mdel v k):=List.Pairwise.filter _ h
theorem aEI{k:K}{c:V}{q:K×V}:∀ {v:List (K×V)},q∈mins k c v->q=(k,c)\/q∈v
 | v,h=>by have:=(Aq k c v).mem_iff.1 h;simpa using this
theorem MC.mins(hK:LO K){k:K}{c:V}:∀ {v:List (K×V)},MC v->k∉aT v->MC (mins k c v)
 | [],_,_=>oO _ _
 | p::v,h,hk=>by
  have h1:=lZ.1 h;simp only[PL.mins];split
  ·rename_i hlt;refine lZ.2 ⟨fun q hq=>?_,h⟩;rcases aX.1 hq with rfl | hq
   ·exact hlt
   ·exact hK.tr _ _ _ hlt (h1.1 q hq)
  ·rename_i hlt;simp only[aT,gJ,aX,not_or]at hk;refine lZ.2 ⟨fun q hq=>?_,MC.mins hK h1.2 hk.2⟩;rcases aEI hq with rfl | hq
   ·rcases hK.tot k p.1 hk.1 with h2 | h2
    ·rw[h2]at hlt; cases hlt
    ·exact h2
   ·exact h1.1 q hq
theorem MC.mput(hK:LO K){v:List (K×V)}(h:MC v)(k:K)(c:V):MC (mput v k c):=(h.mdel k).mins hK (aGH v k)
theorem aKA:MC ([]:List (K×V)):=List.Pairwise.nil
theorem Zk{v:List (K×V)}{k:K}{c:V}(h:bG v k=some c):(k,c)∈v:=by
 induction v with
 | nil=>cases h
 | cons p v ih=>
  simp only[bG]at h;split at h
  ·rename_i hp;cases h;rw[<-hp]; exact bW
  ·exact cC _ (ih h)
theorem Hi{v:List (K×V)}{k:K}:k∈aT v↔∃ c,bG v k=some c:=by
 constructor
 ·intro h;cases hc:bG v k with
  | none=>exact absurd h (kX hc)
  | some c=>exact⟨c,rfl⟩
 ·rintro⟨c,hc⟩;exact cQ.2 ⟨_,Zk hc,rfl⟩
theorem MC.nodup(hK:LO K){v:List (K×V)}(h:MC v):(aT v).Nodup:=by unfold aT List.Nodup;rw[qL];refine h.imp fun {p q} hpq he=>?_;rw[he,hK.irr]at hpq;cases hpq
def kK(f:K->Int):List K->Int
 | []=>0
 | k::l=>f k+kK f l
end
theorem aWE{P:Program}{Y R:Type}{bps:List PV}{x:Option R}{ret:R->PV}{h:Con P k bps x ret}{B:R->Tr P Y}{r:R}(hx:x=some r):(Tr.ca n h B).den=(B r).den:=by subst hx; rfl
theorem Ms{P:Program}{Y:Type}{p:Prop}[Decidable p]{t:Tr P Y}(hp:p):(Tr.grd n p t).den=t.den:=aA hp
def yT(n:Int):ByteArray:=⟨(Lib.itoa n).toArray⟩
theorem qH{n:Int}(h:rR n):(yT n).size<=21:=by have:=Lib.itoa_length_le n h.1 h.2;unfold yT;show (Lib.itoa n).toArray.size<=21;simpa using this
theorem Xo{n:Int}(h:rR n):aJF n=some (yT n):=by unfold aJF; rw[aA (show -9223372036854775808<=n/\n<=9223372036854775807 from h)]; rfl
theorem sz1(x:UInt8):(⟨#[x]⟩:ByteArray).size=1:=rfl
def wD(n:Int):ByteArray:=yT n++⟨#[59]⟩
theorem Sa(n:Int):(wD n).size=(yT n).size+1:=kB
theorem mQ{n:Int}(h:rR n):(wD n).size<=22:=by have h1:=qH h;rw[Sa];exact Nat.succ_le_succ h1
theorem Sc{n:Int}(h:rR n):G51 n=some (wD n):=by unfold G51 T51;have:=qH h;simp -implicitDefEqProofs only[Tr.den,Xo h,aI];rw[aA (by rw[sz1]; omega)];rfl
theorem aNH(n:Nat)(h:n<=1000000000000):aTB (n:Int)=some (wD (n:Int)):=by unfold aTB aUL;simp only[Tr.den];rw[aE (cB (by omega)),Sc (n:=(n:Int)) ⟨by omega,by omega⟩];rfl
def Nd(s:ByteArray):ByteArray:=((yT s.size++⟨#[58]⟩)++s)++⟨#[44]⟩
theorem Kn{s:ByteArray}(h:s.size<=1073741824):(Nd s).size<=s.size+23:=by have:=qH (n:=(s.size:Int)) ⟨by omega,by omega⟩;unfold Nd;rw[kB,kB,kB,sz1,sz1];omega
theorem aTA{s:ByteArray}(h:s.size<=1073741824):G52 s=some (Nd s):=by
 have h1:=qH (n:=(s.size:Int)) ⟨by omega,by omega⟩;have h2:aJF (s.size:Int)=some (yT s.size):=Xo ⟨by omega,by omega⟩;generalize hi:yT (s.size:Int)=z at h1 h2;have e1:(z++(⟨#[58]⟩:ByteArray)).size=z.size+1:=kB;have e2:((z++(⟨#[58]⟩:ByteArray))++s).size=z.size+1+s.size:=by rw[kB,e1]
 unfold G52 T52;refine(aWE h2).trans ?_;refine(Ms ?_).trans ((Ms ?_).trans ((Ms ?_).trans ?_))
 ·rw[sz1]; omega
 ·rw[e1]; omega
 ·rw[e2,sz1]; omega
 ·unfold Nd;rw[hi];rfl
structure okV (v:aF):Prop where
 k:rR v.Kind
 n:rR v.N
 s:v.S.size<=1073741824
theorem aRA:okV default:=⟨⟨by decide,by decide⟩,⟨by decide,by decide⟩,by decide⟩
def xA(v:aF):ByteArray:=(wD v.Kind++wD v.N)++Nd v.S
theorem Iu{v:aF}(h:okV v):(xA v).size<=1073742000:=by have h1:=mQ h.k;have h2:=mQ h.n;have h3:=Kn h.s;have h4:=h.s;unfold xA;rw[kB,kB];omega
theorem aPK{v:aF}(h:okV v):aVY v=some (xA v):=by have h1:=mQ h.k;have h2:=mQ h.n;have h3:=Kn h.s;have h4:=h.s;unfold aVY aXR;simp only[Tr.den,Sc h.k,Sc h.n,aTA h.s,aI];rw[aA (by omega),kB,aA (by omega)];rfl
def Hh(r:List aF):Prop:=∀ v,v∈r->okV v
theorem Hh.get{r:List aF}(h:Hh r)(k:Nat):okV (r.getD k default):=by
 by_cases hk:k<r.length
 ·exact h _ (aR hk)
 ·rw[cG,wI (by omega)]; exact aRA
def Cf(r:List aF):ByteArray:=r.foldl (fun b v=>b++xA v) ((⟨#[]⟩:ByteArray)++wD (r.length:Int))
theorem wT(b:ByteArray):∀ (r:List aF),Hh r->(r.foldl (fun b v=>b++xA v) b).size<=b.size+r.length*1073742000
 | [],_=>by simp
 | v::r,h=>by have h1:=wT (b++xA v) r fun x hx=>h x (cC _ hx);have h2:=Iu (h v bW);rw[kB]at h1;simp only[oB,dA];omega
theorem Zi(r:List aF)(h:Hh r)(hn:r.length<=1000):aPI r=some (Cf r):=by
 have hs:=mQ (n:=(r.length:Int)) ⟨by omega,by omega⟩;unfold aPI aVT;simp only[Tr.den];rw[aNH r.length (by omega)];simp only[aI];rw[aA (by show 0+_<=_; omega)];simp only[aI];have h1:=aW (bd:=fun s=>(Cz r s).den) (fun i=>((r.take i).foldl (fun b v=>b++xA v) ((⟨#[]⟩:ByteArray)++wD (r.length:Int)),(i:Int))) r.length (r:=.inl (Cf r)) (fun i hi=>?_) ?_
 ·refine(congrArg (fun x=>Option.bind x _) h1).trans ?_;rfl
 ·unfold Cz;simp only[Tr.den,aQ];have h2:=wT ((⟨#[]⟩:ByteArray)++wD (r.length:Int)) (r.take i) fun v hv=>h v (Hq hv);have h3:=Iu (h.get i);rw[kB,show (⟨#[]⟩:ByteArray).size=0 from rfl]at h2;simp only[cE]at h2;rw[aA (bO (by omega)),aA (by omega),aPK (h.get i)];simp only[aI];rw[aA (by have:min i r.length*1073742000<=1000*1073742000:=tK (by omega) (cS _);omega)];simp only[aI];rw[aK (by omega),aL hi,zH];rfl
 ·unfold Cz;simp only[Tr.den];rw[aE (cB (by omega)),cV];rfl
def iV(n:aG)(i:Int):List Int:=if i=0 then n.Key else n.Key2
def Ny(n:aG)(i:Int)(row:List aF):ByteArray:=Cf ((iV n i).map fun c=>row.getD c.toNat default)
def Aw(cols:List Int)(row:List aF):Prop:=∀ c,c∈cols->0<=c/\c<row.length
structure okI (n:aG)(i:Int)(l:List aC):Prop where
 v:∀ d,d∈l->Hh d.Row
 c:∀ d,d∈l->Aw (iV n i) d.Row
 r:∀ d,d∈l->d.Row.length<=1000
 t:∀ d,d∈l->0<=d.Time/\d.Time<=2199023255552
 n:okN l
theorem okI.sub{n:aG}{i:Int}(h:okI n i l)(hs:∀ x,x∈r->x∈l):okI n i r:=
 ⟨fun d hd=>h.v d (hs d hd),fun d hd=>h.c d (hs d hd),fun d hd=>h.r d (hs d hd),fun d hd=>h.t d (hs d hd),fun d hd=>h.n d (hs d hd)⟩
abbrev kd (n:aG)(i:Int)(d:aC):ByteArray:=Ny n i d.Row
def bP(n:aG)(i:Int)(l:List aC):List (ByteArray×List aC):=l.foldl (fun m d=>mput m (kd n i d) ((bG m (kd n i d)).getD []++[d])) []
theorem Az(n:aG)(i:Int)(l:List aC):MC (bP n i l):=by
 unfold bP;have:∀ (l:List aC) (m:List (ByteArray×List aC)),MC m->MC (l.foldl (fun m d=>mput m (kd n i d) ((bG m (kd n i d)).getD []++[d])) m):=by
  intro l
  induction l with
  | nil=>exact fun m h=>h
  | cons d l ih=>exact fun m h=>ih _ (h.mput LO.bytes _ _)
 exact this l [] aKA
def ofK(n:aG)(i:Int)(k:ByteArray)(l:List aC):List aC:=l.filter fun d=>decide (kd n i d=k)
theorem tC(n:aG)(i:Int)(k:ByteArray)(l:List aC):bG (bP n i l) k=if ofK n i k l=[] then none else some (ofK n i k l):=by
 have:∀ (l:List aC) (m:List (ByteArray×List aC)),bG (l.foldl (fun m d=>mput m (kd n i d) ((bG m (kd n i d)).getD []++[d])) m) k=if ofK n i k l=[] then bG m k else some ((bG m k).getD []++ofK n i k l):=by
  intro l
  induction l with
  | nil=>intro m; simp[ofK]
  | cons d l ih=>
   intro m;rw[oB,ih];unfold ofK;by_cases hk:kd n i d=k
   ·rw[Gg (p:=fun d=>decide (kd n i d=k)) (bO hk),qU,aA hk,hk];by_cases h:l.filter (fun d=>decide (kd n i d=k))=[]
    ·rw[aA h,aE (by simp),h]
    ·rw[aE h,aE (by simp)]; simp
   ·rw[zJ (p:=fun d=>decide (kd n i d=k)) (cB hk),qU,aE hk]
 have:=this l [];simpa[bG,bP] using this
theorem iW(n:aG)(i:Int)(k:ByteArray)(l:List aC):(ofK n i k l).length<=l.length:=rS _ _
theorem rF(n:aG)(i:Int)(k:ByteArray)(l:List aC):(bG (bP n i l) k).getD []=ofK n i k l:=by rw[tC]; split <;> simp_all
def TS(l:List aC):Prop:=l.Pairwise fun x y=>x.Time<=y.Time
theorem aBR(h:dJ x y<0):x.Time<=y.Time:=by
 by_cases h1:y.Time<x.Time
 ·have:dJ x y=1:=by unfold dJ fX vJ;rw[aE (show ¬ x.Time<y.Time by omega),aA h1];rfl
  omega
 ·omega
theorem Can.ts(h:Can l):TS l:=h.lt.imp fun h=>aBR h
theorem TS.get(h:TS l)(hij:i<=j)(hj:j<l.length):(l.getD i default).Time<=(l.getD j default).Time:=by
 rcases Nat.lt_or_eq_of_le hij with h1 | h1
 ·rw[bK hj,bK (show i<l.length by omega)];exact wE.1 h i j (by omega) hj h1
 ·subst h1; exact iQ _
def jW(l:List aC):Prop:=∀ d,d∈l->0<=d.Time/\d.Time<=2199023255552
def fB(l:List aC)(a b:Int):List aC:=l.filter fun d=>decide (a<=d.Time)&&decide (d.Time<=b)
theorem Km(l:List aC)(a b:Int):(fB l a b).length<=l.length:=rS _ _
theorem Jf{a b:Int}{d:aC}(h:d∈fB l a b):d∈l:=(iD.1 h).1
theorem jW.get(h:jW l)(k:Nat):0<=(l.getD k default).Time/\(l.getD k default).Time<=2199023255552:=by
 by_cases hk:k<l.length
 ·exact h _ (aR hk)
 ·rw[cG,wI (by omega)]; exact⟨by decide,by decide⟩
def vQ(a b:aC)(t n:Int):aC:=⟨t,a.Row++b.Row,n⟩
def okW(l:List aC):Prop:=∀ d,d∈l->d.Row.length<=1000
theorem okW.get(h:okW l)(k:Nat):(l.getD k default).Row.length<=1000:=by
 by_cases hk:k<l.length
 ·exact h _ (aR hk)
 ·rw[cG,wI (by omega)]; decide
def rI(i:Int)(a b:aC):aC:=if i=1 then vQ b a (if b.Time>a.Time then b.Time else a.Time) (W (a.N*b.N)) else vQ a b (if b.Time>a.Time then b.Time else a.Time) (W (a.N*b.N))
def pQ(n:aG)(i:Int)(other:List aC)(a:aC):List aC:=
 (fB other (if i=1 then a.Time-n.After else a.Time-n.Before) (if i=1 then a.Time+n.Before else a.Time+n.After)).map (rI i a)
def aRP(n:aG)(i:Int)(l other:List aC):List aC:=l.flatMap (pQ n i other)
theorem Zj(n:aG)(i:Int)(other:List aC)(a:aC):(pQ n i other a).length<=other.length:=by unfold pQ; rw[bI]; exact Km _ _ _
theorem tF{f:aC->List aC}{c:Nat}(h:∀ a,(f a).length<=c)(l:List aC):(l.flatMap f).length<=l.length*c:=by
 induction l with
 | nil=>simp
 | cons a l ih=>rw[fT,bQ,dA,gN];have:=h a;omega
structure okB (n:aG):Prop where
 b:0<=n.Before/\n.Before<=10000
 a:0<=n.After/\n.After<=10000
def kO(n:aG)(right:List aC)(a:aC):List aC:=
 if fB right (a.Time-n.Keep+1) a.Time=[] then [] else [vQ a ((fB right (a.Time-n.Keep+1) a.Time).getD ((fB right (a.Time-n.Keep+1) a.Time).length-1) default) a.Time a.N]
def aRU(n:aG)(l right:List aC):List aC:=l.flatMap (kO n right)
theorem Jj(n:aG)(right:List aC)(a:aC):(kO n right a).length<=1:=by unfold kO; split <;> simp
structure Np (n:aG):Prop where
 op:(n.Op=6/\okB n)\/(n.Op=7/\1<=n.Keep/\n.Keep<=10000)
 k1:n.Key.length<=1000
 k2:n.Key2.length<=1000
theorem Np.cols{n:aG}(h:Np n)(i:Int):(iV n i).length<=1000:=by
 by_cases hi:i=0
 ·unfold iV; rw[aA hi]; exact h.k1
 ·unfold iV; rw[aE hi]; exact h.k2
theorem okI.tm{n:aG}{i:Int}(h:okI n i l):jW l:=h.t
theorem okI.w{n:aG}{i:Int}(h:okI n i l):okW l:=h.r
theorem Ev{f:aC->List aC}(h:∀ a,a∈l->okD (f a)):okD (l.flatMap f):=by
 constructor
 ·intro x hx;obtain⟨a,ha,hx⟩:=gI.1 hx;exact(h a ha).r x hx
 ·intro x hx;obtain⟨a,ha,hx⟩:=gI.1 hx;exact(h a ha).n x hx
theorem aEH{n:aG}{i:Int}(h:okW l)(h':okW r):okD (aRP n i l r):=by
 refine Ev fun a ha=>?_;unfold pQ;constructor
 ·intro x hx;obtain⟨b,hb,rfl⟩:=cQ.1 hx;have:=h a ha;have:=h' b (Jf hb);unfold rI okR vQ; split <;> simp <;> omega
 ·intro x hx;obtain⟨b,hb,rfl⟩:=cQ.1 hx;unfold rI vQ; split <;> exact aPY _
theorem aHF{n:aG}(h:okW l)(h':okW r)(hn:okN l):okD (aRU n l r):=by
 refine Ev fun a ha=>?_;unfold kO;have hr:okW (fB r (a.Time-n.Keep+1) a.Time):=fun d hd=>h' d (Jf hd);split
 ·exact .nil
 ·constructor
  ·intro x hx;rw[bZ.1 hx];have:=h a ha;have:=hr.get ((fB r (a.Time-n.Keep+1) a.Time).length-1);unfold okR vQ;simp only[bQ]; omega
  ·intro x hx;rw[bZ.1 hx];exact hn a ha
theorem jM(n:aG)(i:Int)(l:List aC):(bP n i l).length<=l.length:=by
 have:∀ (l:List aC) (m:List (ByteArray×List aC)),(l.foldl (fun m d=>mput m (kd n i d) ((bG m (kd n i d)).getD []++[d])) m).length<=m.length+l.length:=by
  intro l
  induction l with
  | nil=>intro m; simp
  | cons d l ih=>intro m;rw[oB];refine gZ (ih _) ?_;have h1:=(zV m (kd n i d) ((bG m (kd n i d)).getD []++[d])).length_eq;have h2:(mdel m (kd n i d)).length<=m.length:=rS _ _;rw[h1]; simp only[dA]; omega
 have h2:=this l [];simp only[fH,eW]at h2;exact h2
theorem aNF{n:aG}{i:Int}{k:ByteArray}(h:Can l):Can (ofK n i k l):=h.filter _
theorem aKK(a b:aF):aTT a b=some (mA a b):=by
 unfold aTT aUZ mA fX vJ;simp only[Tr.den,gY];have hs:=lQ a.S.toList b.S.toList;have h2:=lQ b.S.toList a.S.toList;rw[Lib.toList_data,Lib.toList_data]at hs h2;have e1:Op.bytesLess a.S.toList b.S.toList=decide (Ad a.S b.S<0):=by rw[Lib.toList_data,Lib.toList_data]; exact hs
 have e2:(a.S.toList==b.S.toList)=decide (Ad a.S b.S=0):=by
  rw[Bool.eq_iff_iff,eE,gY,TO.str.eq,Lib.toList_data,Lib.toList_data];constructor
  ·intro h;generalize a.S=x at h ⊢;generalize b.S=y at h ⊢;cases x; cases y; simp at h; simp[h]
  ·intro h; rw[h]
 have h3:Ad a.S b.S = -1\/Ad a.S b.S=0\/Ad a.S b.S=1:=by
  unfold Ad;generalize a.S.data.toList=x;generalize b.S.data.toList=y
  induction x generalizing y with
  | nil=>cases y <;> simp[Lib.compareBytes]
  | cons u x ih=>
   cases y with
   | nil=>simp[Lib.compareBytes]
   | cons v y=>
    rw[Lib.compareBytes];by_cases q1:u<v
    ·rw[aA q1]; exact .inl rfl
    ·rw[aE q1];by_cases q2:v<u
     ·rw[aA q2]; exact .inr (.inr rfl)
     ·rw[aE q2]; exact ih y
 rw[e1,e2];by_cases k1:a.Kind<b.Kind
 ·simp[k1]
 ·by_cases k2:b.Kind<a.Kind
  ·simp[k1,k2]
  ·by_cases n1:a.N<b.N
   ·simp[k1,k2,n1]
   ·by_cases n2:b.N<a.N
    ·simp[k1,k2,n1,n2]
    ·rcases h3 with h | h | h <;> simp[k1,k2,n1,n2,h]
theorem Vr(a b:List aF)(ha:a.length<=1073741824)(hb:b.length<=1073741824):aVF a b=some (Ct a b):=by
 refine Sp.eq ?_;unfold aVF aVG;simp only[Tr.den,bX];refine Sq.while (fun k:Int=>0<=k/\k<=a.length/\k<=b.length/\Ct (a.drop k.toNat) (b.drop k.toNat)=Ct a b) (fun k=>a.length-k.toNat) (fun k hk=>?_) ⟨by omega,by omega,by omega,by simp⟩;obtain⟨h0,h1,h2,h3⟩:=hk;unfold Xk;simp only[Tr.den,aKK,aI];have stop:(k=a.length\/k=b.length)->Sp (sel (fun _:Unit=>if decide ((a.length:Int)<(b.length:Int))=true then some (-1:Int) else if decide ((a.length:Int)>(b.length:Int))=true then some 1 else some 0) some (Sum.inl ())) (fun z=>z=Ct a b):=by
  intro hk;simp only[sel];rcases hk with hk | hk
  ·rw[jN (show a.length<=k.toNat by omega)]at h3;by_cases hl:(a.length:Int)<b.length
   ·rw[aA (bO hl)];rw[cU (show k.toNat<b.length by omega)]at h3;exact aB.2 h3
   ·rw[aE (cB hl),aE (cB (by omega))];rw[jN (show b.length<=k.toNat by omega)]at h3;exact aB.2 h3
  ·rw[jN (show b.length<=k.toNat by omega)]at h3;rw[aE (cB (by omega))];by_cases hl:(a.length:Int)>b.length
   ·rw[aA (bO hl)];rw[cU (show k.toNat<a.length by omega)]at h3;exact aB.2 h3
   ·rw[aE (cB (by omega))];rw[jN (show a.length<=k.toNat by omega)]at h3;exact aB.2 h3
 by_cases hk:k<a.length
 ·rw[aA (bO hk)];simp only[aI];by_cases hk':k<b.length
  ·rw[aA (bO hk'),aA ⟨h0,hk⟩,aA ⟨h0,hk'⟩];rw[cU (show k.toNat<a.length by omega),cU (show k.toNat<b.length by omega)]at h3;simp only[rH]at h3;by_cases hz:mA (a.getD k.toNat default) (b.getD k.toNat default)=0
   ·rw[aE (Ia hz),bF (by omega) (by omega)];refine aB.2 ⟨⟨by omega,by omega,by omega,?_⟩,by omega⟩;rw[show (k+1).toNat=k.toNat+1 by omega]; refine Eq.trans ?_ h3; simp only[fX,hz,eJ]
   ·rw[aA (Oh hz)];refine aB.2 (aB.2 ?_);refine Eq.trans ?_ h3; simp only[fX,aE hz]
  ·rw[aE (cB hk')];exact aB.2 (stop (.inr (by omega)))
 ·rw[aE (cB hk)];exact aB.2 (stop (.inl (by omega)))
section
variable {P:Program} {A R:Type}
theorem aHN{C:A->Option R->Prop}(c0:∀ a,C a none)(B:{f:A->Option R // ∀ a,C a (f a)}->A->Tr P R)(ok:∀ f a,C a (B f a).den)(I:Nat->A->Prop)(Q:A->R->Prop)
  (h:∀ b f n a,I n a->(∀ m a',m<n->I m a'->Sq b (f.1 a') (Q a'))->Sq b (B f a).den (Q a)):∀ k n a,I n a->Sq (decide (n<k)) ((aBN c0 B ok k).1 a) (Q a):=by
 intro k
 induction k with
 | zero=>intro n a ha; exact⟨fun y hy=>(by cases hy),fun hb=>by simp at hb⟩
 | succ k ih=>intro n a ha;refine h _ _ n a ha fun m a' hm ha'=>?_;have h1:=ih m a' ha';exact⟨h1.1,fun hb=>h1.2 (by simp at hb ⊢; omega)⟩
theorem aGR{C:A->Option R->Prop}(c0:∀ a,C a none)(B:{f:A->Option R // ∀ a,C a (f a)}->A->Tr P R)(ok:∀ f a,C a (B f a).den)(I:Nat->A->Prop)(Q:A->R->Prop)
  (h:∀ b f n a,I n a->(∀ m a',m<n->I m a'->Sq b (f.1 a') (Q a'))->Sq b (B f a).den (Q a))(b:Bool)(n:Nat)(a:A)(ha:I n a):Sq b (vL c0 B ok a) (Q a):=by
 have h1:=aHN c0 B ok I Q h;unfold vL Lim;split
 ·rename_i hh;obtain⟨k,hk⟩:=hh.choose_spec;exact aB.2 ((h1 k n a ha).1 _ hk)
 ·rename_i hh;exfalso;have h2:=h1 (n+1) n a ha;obtain⟨y,hy⟩:=Bk.1 (h2.2 (by simp));exact hh ⟨y,_,hy⟩
end
theorem mZ{S R:Type}{b:Bool}{bd:S->Option (S⊕R)}(idx:S->Int)(N:Nat)(hN:N<=1000000000000000)(I:S->Prop){Q:R->Prop}
  (h:∀ s (k:Nat),I s->idx s=k->k<=N->Sq b (bd s) (sel (fun s'=>idx s'=IntKind.i64.wrap ((k:Int)+1)/\k<N/\I s') Q)){s:S}(hs:I s)(h0:idx s=0):Sq b (cD bd s) Q:=by
 refine Sq.while (fun s=>I s/\∃ k:Nat,idx s=k/\k<=N) (fun s=>N-(idx s).toNat) (fun s hs=>?_) ⟨hs,0,h0,by omega⟩;obtain⟨hI,k,hk,hkN⟩:=hs;refine(h s k hI hk hkN).imp fun z hz=>?_;cases z with
 | inr r=>exact hz
 | inl s'=>obtain⟨q1,q2,q3⟩:=hz;rw[aK (by omega)]at q1;exact⟨⟨q3,k+1,q1,by omega⟩,by rw[q1,hk]; omega⟩
inductive OkE (fs:List aU):Nat->Nat->Nat->bS->Prop
 | mk {nc np h:Nat} {e:bS} (k:Nat) (hm:Nat->Nat) (hs:e.S.size<=1048576) (hl:e.Args.length<=1048576) (ho:0<=e.Op/\e.Op<=22)
   (hlt:∀ i,hm i<h) (hA:∀ i,i<e.Args.length->OkE fs nc np (hm i) (e.Args.getD i default))
   (c3:e.Op=3->0<=e.N/\e.N<nc) (c4:e.Op=4->0<=e.N/\e.N<np) (c1:e.Op=6\/e.Op=7\/e.Op=20->1<=e.Args.length) (c2:8<=e.Op/\e.Op<=19->2<=e.Args.length)
   (c21:e.Op=21->3<=e.Args.length) (c22:e.Op=22->0<=e.N/\e.N<fs.length/\k<h) (hb:e.Op=22->OkE fs 0 e.Args.length k (fs.getD e.N.toNat default).Body):OkE fs nc np h e
def Sm(v:aF):Prop:=v.S.size<=1073741824
structure OkF (fs:List aU)(nc np:Nat)(f:gG):Prop where
 fs:f.funcs_=fs
 nc:f.row_.length=nc
 np:f.params_.length=np
 row:∀ v,v∈f.row_->Sm v
 params:∀ v,v∈f.params_->Sm v
theorem sQ(n:Int):Sm (vI n):=by show (0:Nat)<=_; omega
theorem By(b:Bool):Sm (vB b):=by show (0:Nat)<=_; omega
theorem De{l:List aF}(h:∀ v,v∈l->Sm v)(hi:i<l.length):Sm (l.getD i default):=h _ (aR hi)
theorem lK{c:Prop}[Decidable c]{x y:aF}(hx:Sm x)(hy:Sm y):Sm (if c then x else y):=by split <;> assumption
theorem mB(op:Int)(a b:aF):Sm (bop op a b):=by unfold bop;refine lK (sQ _) (lK (sQ _) (lK (sQ _) (lK (lK (sQ _) (sQ _)) (lK (lK (sQ _) (sQ _)) (lK (By _) (lK (By _) (lK (By _) (lK (By _) (lK (By _) (lK (By _) ?_))))))))));show ((a.S++b.S).extract 0 (min 200 (a.S.size+b.S.size))).size<=1073741824;rw[ByteArray.size_extract]; omega
theorem aPH(fs:List aU)(nc np n:Nat)(f:gG)(e:bS)(hf:OkF fs nc np f)(he:OkE fs nc np n e):Sp (aUQ f e) Sm:=by
 refine aGR (C:=fun (a:gG×bS) (x:Option (aF))=>Con Proofs.Tryz.prog 171 [.t (jK a.1),.t (dH a.2)] x (fun (y:aF)=>.t (cP y))) (fun a=>⟨bU Proofs.Tryz.func171 (by kernel_rfl),fun _ h=>nomatch h⟩) (fun rec a=>Sb rec a.1 a.2) (fun rec a=>Mb rec a.1 a.2)
  (fun n a=>∃ fs nc np,OkF fs nc np a.1/\OkE fs nc np n a.2) (fun _=>Sm) (fun b r n a ha hrec=>?_) true n (f,e) ⟨fs,nc,np,hf,he⟩
 clear hf he fs nc np f e;obtain⟨f,e⟩:=a;obtain⟨fs,nc,np,hf,he⟩:=ha;simp only at hf he ⊢;have hfun:=hf.fs;cases he with
 | mk k' hm hs hl ho hlt hA c3 c4 c1 c2 c21 c22 hb=>
 have hr:∀ i,i<e.Args.length->Sq b (r.1 (f,e.Args.getD i default)) Sm:=fun i hi=>hrec _ _ (hlt i) ⟨fs,nc,np,hf,hA i hi⟩;unfold Sb;by_cases h21:e.Op=21
 ·have hl3:=c21 h21;simp only[h21,Tr.den];rw[aA (by decide),aA (by omega)];refine Sq.bind _ (hr 0 (by omega)) fun v1 _=>?_;split
  ·rw[aA (by omega)];refine Sq.bind _ (hr 1 (by omega)) fun v2 h2=>aB.2 h2
  ·rw[aA (by omega)];refine Sq.bind _ (hr 2 (by omega)) fun v2 h2=>aB.2 h2
 ·simp only[Tr.den];rw[aE (by simpa using h21)];refine bX.2 (mZ (fun s:List aF×Int=>s.2) e.Args.length (by omega) (fun s=>(s.1.length:Int)=s.2/\∀ v,v∈s.1->Sm v) (fun s k hI hk hkN=>?_) ⟨rfl,fun v hv=>by cases hv⟩ rfl);obtain⟨b6,v5⟩:=s;obtain⟨hbl,hbs⟩:=hI;simp only at hk hbl hbs;subst hk;unfold Lo;simp only[Tr.den,aQ];by_cases hc:k<e.Args.length
  ·rw[aA (bO (by omega)),aA (by omega)];refine Sq.bind _ (hr k hc) fun v hv=>?_;rw[aA (by simp only[dN]; omega)];refine aB.2 ⟨rfl,hc,?_,fun u hu=>?_⟩
   ·simp only[bQ,dN]; rw[aK (by omega)]; omega
   ·rcases dE.1 hu with h | h
    ·exact hbs u h
    ·cases bZ.1 h; exact hv
  ·rw[aE (cB (by omega))];refine aB.2 ?_;have hbe:b6.length=e.Args.length:=by omega
   show Sq b _ Sm;simp only[sel];have z0:(0:Int).toNat=0:=rfl;have z1:(1:Int).toNat=1:=rfl;have hop:e.Op=0\/e.Op=1\/e.Op=2\/e.Op=3\/e.Op=4\/e.Op=5\/e.Op=6\/e.Op=7\/e.Op=20\/e.Op=22\/(8<=e.Op/\e.Op<=19):=by omega
   rcases hop with h | h | h | h | h | h | h | h | h | h | h
   ·rw[aA (by rw[h]; rfl),gW]; exact aB.2 (sQ _)
   ·simp (decide:=true) only[h,↓reduceIte];exact aB.2 (by show e.S.size<=_; omega)
   ·simp (decide:=true) only[h,↓reduceIte,jJ];exact aB.2 (By _)
   ·have:=c3 h;have hn:=hf.nc;simp (decide:=true) only[h,↓reduceIte];rw[aA (by omega)];exact aB.2 (De hf.row (by omega))
   ·have:=c4 h;have hn:=hf.np;simp (decide:=true) only[h,↓reduceIte];rw[aA (by omega)];exact aB.2 (De hf.params (by omega))
   ·simp (decide:=true) only[h,↓reduceIte,gW];exact aB.2 (sQ _)
   ·have:=c1 (by omega);simp (decide:=true) only[h,↓reduceIte,jJ];rw[aA ⟨trivial,by omega⟩,aA (by show 0<b6.length; omega)];exact aB.2 (By _)
   ·have:=c1 (by omega);simp (decide:=true) only[h,↓reduceIte,gW];rw[aA ⟨trivial,by omega⟩,aA (by show 0<b6.length; omega)];exact aB.2 (sQ _)
   ·have:=c1 (by omega);simp (decide:=true) only[h,↓reduceIte,gW];rw[aA ⟨trivial,by omega⟩,aA (by show 0<b6.length; omega)];exact aB.2 (sQ _)
   ·have hc2:=c22 h;simp (decide:=true) only[h,↓reduceIte];rw[aA (by rw[hfun]; omega)];rw[hfun];refine Sq.bind _ (hrec k' (_,_) hc2.2.2 ⟨fs,0,e.Args.length,⟨rfl,rfl,hbe,fun v hv=>(by cases hv),hbs⟩,hb h⟩) fun v hv=>aB.2 hv
   ·have h2:=c2 h;have p0:Sm (b6.getD 0 default):=De hbs (by omega);have p1:Sm (b6.getD 1 default):=De hbs (by omega);have d0:(0:Int)<=0/\(0:Int)<(b6.length:Int):=⟨by omega,by omega⟩;have d1:(0:Int)<=1/\(1:Int)<(b6.length:Int):=⟨by omega,by omega⟩;have d2:0<b6.length:=by omega
    have d3:1<b6.length:=by omega
    have hop:e.Op=8\/e.Op=9\/e.Op=10\/e.Op=11\/e.Op=12\/e.Op=13\/e.Op=14\/e.Op=15\/e.Op=16\/e.Op=17\/e.Op=18\/e.Op=19:=by omega
    rcases hop with h | h | h | h | h | h | h | h | h | h | h | h
    ·simp (decide:=true) only[h,↓reduceIte];change Sq b (((some 225:Option Nat).bind _).bind _) Sm;simp only[aI,Tr.den,z0,z1];rw[aA ⟨trivial,by omega⟩,aA d2,aA ⟨trivial,by omega⟩,aA d3,Xh];exact aB.2 (mB 8 (b6.getD 0 default) (b6.getD 1 default))
    ·simp (decide:=true) only[h,↓reduceIte];change Sq b (((some 226:Option Nat).bind _).bind _) Sm;simp only[aI,Tr.den,z0,z1];rw[aA ⟨trivial,by omega⟩,aA d2,aA ⟨trivial,by omega⟩,aA d3,Xw];exact aB.2 (mB 9 (b6.getD 0 default) (b6.getD 1 default))
    ·simp (decide:=true) only[h,↓reduceIte];change Sq b (((some 227:Option Nat).bind _).bind _) Sm;simp only[aI,Tr.den,z0,z1];rw[aA ⟨trivial,by omega⟩,aA d2,aA ⟨trivial,by omega⟩,aA d3,Yd];exact aB.2 (mB 10 (b6.getD 0 default) (b6.getD 1 default))
    ·simp (decide:=true) only[h,↓reduceIte];change Sq b (((some 228:Option Nat).bind _).bind _) Sm;simp only[aI,Tr.den,z0,z1];rw[aA ⟨trivial,by omega⟩,aA d2,aA ⟨trivial,by omega⟩,aA d3,Vu];exact aB.2 (mB 11 (b6.getD 0 default) (b6.getD 1 default))
    ·simp (decide:=true) only[h,↓reduceIte];change Sq b (((some 229:Option Nat).bind _).bind _) Sm;simp only[aI,Tr.den,z0,z1];rw[aA ⟨trivial,by omega⟩,aA d2,aA ⟨trivial,by omega⟩,aA d3,Za];exact aB.2 (mB 12 (b6.getD 0 default) (b6.getD 1 default))
    ·simp (decide:=true) only[h,↓reduceIte];change Sq b (((some 230:Option Nat).bind _).bind _) Sm;simp only[aI,Tr.den,z0,z1];rw[aA ⟨trivial,by omega⟩,aA d2,aA ⟨trivial,by omega⟩,aA d3,Yi];exact aB.2 (mB 13 (b6.getD 0 default) (b6.getD 1 default))
    ·simp (decide:=true) only[h,↓reduceIte];change Sq b (((some 231:Option Nat).bind _).bind _) Sm;simp only[aI,Tr.den,z0,z1];rw[aA ⟨trivial,by omega⟩,aA d2,aA ⟨trivial,by omega⟩,aA d3,Vq];exact aB.2 (mB 14 (b6.getD 0 default) (b6.getD 1 default))
    ·simp (decide:=true) only[h,↓reduceIte];change Sq b (((some 232:Option Nat).bind _).bind _) Sm;simp only[aI,Tr.den,z0,z1];rw[aA ⟨trivial,by omega⟩,aA d2,aA ⟨trivial,by omega⟩,aA d3,Wh];exact aB.2 (mB 15 (b6.getD 0 default) (b6.getD 1 default))
    ·simp (decide:=true) only[h,↓reduceIte];change Sq b (((some 233:Option Nat).bind _).bind _) Sm;simp only[aI,Tr.den,z0,z1];rw[aA ⟨trivial,by omega⟩,aA d2,aA ⟨trivial,by omega⟩,aA d3,Xp];exact aB.2 (mB 16 (b6.getD 0 default) (b6.getD 1 default))
    ·simp (decide:=true) only[h,↓reduceIte];change Sq b (((some 234:Option Nat).bind _).bind _) Sm;simp only[aI,Tr.den,z0,z1];rw[aA ⟨trivial,by omega⟩,aA d2,aA ⟨trivial,by omega⟩,aA d3,Xi];exact aB.2 (mB 17 (b6.getD 0 default) (b6.getD 1 default))
    ·simp (decide:=true) only[h,↓reduceIte];change Sq b (((some 235:Option Nat).bind _).bind _) Sm;simp only[aI,Tr.den,z0,z1];rw[aA ⟨trivial,by omega⟩,aA d2,aA ⟨trivial,by omega⟩,aA d3,Ys];exact aB.2 (mB 18 (b6.getD 0 default) (b6.getD 1 default))
    ·simp (decide:=true) only[h,↓reduceIte];change Sq b (((some 236:Option Nat).bind _).bind _) Sm;simp only[aI,Tr.den,z0,z1];rw[aA ⟨trivial,by omega⟩,aA d2,aA ⟨trivial,by omega⟩,aA d3,Xs _ (by have q0:=p0; have q1:=p1; unfold Sm at q0 q1; show (b6.getD 0 default).S.size+(b6.getD 1 default).S.size<=_; omega)];exact aB.2 (mB 19 (b6.getD 0 default) (b6.getD 1 default))
inductive OkI (ar:Nat->Nat)(n:Nat):Nat->Nat->bS->Prop
 | mk {nc np:Nat} {e:bS} (hs:e.S.size<=1048576) (hl:e.Args.length<=1048576) (ho:0<=e.Op/\e.Op<=22)
   (hA:∀ i,i<e.Args.length->OkI ar n nc np (e.Args.getD i default))
   (c3:e.Op=3->0<=e.N/\e.N<nc) (c4:e.Op=4->0<=e.N/\e.N<np) (c1:e.Op=6\/e.Op=7\/e.Op=20->1<=e.Args.length) (c2:8<=e.Op/\e.Op<=19->2<=e.Args.length)
   (c21:e.Op=21->3<=e.Args.length) (c22:e.Op=22->0<=e.N/\e.N<n/\e.Args.length=ar e.N.toNat):OkI ar n nc np e
theorem Ko(f:Nat->Nat):∀ n,∃ H,∀ i,i<n->f i<H
 | 0=>⟨0,fun i hi=>absurd hi (Ba i)⟩
 | n+1=>by
  obtain⟨H,hH⟩:=Ko f n;refine⟨H+f n+1,fun i hi=>?_⟩;rcases mG i n with h | h
  ·have:=hH i h; omega
  ·have:i=n:=by omega
   subst this; omega
theorem aLR(hB:∀ i,i<fs.length->OkI (fun k=>(fs.getD k default).Params.length) i 0 (fs.getD i default).Params.length (fs.getD i default).Body):
  ∀ j,j<=fs.length->∀ nc np e,OkI (fun k=>(fs.getD k default).Params.length) j nc np e->∃ h,OkE fs nc np h e:=by
 intro j
 induction j using Nat.strongRecOn with
 | _ j ih=>
  intro hj nc np e he
  induction he with
  | @mk e hs hl ho hA c3 c4 c1 c2 c21 c22 ihA=>
   have hc:∀ i,∃ h,i<e.Args.length->OkE fs nc np h (e.Args.getD i default):=fun i=>by
    by_cases hi:i<e.Args.length
    ·obtain⟨h,hh⟩:=ihA i hi;exact⟨h,fun _=>hh⟩
    ·exact⟨0,fun h=>absurd h hi⟩
   let hm:Nat->Nat:=fun i=>if i<e.Args.length then (hc i).choose else 0
   have hmA:∀ i,i<e.Args.length->OkE fs nc np (hm i) (e.Args.getD i default):=fun i hi=>by show OkE fs nc np (if i<e.Args.length then (hc i).choose else 0) _;rw[aA hi];exact(hc i).choose_spec hi
   obtain⟨H,hH⟩:=Ko hm e.Args.length;obtain⟨k,hk⟩:∃ k,e.Op=22->OkE fs 0 e.Args.length k (fs.getD e.N.toNat default).Body:=by
    by_cases h22:e.Op=22
    ·obtain⟨g1,g2,g3⟩:=c22 h22;obtain⟨k,hk⟩:=ih e.N.toNat (by omega) (by omega) 0 _ _ (hB e.N.toNat (by omega));exact⟨k,fun _=>by rw[g3]; exact hk⟩
    ·exact⟨0,fun h=>absurd h h22⟩
   refine⟨H+k+1,.mk k hm hs hl ho (fun i=>?_) hmA c3 c4 c1 c2 c21 (fun h=>?_) hk⟩
   ·by_cases hi:i<e.Args.length
    ·have:=hH i hi; omega
    ·show (if i<e.Args.length then (hc i).choose else 0)<_;rw[aE hi]; omega
   ·obtain⟨g1,g2,g3⟩:=c22 h;exact⟨g1,by omega,by omega⟩
theorem Ed(n:Int):aQA n=some (decide (0<=n/\n<3)):=by
 by_cases h:0<=n
 ·simp[aQA,aKJ,Tr.den,h]
 ·simp[aQA,aKJ,Tr.den,h]
def Zt(op:Int):Int:=
 if 0<=op/\op<=5 then 0 else if op=6\/op=7\/op=20 then 1 else if op=21 then 3 else if op=22 then -1 else if 5<op/\op<21 then 2 else -1
theorem Yp(op:Int):aWN op=some (Zt op):=by
 have hs:op=0\/op=1\/op=2\/op=3\/op=4\/op=5\/op=6\/op=7\/op=20\/op=21\/op=22\/(op<0\/(8<=op/\op<=19)\/22<op):=by omega
 rcases hs with h | h | h | h | h | h | h | h | h | h | h | h
 iterate 11 (subst h; rfl)
 have n0:(op==0)=false:=by simp; omega
 have n1:(op==1)=false:=by simp; omega
 have n2:(op==2)=false:=by simp; omega
 have n3:(op==3)=false:=by simp; omega
 have n4:(op==4)=false:=by simp; omega
 have n5:(op==5)=false:=by simp; omega
 have n6:(op==6)=false:=by simp; omega
 have n7:(op==7)=false:=by simp; omega
 have n20:(op==20)=false:=by simp; omega
 have n21:(op==21)=false:=by simp; omega
 have n22:(op==22)=false:=by simp; omega
 have q1:¬ (0<=op/\op<=5):=by omega
 have q2:¬ (op=6\/op=7\/op=20):=by omega
 have q3:¬ op=21:=by omega
 have q4:¬ op=22:=by omega
 unfold aWN aYO Zt;rw[aE q1,aE q2,aE q3,aE q4];simp only[Tr.den,n0,n1,n2,n3,n4,n5,n6,n7,n20,n21,n22,aI,dC,cT];by_cases h1:op>5
 ·have h1':5<op:=h1;by_cases h2:op<21
  ·rw[aA (bO h1),aA ⟨h1',h2⟩,wV h2]; rfl
  ·rw[aA (bO h1),aE (fun h=>h2 h.2),fI h2]; rfl
 ·have:¬ (5<op/\op<21):=by omega
  rw[aE (cB h1),aE this]; rfl
theorem Vv(l:List Int)(n:Int):Sp (aHC l n) (fun r=>r.2=true->0<=n/\n<l.length):=by
 unfold aHC aOM;simp only[Tr.den];by_cases h1:n<0
 ·rw[aA (bO h1)];exact aB.2 (fun h=>by cases h)
 ·rw[aE (cB h1)];by_cases h2:n>=(l.length:Int)
  ·simp only[aI,wV h2,eJ];exact aB.2 (fun h=>by cases h)
  ·simp only[aI,fI h2,dC,cT];rw[aA (by omega),aA (by omega),Ed];exact aB.2 (fun _=>by omega)
theorem aOP(fs:List aU)(n:Int)(l:List Int)(hl:l.length<=1048576):Sp (aFO fs n l) (fun r=>r.2=true->0<=n/\n<fs.length/\l.length=(fs.getD n.toNat default).Params.length):=by
 unfold aFO aLC;simp only[Tr.den];by_cases h1:n<0
 ·rw[aA (bO h1)];exact aB.2 (fun h=>by cases h)
 ·rw[aE (cB h1)];by_cases h2:n>=(fs.length:Int)
  ·simp only[aI,wV h2,eJ];exact aB.2 (fun h=>by cases h)
  ·simp only[aI,fI h2,dC,cT];rw[aA (by omega)];by_cases h3:((fs.getD n.toNat default).Params.length:Int)=(l.length:Int)
   ·rw[aE (by simpa using h3)];refine bX.2 (mZ (fun s:Int=>s) l.length (by omega) (fun _=>True) (fun s k _ hk hkN=>?_) trivial rfl);subst hk;unfold Md;simp only[Tr.den,aQ];by_cases hc:k<l.length
    ·rw[aA (bO (by omega)),aA (by omega),aA (by omega)];split
     ·exact aB.2 (aB.2 (fun h=>by cases h))
     ·exact aB.2 ⟨rfl,hc,trivial⟩
    ·rw[aE (cB (by omega))];exact aB.2 (aB.2 (fun _=>by omega))
   ·rw[aA (by simpa using h3)];exact aB.2 (fun h=>by cases h)
theorem Sq.of{α:Type}{b:Bool}{x:Option α}{Q:α->Prop}(h:Sp x Q):Sq b x Q:=⟨h.1,fun _=>h.2 rfl⟩
inductive vK:bS->Prop
 | mk {e:bS} (hs:e.S.size<=1048576) (hl:e.Args.length<=1048576) (hA:∀ i,i<e.Args.length->vK (e.Args.getD i default)):vK e
theorem sK{x:bS}(h:x∈e.Args):SizeOf.sizeOf x<SizeOf.sizeOf e:=by
 cases e with
 | mk a b s l=>have:=List.sizeOf_lt_of_mem h;simp only[bS.Args]at this;simp only[bS.mk.sizeOf_spec];omega
abbrev arF (fs:List aU)(k:Nat):Nat:=(fs.getD k default).Params.length
theorem aMV(fs:List aU)(cs ps:List Int)(e:bS)(he:vK e):Sp (aWW fs cs ps e) (fun r=>r.2=true->OkI (arF fs) fs.length cs.length ps.length e):=by
 refine mH (C:=fun (a:(List aU)×(List Int)×(List Int)×bS) (x:Option (Int×Bool))=>Con Proofs.Tryz.prog 212 [.t (eL bM (a.1)),.t (eL aY (a.2.1)),.t (eL aY (a.2.2.1)),.t (dH a.2.2.2)] x (fun (y:Int×Bool)=>.tup [.t (.int .i64 (y.1)),.t (.bool (y.2))])) (fun a=>⟨bU Proofs.Tryz.func212 (by kernel_rfl),fun _ h=>nomatch h⟩) (fun rec a=>Ux rec a.1 a.2.1 a.2.2.1 a.2.2.2) (fun rec a=>Nk rec a.1 a.2.1 a.2.2.1 a.2.2.2)
  (fun a=>vK a.2.2.2) (fun a=>SizeOf.sizeOf a.2.2.2) (fun a r=>r.2=true->OkI (arF a.1) a.1.length a.2.1.length a.2.2.1.length a.2.2.2) (fun b r a ha hrec=>?_) true (fs,cs,ps,e) he
 clear he fs cs ps e;obtain⟨fs,cs,ps,e⟩:=a;simp only at ha hrec ⊢;cases ha with
 | mk hs hl hA=>
 have hr:∀ i,i<e.Args.length->Sq b (r.1 (fs,cs,ps,e.Args.getD i default)) (fun r=>r.2=true->OkI (arF fs) fs.length cs.length ps.length (e.Args.getD i default)):=fun i hi=>hrec _ (hA i hi) (sK (aR hi));unfold Ux;simp only[Tr.den];refine bX.2 (mZ (fun s:List Int×Int=>s.2) e.Args.length (by omega) (fun s=>(s.1.length:Int)=s.2/\∀ i:Nat,(i:Int)<s.2->OkI (arF fs) fs.length cs.length ps.length (e.Args.getD i default)) (fun s k hI hk hkN=>?_) ⟨rfl,fun i hi=>absurd hi (by show ¬ ((i:Int)<0); omega)⟩ rfl);obtain⟨b3,v2⟩:=s;obtain⟨hbl,hbs⟩:=hI;simp only at hk hbl hbs;subst hk;unfold Mn;simp only[Tr.den,aQ];by_cases hc:k<e.Args.length
 ·rw[aA (bO (by omega)),aA (by omega)];refine Sq.bind _ (hr k hc) fun v hv=>?_;by_cases hv2:v.2=true
  ·rw[aE (by rw[hv2]; decide),aA (by simp only[dN]; omega)];refine aB.2 ⟨rfl,hc,?_,fun i hi=>?_⟩
   ·simp only[bQ,dN]; rw[aK (by omega)]; omega
   ·simp only at hi;rw[aK (by omega)]at hi;rcases mG i k with h | h
    ·exact hbs i (by omega)
    ·have:i=k:=by omega
     subst this; exact hv hv2
  ·rw[aA (by simp only[Bool.not_eq_true]at hv2; rw[hv2]; rfl)];exact aB.2 (aB.2 (fun h=>by cases h))
 ·rw[aE (cB (by omega))];refine aB.2 ?_;have hbe:b3.length=e.Args.length:=by omega
  have hA':∀ i,i<e.Args.length->OkI (arF fs) fs.length cs.length ps.length (e.Args.getD i default):=fun i hi=>hbs i (by omega);simp only[sel];refine Sq.bind (fun s:List Int×Bool=>s.1=b3) (by split <;> exact aB.2 rfl) (fun s hsb=>?_);obtain⟨j5,j6⟩:=s;simp only at hsb;subst hsb;cases j6 with
  | true=>exact aB.2 (fun h=>by cases h)
  | false=>
   simp only[dC,cT];by_cases h22:e.Op=22
   ·rw[aA (by rw[h22]; rfl)];refine Sq.bind _ (Sq.of (aOP fs e.N j5 (by omega))) fun r hr=>aB.2 (fun h=>?_);have h3:=hr h;exact .mk hs hl (by omega) hA' (fun h=>by omega) (fun h=>by omega) (fun h=>by omega) (fun h=>by omega) (fun h=>by omega) (fun _=>⟨h3.1,h3.2.1,by rw[<-hbe]; exact h3.2.2⟩)
   ·rw[aE (by simpa using h22),Yp];simp only[aI];by_cases hN:Zt e.Op=(j5.length:Int)
    ·rw[aE (by simpa using hN)];have hh:(0<=e.Op/\e.Op<=21)/\(e.Op=6\/e.Op=7\/e.Op=20->1<=j5.length)/\(8<=e.Op/\e.Op<=19->2<=j5.length)/\(e.Op=21->3<=j5.length):=by
      unfold Zt at hN
      repeat' split at hN
      all_goals omega
     obtain⟨ho,c1,c2,c21⟩:=hh;have fin:(e.Op=3->0<=e.N/\e.N<cs.length)->(e.Op=4->0<=e.N/\e.N<ps.length)->OkI (arF fs) fs.length cs.length ps.length e:=fun c3 c4=>
      .mk hs hl (by omega) hA' c3 c4 (fun h=>by have:=c1 h; omega) (fun h=>by have:=c2 h; omega) (fun h=>by have:=c21 h; omega) (fun h=>absurd h h22)
     clear hN;by_cases h3:e.Op=3
     ·simp (decide:=true) only[h3,↓reduceIte];refine Sq.bind _ (Sq.of (Vv cs e.N)) fun r hr=>aB.2 (fun h=>fin (fun _=>hr h) (fun h=>by omega))
     by_cases h4:e.Op=4
     ·simp (decide:=true) only[h4,↓reduceIte];refine Sq.bind _ (Sq.of (Vv ps e.N)) fun r hr=>aB.2 (fun h=>fin (fun h=>by omega) (fun _=>hr h))
     have fin':=fin (fun h=>absurd h h3) (fun h=>absurd h h4);by_cases hu:e.Op=0\/e.Op=1\/e.Op=2\/e.Op=5
     ·rcases hu with h | h | h | h
      all_goals simp (decide:=true) only[h,↓reduceIte]
      all_goals repeat' (first | exact aB.2 (fun _=>fin') | split)
     by_cases hu1:e.Op=6\/e.Op=7\/e.Op=20
     ·have g0:(0:Int)<(j5.length:Int):=by have:=c1 hu1; omega
      have g0':Int.toNat 0<j5.length:=by show 0<j5.length; omega
      rcases hu1 with h | h | h
      all_goals simp (decide:=true) only[h,g0,g0',nH,↓reduceIte]
      all_goals repeat' (first | exact aB.2 (fun _=>fin') | split)
     have l2:2<=j5.length:=by
      by_cases h:e.Op=21
      ·have:=c21 h; omega
      ·exact c2 (by omega)
     have g0:(0:Int)<(j5.length:Int):=by omega
     have g0':Int.toNat 0<j5.length:=by show 0<j5.length; omega
     have g1:(1:Int)<(j5.length:Int):=by omega
     have g1':Int.toNat 1<j5.length:=by show 1<j5.length; omega
     have hop:e.Op=8\/e.Op=9\/e.Op=10\/e.Op=11\/e.Op=12\/e.Op=13\/e.Op=14\/e.Op=15\/e.Op=16\/e.Op=17\/e.Op=18\/e.Op=19\/e.Op=21:=by omega
     rcases hop with h | h | h | h | h | h | h | h | h | h | h | h | h
     iterate 12
      ·simp (decide:=true) only[h,g0,g0',g1,g1',nH,↓reduceIte,aI]
       repeat' (first | exact aB.2 (fun _=>fin') | split)
     have l3:=c21 h;have g2:(2:Int)<(j5.length:Int):=by omega
     have g2':Int.toNat 2<j5.length:=by show 2<j5.length; omega
     simp (decide:=true) only[h,g0,g0',g1,g1',g2,g2',nH,↓reduceIte,aI]
     repeat' (first | exact aB.2 (fun _=>fin') | split)
    ·rw[aA (by simpa using hN)];exact aB.2 (fun h=>by cases h)
theorem Vo(e:bS)(h:vK e):Sp (G80 e) (fun _=>True):=by
 refine mH (C:=fun (a:bS) (x:Option (Int))=>Con Proofs.Tryz.prog 130 [.t (dH a)] x (fun (y:Int)=>.t (.int .i64 (y)))) (fun a=>⟨bU Proofs.Tryz.func130 (by kernel_rfl),fun _ h=>nomatch h⟩) (fun rec a=>T80 rec a) (fun rec a=>Rt rec a)
  vK (fun e=>SizeOf.sizeOf e) (fun _ _=>True) (fun b f e he hrec=>?_) true e h
 cases he with
 | mk hs hl hA=>
 unfold T80;simp only[Tr.den,bX];refine mZ (fun s:Int×Int=>s.2) e.Args.length (by omega) (fun _=>True) (fun s k _ hk hkN=>?_) trivial rfl;obtain⟨v1,v2⟩:=s;simp only at hk;subst hk;unfold Ue;simp only[Tr.den,aQ];by_cases hc:k<e.Args.length
 ·rw[aA (bO (by omega)),aA (by omega)];refine Sq.bind _ (hrec _ (hA k hc) (sK (aR hc))) fun r _=>aB.2 ⟨rfl,hc,trivial⟩
 ·rw[aE (cB (by omega))];exact aB.2 (aB.2 trivial)
theorem Ga(fs:List aU)(cs ps:List Int)(e:bS)(he:vK e):Sp (oP fs cs ps e) (fun r=>r.2=true->OkI (arF fs) fs.length cs.length ps.length e):=by
 unfold oP aMM;simp only[Tr.den];refine Sq.bind _ (Vo e he) fun r _=>?_;split
 ·exact aB.2 (fun h=>by cases h)
 ·refine Sq.bind _ (aMV fs cs ps e he) fun r2 h2=>?_;split
  ·exact aB.2 (fun h=>by cases h)
  ·rename_i h3;exact aB.2 (fun _=>h2 (by simpa using h3))
theorem aEL(fs:List aU)(hl:fs.length<=1048576)(hb:∀ i,i<fs.length->vK (fs.getD i default).Body/\(fs.getD i default).Params.length<=1048576):
  Sp (G82 fs) (fun ok=>ok=true->fs.length<=20/\∀ i,i<fs.length->OkI (arF (fs.take i)) (fs.take i).length 0 (fs.getD i default).Params.length (fs.getD i default).Body):=by
 unfold G82 T82;simp only[Tr.den];refine bX.2 (mZ (fun s:Int=>s) fs.length (by omega) (fun s=>∀ i:Nat,(i:Int)<s->OkI (arF (fs.take i)) (fs.take i).length 0 (fs.getD i default).Params.length (fs.getD i default).Body) (fun s k hI hk hkN=>?_) (fun i hi=>absurd hi (by show ¬ ((i:Int)<0); omega)) rfl);subst hk;unfold Ug;simp only[Tr.den,aQ];by_cases hc:k<fs.length
 ·rw[aA (bO (by omega))];by_cases h20:(k:Int)<=20
  ·simp only[aI,wV h20,eJ];rw[aA (by omega)];have hp:=(hb k hc).2;refine bX.2 (mZ (fun s:Int=>s) (fs.getD k default).Params.length (by omega) (fun _=>True) (fun s m _ hm hmN=>?_) trivial rfl);subst hm;unfold Sk;simp only[Tr.den,aQ];by_cases hm:m<(fs.getD k default).Params.length
   ·rw[aA (bO (by omega)),aA (by omega),Ed];simp only[aI];split
    ·exact aB.2 (aB.2 (aB.2 (fun h=>by cases h)))
    ·exact aB.2 ⟨rfl,hm,trivial⟩
   ·rw[aE (cB (by omega))];refine aB.2 ?_;simp only[sel];rw[aA ⟨by omega,by omega,by omega⟩];have e1:(fs.drop (Int.toNat 0)).take ((k:Int)-0).toNat=fs.take k:=by rw[show ((k:Int)-0).toNat=k by omega]; rfl
    rw[e1,aA ⟨by omega,by omega,by omega⟩];refine Sq.bind _ (Sq.of (Ga (fs.take k) [] (fs.getD k default).Params (fs.getD k default).Body (hb k hc).1)) fun r5 h5=>?_;by_cases ho:r5.2=true
    ·rw[aE (by rw[ho]; decide)];refine Sq.bind (fun _=>True) (by split <;> exact aB.2 trivial) fun j6 _=>?_;cases j6 with
     | true=>exact aB.2 (aB.2 (fun h=>by cases h))
     | false=>
      refine aB.2 ⟨rfl,hc,fun i hi=>?_⟩;rw[aK (by omega)]at hi;rcases mG i k with h | h
      ·exact hI i (by omega)
      ·have:i=k:=by omega
       subst this; exact h5 ho
    ·rw[aA (by simp only[Bool.not_eq_true]at ho; rw[ho]; rfl)];exact aB.2 (aB.2 (fun h=>by cases h))
  ·simp only[aI,fI h20,dC,cT];refine aB.2 (aB.2 (fun h=>?_));have:=dX h;omega
 ·rw[aE (cB (by omega))];simp only[aI,dC,cT];refine aB.2 (aB.2 (fun h=>⟨by have:=dX h; omega,fun i hi=>hI i (by omega)⟩))
theorem OkI.congr{ar ar':Nat->Nat}(h:∀ k,k<n->ar k=ar' k){nc np:Nat}(he:OkI ar n nc np e):OkI ar' n nc np e:=by
 induction he with
 | @mk e hs hl ho hA c3 c4 c1 c2 c21 c22 ih=>exact .mk hs hl ho ih c3 c4 c1 c2 c21 (fun h22=>by obtain⟨g1,g2,g3⟩:=c22 h22;exact⟨g1,g2,by rw[g3]; exact h _ (by omega)⟩)
theorem aHL(h:k<i):arF (fs.take i) k=arF fs k:=by unfold arF;rw[cG,cG,gM,aA h]
theorem aBK(hl:fs.length<=1048576)(hb:∀ i,i<fs.length->vK (fs.getD i default).Body/\(fs.getD i default).Params.length<=1048576)(h:G82 fs=some true)
  {cs ps:List Int}(he:vK e){t:Int}(ht:oP fs cs ps e=some (t,true)):∃ h,OkE fs cs.length ps.length h e:=by
 have h1:=(aEL fs hl hb).1 _ h rfl;refine aLR (fun i hi=>?_) fs.length (cS _) _ _ e ((Ga fs cs ps e he).1 _ ht rfl);have h2:=h1.2 i hi;rw[cE,Iw (by omega)]at h2;exact h2.congr (fun k hk=>aHL hk)
section
variable {α:Type} [Inhabited α] (tm:α->Int) (nx:Int->α->Int) (hit:Int->Bool) (sz bg:Int)
def isM(t0 now:Int)(l:List α):Bool:=decide (tm (l.getLastD default)-t0<sz)&&hit (l.foldl nx now)
def Eh:Int->List α->Nat->Int
 | _,[],_=>-1
 | i,q::qs,0=>if isM tm nx hit sz (tm q) bg [q]=true then i else -1
 | i,q::qs,k+1=>if isM tm nx hit sz (tm q) bg ((q::qs).take (k+1+1))=true then i else Eh (i+1) qs k
end
end Go.PL
