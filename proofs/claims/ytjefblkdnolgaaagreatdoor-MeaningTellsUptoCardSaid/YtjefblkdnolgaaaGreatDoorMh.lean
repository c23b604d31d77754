/-
  Parts: The kept part of a plain-law text (strip.py). Own work. The kept part of a plain-law text (strip.py). Own work. The kept part of a plain-law text (strip.py). Own work. The kept part of a plain-law text (strip.py). Own work. The kept part of a plain-law text (strip.py). Own work. The kept part of a plain-law text (strip.py). Own work. The kept part of a plain-law text (strip.py). Own work. The kept part of a plain-law text (strip.py). Own work. The kept part of a plain-law text (strip.py). Own work. The kept part of a plain-law text (strip.py). Own work. The kept part of a plain-law text (strip.py). Own work. The kept part of a plain-law text (strip.py). Own work. The kept part of a plain-law text (strip.py). Own work. The kept part of a plain-law text (strip.py). Own work. The kept part of a plain-law text (strip.py). Own work. The kept part of a plain-law text (strip.py). Own work. The kept part of a plain-law text (strip.py). Own work.
-/
import Derived.Test.YtjefblkdnolgaaaGreatDoorMg
import Derived.Lib.Strings
import Derived.Lib.ItoaLen
set_option maxHeartbeats 4000000
namespace Go.PL
open Go
set_option linter.unusedVariables false
variable {e:bF} {fs:List aS} {i:Int} {l r:List aB} {n:aG} {x y:aB}
abbrev Pl:=Int×List aE
def wt(p:Pl->Bool):List aB->Int
 | []=>0
 | x::l=>(if p (pl x)=true then x.N else 0)+wt p l
theorem jV(p:Pl->Bool)(l r:List aB):wt p (l++r)=wt p l+wt p r:=by
 induction l with
 | nil=>simp[wt]
 | cons x l ih=>simp only[vM,wt,ih]; omega
theorem Pj(p:Pl->Bool)(h:l.Perm r):wt p l=wt p r:=by
 induction h with
 | nil=>rfl
 | cons x _ ih=>simp only[wt,ih]
 | swap x y l=>simp only[wt]; omega
 | trans _ _ h1 h2=>omega
abbrev W (n:Int):Int:=IntKind.i64.wrap n
def jZ(l r:List aB):Prop:=∀ p,W (wt p l)=W (wt p r)
theorem vK{a b c d:Int}(h:W a=W c)(D:W b=W d):W (a+b)=W (c+d):=by
 have J:W (a+b)=W (W a+W b):=by show IntKind.i64.wrap _=IntKind.i64.wrap _; rw[Ag,Kj]
 have G:W (c+d)=W (W c+W d):=by show IntKind.i64.wrap _=IntKind.i64.wrap _; rw[Ag,Kj]
 rw[J,G,h,D]
theorem jZ.refl(l:List aB):jZ l l:=fun _=>rfl
theorem jZ.symm{l r:List aB}(h:jZ l r):jZ r l:=fun p=>(h p).symm
theorem jZ.trans{l r s:List aB}(h:jZ l r)(D:jZ r s):jZ l s:=fun p=>(h p).trans (D p)
theorem jZ.app{D r':List aB}(h:jZ l r)(G:jZ D r'):jZ (l++D) (r++r'):=fun p=>by rw[jV,jV]; exact vK (h p) (G p)
theorem jZ.of_perm(h:l.Perm r):jZ l r:=fun p=>by rw[Pj p h]
def oW(n:Int):Prop:=-9223372036854775808<=n/\n<=9223372036854775807
theorem aGH{n:Int}(h:oW n):W n=n:=aV h.1 h.2
theorem aRL(n:Int):oW (W n):=Nw n
structure Can (l:List aB):Prop where
 lt:l.Pairwise (fun x y=>dC x y<0)
 nz:∀ x,x∈l->x.N≠0
 n64:∀ x,x∈l->oW x.N
theorem Can.nil:Can []:=⟨.nil,by simp,by simp⟩
theorem Can.tail(h:Can (x::l)):Can l:=⟨(lQ.1 h.lt).2,fun y hy=>h.nz y (cO _ hy),fun y hy=>h.n64 y (cO _ hy)⟩
theorem Can.head(h:Can (x::l)):∀ y,y∈l->dC x y<0:=(lQ.1 h.lt).1
theorem Yc{p:Pl->Bool}(h:∀ y,y∈l->p (pl y)=false):wt p l=0:=by
 induction l with
 | nil=>rfl
 | cons x l ih=>simp only[wt,h x (cS),ih fun y hy=>h y (cO _ hy)]; rfl
theorem yL(h:dC x y<0):pl x≠pl y:=by intro he;rw[qI,he,(TO.place.eq _ _).2 rfl]at h;omega
theorem kL:dC x y=0↔pl x=pl y:=TO.place.eq (pl x) (pl y)
theorem yS:0<dC x y↔dC y x<0:=(TO.place.sw (pl y) (pl x)).symm
def at1(q:Pl):Pl->Bool:=fun r=>Ux q r==0
theorem Zm{q r:Pl}:at1 q r=true↔q=r:=by unfold at1; rw[dP]; exact TO.place.eq _ _
theorem aFU(q:Pl):at1 q q=true:=Zm.2 rfl
theorem Xp{q r:Pl}(h:q≠r):at1 q r=false:=by
 cases hc:at1 q r with
 | false=>rfl
 | true=>exact absurd (Zm.1 hc) h
theorem Can.wt_mem(h:Can l)(hx:x∈l):wt (at1 (pl x)) l=x.N:=by
 induction l with
 | nil=>simp at hx
 | cons y l ih=>
  simp only[wt];rcases bE.1 hx with rfl | D
  ·rw[aA (aFU _),Yc fun z G=>Xp (yL (h.head z G))]; omega
  ·rw[ih h.tail D,aF (by rw[Xp (Ne.symm (yL (h.head x D)))]; simp)]; omega
theorem Can.wt_not{q:Pl}(hx:∀ y,y∈l->pl y≠q):wt (at1 q) l=0:=Yc fun y hy=>Xp (Ne.symm (hx y hy))
theorem aYU(h:pl x=pl y)(hn:x.N=y.N):x=y:=by cases x; cases y;simp only[pl,gE]at h hn;simp_all
theorem Can.ext:∀ {l r:List aB},Can l->Can r->jZ l r->l=r:=by
 have key:∀ {x:aB} {l r:List aB},Can (x::l)->jZ (x::l) r->(∀ y,y∈r->dC x y<0)->False:=by intro x l r hl hs hy;have h1:=hs (at1 (pl x));rw[hl.wt_mem cS,Can.wt_not (fun y h=>Ne.symm (yL (hy y h)))]at h1;rw[aGH (hl.n64 x cS)]at h1;exact hl.nz x cS h1
 intro l
 induction l with
 | nil=>
  intro r _ hr hs;cases r with
  | nil=>rfl
  | cons y r=>exact(key hr hs.symm (by simp)).elim
 | cons x l ih=>
  intro r hl hr hs;cases r with
  | nil=>grind
  | cons y r=>
   by_cases h1:dC x y<0
   ·exact(key hl hs fun z hz=>by
     rcases bE.1 hz with rfl | hz
     ·exact h1
     ·exact zR h1 (hr.head z hz)).elim
   ·by_cases h2:dC y x<0
    ·exact(key hr hs.symm fun z hz=>by
      rcases bE.1 hz with rfl | hz
      ·exact h2
      ·exact zR h2 (hl.head z hz)).elim
    ·have h3:dC x y=0:=by have:=yS (x:=x) (y:=y);omega
     have hp:=kL.1 h3;have hn:x.N=y.N:=by have h4:=hs (at1 (pl x));rw[hl.wt_mem cS,hp,hr.wt_mem cS,aGH (hl.n64 x cS),aGH (hr.n64 y cS)]at h4;exact h4
     have D:=aYU hp hn;subst D;rw[ih hl.tail hr.tail fun p=>?_];have G:=hs p;simp only[wt]at G;have J:=vK (a:=-(if p (pl x)=true then x.N else 0)) (c:=-(if p (pl x)=true then x.N else 0)) rfl G
     rwa [Int.neg_add_cancel_left,Int.neg_add_cancel_left]at J
def rN(d:aB):List aB->List aB
 | []=>if d.N=0 then [] else [d]
 | x::l=>if dC d x<0 then (if d.N=0 then x::l else d::x::l) else if dC d x=0 then (if W (x.N+d.N)=0 then l else ⟨x.Time,x.Row,W (x.N+d.N)⟩::l) else x::rN d l
def cons(l:List aB):List aB:=l.foldr rN []
theorem aAG(d:aB)(p:Pl->Bool):∀ l,W (wt p (rN d l))=W (wt p (d::l))
 | []=>by
  simp only[rN,wt];by_cases h:d.N=0
  ·rw[aA h,h]; simp[wt]
  ·rw[aF h]; rfl
 | x::l=>by
  simp only[rN];by_cases h1:dC d x<0
  ·rw[aA h1];by_cases h:d.N=0
   ·rw[aA h]; simp only[wt,h]; congr 1; split <;> omega
   simp_all
  ·rw[aF h1];by_cases h2:dC d x=0
   ·rw[aA h2];have hp:=kL.1 h2;have e:wt p (d::x::l)=(if p (pl x)=true then x.N+d.N else 0)+wt p l:=by simp only[wt,hp]; split <;> omega
    rw[e];by_cases h3:W (x.N+d.N)=0
    ·rw[aA h3];by_cases hpx:p (pl x)=true
     ·rw[aA hpx];have h0:W (x.N+d.N)=W 0:=by rw[h3]; rfl
      have:=vK h0 (rfl:W (wt p l)=W (wt p l));simp_all
     simp_all
    ·rw[aF h3];simp only[wt];rw[show pl (⟨x.Time,x.Row,W (x.N+d.N)⟩:aB)=pl x from rfl];by_cases hpx:p (pl x)=true
     ·rw[aA hpx,aA hpx]; exact Ag _ _
     simp_all
   ·rw[aF h2];have ih:=aAG d p l;have:W (wt p (x::rN d l))=W (wt p (x::d::l)):=by simp only[wt]at ih ⊢;exact vK rfl ih
    rw[this];simp only[wt]; grind
theorem Hc{d:aB}:∀ {l:List aB} {y:aB},y∈rN d l->pl y=pl d\/∃ z,z∈l/\pl y=pl z
 | [],y,h=>by simp only[rN]at h;simp_all
 | x::l,y,h=>by
  simp only[rN]at h;split at h
  ·grind
  ·split at h
   ·rename_i h2;split at h
    ·grind
    ·rcases bE.1 h with rfl | h
     ·exact .inr ⟨x,cS,rfl⟩
     grind
   ·rcases bE.1 h with rfl | h
    ·simp_all
    ·rcases Hc h with h | ⟨z,hz,he⟩
     all_goals grind
theorem nB{x' y':aB}(h:pl x=pl x')(D:pl y=pl y'):dC x y=dC x' y':=by rw[qI,qI,h,D]
theorem Tv{d:aB}(hd:oW d.N):∀ {l:List aB},Can l->Can (rN d l)
 | [],_=>by
  simp only[rN];split
  ·omega
  ·rename_i h;exact⟨sZ _ _,fun x hx=>by simp_all,fun x hx=>by simp_all⟩
 | x::l,h=>by
  simp only[rN];split
  ·rename_i h1;split
   ·exact h
   ·rename_i h2;refine⟨lQ.2 ⟨fun y hy=>?_,h.lt⟩,fun y hy=>?_,fun y hy=>?_⟩
    ·rcases bE.1 hy with rfl | hy
     ·exact h1
     ·exact zR h1 (h.head y hy)
    ·rcases bE.1 hy with rfl | hy
     ·exact h2
     ·exact h.nz y hy
    ·rcases bE.1 hy with rfl | hy
     ·exact hd
     ·exact h.n64 y hy
  ·rename_i h1;split
   ·split
    ·exact h.tail
    ·rename_i h3;refine⟨lQ.2 ⟨fun y hy=>h.head y hy,h.tail.lt⟩,fun y hy=>?_,fun y hy=>?_⟩
     ·rcases bE.1 hy with rfl | hy
      ·exact h3
      ·exact h.tail.nz y hy
     ·rcases bE.1 hy with rfl | hy
      ·exact aRL _
      ·exact h.tail.n64 y hy
   ·rename_i h2;have ih:=Tv hd h.tail;have hxd:dC x d<0:=by have:=yS (x:=d) (y:=x); omega
    refine⟨lQ.2 ⟨fun y hy=>?_,ih.lt⟩,fun y hy=>?_,fun y hy=>?_⟩
    ·rcases Hc hy with he | ⟨z,hz,he⟩
     ·rw[nB rfl he]; exact hxd
     ·rw[nB rfl he]; exact h.head z hz
    ·rcases bE.1 hy with rfl | hy
     ·exact h.nz y cS
     ·exact ih.nz y hy
    ·rcases bE.1 hy with rfl | hy
     ·exact h.n64 y cS
     ·exact ih.n64 y hy
def okN(l:List aB):Prop:=∀ x,x∈l->oW x.N
theorem iX(h:okN l):Can (cons l):=by
 induction l with
 | nil=>exact .nil
 | cons x l ih=>exact Tv (h x cS) (ih fun y hy=>h y (cO _ hy))
theorem jJ(l:List aB):jZ (cons l) l:=by
 induction l with
 | nil=>exact .refl _
 | cons x l ih=>intro p;rw[show cons (x::l)=rN x (cons l) from rfl,aAG];simp only[wt];exact vK rfl (ih p)
theorem aBO(h:Can r)(hl:okN l)(hs:jZ r l):cons l=r:=(iX hl).ext h ((jJ l).trans hs.symm)
theorem Gl:∀ {y:aB},y∈cons l->∃ z,z∈l/\pl y=pl z:=by
 induction l with
 | nil=>intro y hy; simp[cons]at hy
 | cons x l ih=>
  intro y hy;rcases Hc (show y∈rN x (cons l) from hy) with h | ⟨z,D,h⟩
  all_goals simp_all
theorem Qv(d:aB):∀ l:List aB,(rN d l).length<=l.length+1
 | []=>by simp only[rN]; split <;> simp
 | x::l=>by have:=Qv d l;simp only[rN];grind
theorem xG(l:List aB):(cons l).length<=l.length:=by
 induction l with
 | nil=>simp[cons]
 | cons x l ih=>have:=Qv x (cons l);show (rN x (cons l)).length<=_;grind
theorem Can.filter{l:List aB}(h:Can l)(p:aB->Bool):Can (l.filter p):=⟨h.lt.filter p,fun x hx=>h.nz x (iQ.1 hx).1,fun x hx=>h.n64 x (iQ.1 hx).1⟩
theorem aFX(l:List aB)(h:l.length<=1000000000000):aGM l=some l:=by
 unfold aGM;refine Det.eq ?_;unfold aHP;simp only[Tr.wpT];refine⟨fun D=>?_,?_⟩
 ·rw[aA trivial]; exact(zO D).symm
 ·rw[aF (by simp)];refine⟨by simp only[rV]; omega,rfl⟩
theorem aKI(l:List aE)(h:l.length<=1000000000000):aBT l=some l:=by
 unfold aBT;refine Det.eq ?_;unfold aHA;simp only[Tr.wpT];refine⟨fun D=>?_,?_⟩
 ·rw[aA trivial]; exact(zO D).symm
 ·rw[aF (by simp)];refine⟨by simp only[rV]; omega,rfl⟩
theorem aEG(h:ltD x y=false):¬ dC x y<0:=vY h
theorem aCX(n:Nat)(h:n<=1000000000000):Xe (n:Int)=some []:=by
 unfold Xe Vu;simp only[Tr.den];rw[aF bQ,show IntKind.i64.wrap ((n:Int)-0)=(n:Int) by rw[aV] <;> omega];by_cases D:(n:Int)>0
 ·rw[aA (bL D),aA (by simp; omega),aA (by simp)];rfl
 ·rw[aF (bQ D)]; rfl
theorem aCN(n:Nat)(h:n<=1000000000000):Wg (n:Int)=some []:=by
 unfold Wg Xq;simp only[Tr.den];rw[aF bQ,show IntKind.i64.wrap ((n:Int)-0)=(n:Int) by rw[aV] <;> omega];by_cases D:(n:Int)>0
 ·rw[aA (bL D),aA (by simp; omega),aA (by simp)];rfl
 ·rw[aF (bQ D)]; rfl
theorem jI{α:Type}[Inhabited α](ls:List (List α))(i:Nat)(hi:i<ls.length):(ls.take (i+1)).flatten=(ls.take i).flatten++ls.getD i default:=by rw[aJ hi]; simp
theorem Fa{α:Type}[Inhabited α](ls:List (List α))(i:Nat):(ls.take i).flatten.length<=ls.flatten.length:=by
 have:ls.flatten=(ls.take i).flatten++(ls.drop i).flatten:=by rw[<-List.flatten_append,gV]
 rw[this,dR]; omega
theorem aZE(ls:List (List aB))(h:ls.flatten.length<=1000000000000)(hl:ls.length<=1000000000000):G39 ls=some ls.flatten:=by
 unfold G39 T39;simp only[Tr.den];have h1:=aP (bd:=fun s=>(Pc ls s).den) (fun i=>(((ls.take i).flatten.length:Int),(i:Int))) ls.length (r:=.inl (ls.flatten.length:Int)) (fun i hi=>?_) ?_
 ·refine(congrArg (fun x=>Option.bind x _) h1).trans ?_;simp only[aI,sel];rw[aCX _ h];simp only[aI];have h2:=aP (bd:=fun s=>(Mm ls s).den) (fun i=>((ls.take i).flatten,(i:Int))) ls.length (r:=.inl ls.flatten) (fun i hi=>?_) ?_
  ·refine(congrArg (fun x=>Option.bind x _) h2).trans ?_;rfl
  ·unfold Mm;simp only[Tr.den,aL];have:=Fa ls (i+1);rw[jI ls i hi,dR]at this;rw[aA bL,aA,aA,aK,jI ls i hi]
  ·unfold Mm;simp only[Tr.den];rw[aF bQ,cF]
 ·unfold Pc;simp only[Tr.den,aL];have:=Fa ls (i+1);rw[jI ls i hi,dR]at this;rw[aA bL,aA,aF (bQ (by rw[dM (by omega)]; omega)),dM (by omega),aK,jI ls i hi,dR]
 ·unfold Pc;simp only[Tr.den];rw[aF bQ,cF]
theorem aQQ(ls:List (List aE))(h:ls.flatten.length<=1000000000000)(hl:ls.length<=1000000000000):bDM ls=some ls.flatten:=by
 unfold bDM bAK;simp only[Tr.den];have h1:=aP (bd:=fun s=>(Ef ls s).den) (fun i=>(((ls.take i).flatten.length:Int),(i:Int))) ls.length (r:=.inl (ls.flatten.length:Int)) (fun i hi=>?_) ?_
 ·refine(congrArg (fun x=>Option.bind x _) h1).trans ?_;simp only[aI,sel];rw[aCN _ h];simp only[aI];have h2:=aP (bd:=fun s=>(Ed ls s).den) (fun i=>((ls.take i).flatten,(i:Int))) ls.length (r:=.inl ls.flatten) (fun i hi=>?_) ?_
  ·refine(congrArg (fun x=>Option.bind x _) h2).trans ?_;rfl
  ·unfold Ed;simp only[Tr.den,aL];have:=Fa ls (i+1);rw[jI ls i hi,dR]at this;rw[aA bL,aA,aA,aK,jI ls i hi]
  ·unfold Ed;simp only[Tr.den];rw[aF bQ,cF]
 ·unfold Ef;simp only[Tr.den,aL];have:=Fa ls (i+1);rw[jI ls i hi,dR]at this;rw[aA bL,aA,aF (bQ (by rw[dM (by omega)]; omega)),dM (by omega),aK,jI ls i hi,dR]
 ·unfold Ef;simp only[Tr.den];rw[aF bQ,cF]
structure okD (l:List aB):Prop where
 r:jQ l
 n:okN l
theorem okD.app(h:okD l)(D:okD r):okD (l++r):=
 ⟨fun x hx=>(dW.1 hx).elim (h.r x) (D.r x),fun x hx=>(dW.1 hx).elim (h.n x) (D.n x)⟩
theorem okD.nil:okD []:=⟨fun _ h=>by simp at h,fun _ h=>by simp at h⟩
theorem okD.sub(h:okD l)(hs:∀ x,x∈r->x∈l):okD r:=⟨fun x hx=>h.r x (hs x hx),fun x hx=>h.n x (hs x hx)⟩
theorem okD.cons{l:List aB}(h:okD l):okD (cons l):=⟨fun x hx=>by
 obtain⟨z,D,he⟩:=Gl hx;have:=h.r z D;unfold okR at this ⊢
 rwa [show x.Row=z.Row from congrArg (·.2) he],(iX h.n).n64⟩
structure LO (K:Type)[MKey K]:Prop where
 irr:∀ a:K,MKey.lt a a=false
 tr:∀ a b c:K,MKey.lt a b=true->MKey.lt b c=true->MKey.lt a c=true
 tot:∀ a b:K,a≠b->MKey.lt a b=true\/MKey.lt b a=true
theorem iV:∀ (x y:List UInt8),Op.bytesLess x y=decide (Lib.compareBytes x y<0)
 | [],[]=>by rfl
 | _::_,[]=>by rfl
 | [],_::_=>by rfl
 | a::x,b::y=>by rw[Op.bytesLess,iV x y,Lib.compareBytes];grind
theorem LO.bytes:LO ByteArray:=by
 have e:∀ a b:ByteArray,MKey.lt a b=decide (zA a b<0):=fun a b=>by show Op.bytesLess a.toList b.toList=_;rw[iV,Lib.toList_data,Lib.toList_data]; rfl
 constructor
 ·intro a;rw[e,(TO.str.eq a a).2 rfl]; rfl
 ·intro a b c h1 h2;rw[e]at h1 h2 ⊢;exact bL (TO.str.tr a b c (fK h1) (fK h2))
 ·intro a b h;rw[e,e];have h1:=TO.str.eq a b;have h2:=TO.str.sw b a;grind
section
variable {K V:Type} [MKey K]
def MC(v:List (K×V)):Prop:=v.Pairwise fun p q=>MKey.lt p.1 q.1=true
theorem Fj(v:List (K×V))(k D:K):bG (mdel v k) D=if k=D then none else bG v D:=by
 induction v with
 | nil=>simp[mdel,bG]
 | cons p v ih=>
  simp only[mdel,List.filter_cons]at ih ⊢;by_cases hp:p.1=k
  ·rw[aF (by simp_all),ih];simp only[bG,hp];by_cases hk:k=D <;> simp[hk]
  ·rw[aA (by simp_all)];simp only[bG,ih];grind
theorem Ft(k:K)(c:V)(k':K):∀ v:List (K×V),bG v k=none->bG (mins k c v) k'=if k=k' then some c else bG v k'
 | [],_=>by rfl
 | p::v,h=>by
  simp only[bG]at h;by_cases hp:p.1=k
  ·simp_all
  ·rw[aF hp]at h;simp only[mins];split
   ·rfl
   ·simp only[bG,Ft k c k' v h];grind
theorem qK(v:List (K×V))(k:K)(c:V)(D:K):bG (mput v k c) D=if k=D then some c else bG v D:=by unfold mput;rw[Ft k c D _ (by rw[Fj]; simp),Fj];by_cases h:k=D <;> simp[h]
theorem MC.mdel{v:List (K×V)}(h:MC v)(k:K):MC (mdel v k):=List.Pairwise.filter _ h
theorem aLL{k:K}{c:V}{q:K×V}:∀ {v:List (K×V)},q∈mins k c v->q=(k,c)\/q∈v
 | v,h=>by have:=(Bp k c v).mem_iff.1 h;simp_all
theorem MC.mins(hK:LO K){k:K}{c:V}:∀ {v:List (K×V)},MC v->k∉aY v->MC (mins k c v)
 | [],_,_=>sZ _ _
 | p::v,h,hk=>by
  have h1:=lQ.1 h;simp only[PL.mins];split
  ·rename_i hlt;refine lQ.2 ⟨fun q hq=>?_,h⟩;rcases bE.1 hq with rfl | hq
   ·exact hlt
   ·exact hK.tr _ _ _ hlt (h1.1 q hq)
  ·rename_i hlt;simp only[aY,fY,bE,not_or]at hk;refine lQ.2 ⟨fun q hq=>?_,MC.mins hK h1.2 hk.2⟩;rcases aLL hq with rfl | hq
   ·rcases hK.tot k p.1 hk.1 with h2 | h2
    all_goals simp_all
   grind
theorem MC.mput(D:LO K){v:List (K×V)}(h:MC v)(k:K)(c:V):MC (mput v k c):=(h.mdel k).mins D (aLN v k)
theorem aHF:MC ([]:List (K×V)):=List.Pairwise.nil
theorem aEI{v:List (K×V)}{k:K}{c:V}(h:bG v k=some c):(k,c)∈v:=by
 induction v with
 | nil=>cases h
 | cons p v ih=>simp only[bG]at h;grind
theorem Gk{v:List (K×V)}{k:K}:k∈aY v↔∃ c,bG v k=some c:=by
 constructor
 ·intro h;cases hc:bG v k with
  | none=>exact absurd h (kG hc)
  | some c=>simp_all
 ·rintro⟨c,hc⟩;exact cU.2 ⟨_,aEI hc,rfl⟩
theorem MC.nodup(G:LO K){v:List (K×V)}(h:MC v):(aY v).Nodup:=by unfold aY List.Nodup;rw[At];refine h.imp fun {p q} D he=>?_;rw[he,G.irr]at D;cases D
def Xu(f:K->Int):List K->Int
 | []=>0
 | k::l=>f k+Xu f l
theorem xY{α β:Type}(f:α->List β){l r:List α}(h:l.Perm r):(l.flatMap f).Perm (r.flatMap f):=by
 induction h with
 | nil=>rfl
 | cons x _ ih=>simp only[fL]; exact ih.append_left _
 | swap x y l=>simp only[fL]; exact List.perm_append_comm_assoc _ _ _
 | trans _ _ h1 h2=>exact h1.trans h2
end
set_option maxRecDepth 20000
theorem aWG{P:Program}{Y R:Type}{n k:Nat}{bps:List PV}{x:Option R}{ret:R->PV}{h:Con P k bps x ret}{B:R->Tr P Y}{r:R}(hx:x=some r):(Tr.ca n h B).den=(B r).den:=by subst hx; rfl
theorem Mv{P:Program}{Y:Type}{n:Nat}{p:Prop}[Decidable p]{t:Tr P Y}(hp:p):(Tr.grd n p t).den=t.den:=aA hp
def yZ(n:Int):ByteArray:=⟨(Lib.itoa n).toArray⟩
theorem qO{n:Int}(h:oW n):(yZ n).size<=21:=by have:=Lib.itoa_length_le n h.1 h.2;unfold yZ;show (Lib.itoa n).toArray.size<=21;omega
theorem Zg{n:Int}(h:oW n):aJZ n=some (yZ n):=by unfold aJZ; rw[aA (show -9223372036854775808<=n/\n<=9223372036854775807 from h)]; rfl
theorem sz1(x:UInt8):(⟨#[x]⟩:ByteArray).size=1:=rfl
def xH(n:Int):ByteArray:=yZ n++⟨#[59]⟩
theorem Vc(n:Int):(xH n).size=(yZ n).size+1:=rE
theorem mJ{n:Int}(h:oW n):(xH n).size<=22:=by have h1:=qO h;rw[Vc];omega
theorem Wp{n:Int}(h:oW n):G51 n=some (xH n):=by unfold G51 T51;have:=qO h;simp -implicitDefEqProofs only[Tr.den,Zg h,aI];rw[aA (by rw[sz1]; omega)];rfl
theorem aUF(n:Nat)(h:n<=1000000000000):aWW (n:Int)=some (xH (n:Int)):=by unfold aWW bCG;simp only[Tr.den];rw[aF bQ,Wp (n:=(n:Int)) ⟨by omega,by omega⟩];rfl
def Qa(s:ByteArray):ByteArray:=((yZ s.size++⟨#[58]⟩)++s)++⟨#[44]⟩
theorem Jt{s:ByteArray}(h:s.size<=1073741824):(Qa s).size<=s.size+23:=by have:=qO (n:=(s.size:Int)) ⟨by omega,by omega⟩;unfold Qa;rw[rE,rE,rE,sz1,sz1];omega
theorem aZG{s:ByteArray}(h:s.size<=1073741824):G52 s=some (Qa s):=by
 have h1:=qO (n:=(s.size:Int)) ⟨by omega,by omega⟩;have h2:aJZ (s.size:Int)=some (yZ s.size):=Zg ⟨by omega,by omega⟩;generalize hi:yZ (s.size:Int)=z at h1 h2;have G:(z++(⟨#[58]⟩:ByteArray)).size=z.size+1:=rE;have D:((z++(⟨#[58]⟩:ByteArray))++s).size=z.size+1+s.size:=by rw[rE,G]
 unfold G52 T52;refine(aWG h2).trans ?_;refine(Mv ?_).trans ((Mv ?_).trans ((Mv ?_).trans ?_))
 ·grind
 ·omega
 ·rw[D,sz1]; omega
 ·unfold Qa;rw[hi];rfl
structure okV (v:aE):Prop where
 k:oW v.Kind
 n:oW v.N
 s:v.S.size<=1073741824
theorem aUT:okV default:=⟨⟨by decide,by decide⟩,⟨by decide,by decide⟩,by decide⟩
def wI(v:aE):ByteArray:=(xH v.Kind++xH v.N)++Qa v.S
theorem Ky{v:aE}(h:okV v):(wI v).size<=1073742000:=by have h1:=mJ h.k;have h2:=mJ h.n;have h3:=Jt h.s;have h4:=h.s;unfold wI;grind
theorem aNM{v:aE}(h:okV v):bAL v=some (wI v):=by have h1:=mJ h.k;have h2:=mJ h.n;have h3:=Jt h.s;have h4:=h.s;unfold bAL bDD;simp only[Tr.den,Wp h.k,Wp h.n,aZG h.s,aI];rw[aA,rE,aA];rfl
def Hw(r:List aE):Prop:=∀ v,v∈r->okV v
theorem Hw.get{r:List aE}(h:Hw r)(k:Nat):okV (r.getD k default):=by
 by_cases hk:k<r.length
 ·exact h _ (aM hk)
 ·rw[dV,Bf (by omega)]; exact aUT
def Ad(r:List aE):ByteArray:=r.foldl (fun b v=>b++wI v) ((⟨#[]⟩:ByteArray)++xH (r.length:Int))
theorem vV(b:ByteArray):∀ (r:List aE),Hw r->(r.foldl (fun b v=>b++wI v) b).size<=b.size+r.length*1073742000
 | [],_=>by simp
 | v::r,h=>by have h1:=vV (b++wI v) r fun x hx=>h x (cO _ hx);have h2:=Ky (h v cS);grind
theorem Zk(r:List aE)(h:Hw r)(hn:r.length<=1000):aPN r=some (Ad r):=by
 have hs:=mJ (n:=(r.length:Int)) ⟨by omega,by omega⟩;unfold aPN bBO;simp only[Tr.den];rw[aUF r.length (by omega)];simp only[aI];rw[aA (by show 0+_<=_; omega)];simp only[aI];have h1:=aP (bd:=fun s=>(Dx r s).den) (fun i=>((r.take i).foldl (fun b v=>b++wI v) ((⟨#[]⟩:ByteArray)++xH (r.length:Int)),(i:Int))) r.length (r:=.inl (Ad r)) (fun i hi=>?_) ?_
 ·refine(congrArg (fun x=>Option.bind x _) h1).trans ?_;rfl
 ·unfold Dx;simp only[Tr.den,aL];have h2:=vV ((⟨#[]⟩:ByteArray)++xH (r.length:Int)) (r.take i) fun v hv=>h v (oK hv);have h3:=Ky (h.get i);rw[rE,show (⟨#[]⟩:ByteArray).size=0 from rfl]at h2;simp only[dU]at h2;rw[aA bL,aA,aNM (h.get i)];simp only[aI];rw[aA];simp only[aI];rw[aK,aJ hi,Ao];rfl
 ·unfold Dx;simp only[Tr.den];rw[aF bQ,cF];rfl
def eC(n:aG)(i:Int):List Int:=if i=0 then n.Key else n.Key2
def Oi(n:aG)(i:Int)(row:List aE):ByteArray:=Ad ((eC n i).map fun c=>row.getD c.toNat default)
def oL(cols:List Int)(row:List aE):Prop:=∀ c,c∈cols->0<=c/\c<row.length
structure okI (n:aG)(i:Int)(l:List aB):Prop where
 v:∀ d,d∈l->Hw d.Row
 c:∀ d,d∈l->oL (eC n i) d.Row
 r:∀ d,d∈l->d.Row.length<=1000
 t:∀ d,d∈l->0<=d.Time/\d.Time<=2199023255552
 n:okN l
theorem okI.sub(h:okI n i l)(hs:∀ x,x∈r->x∈l):okI n i r:=
 ⟨fun d D=>h.v d (hs d D),fun d D=>h.c d (hs d D),fun d D=>h.r d (hs d D),fun d D=>h.t d (hs d D),fun d D=>h.n d (hs d D)⟩
abbrev kd (n:aG)(i:Int)(d:aB):ByteArray:=Oi n i d.Row
def bO(n:aG)(i:Int)(l:List aB):List (ByteArray×List aB):=l.foldl (fun m d=>mput m (kd n i d) ((bG m (kd n i d)).getD []++[d])) []
theorem Bn(n:aG)(i:Int)(l:List aB):MC (bO n i l):=by
 unfold bO;have:∀ (l:List aB) (m:List (ByteArray×List aB)),MC m->MC (l.foldl (fun m d=>mput m (kd n i d) ((bG m (kd n i d)).getD []++[d])) m):=by
  intro l
  induction l with
  | nil=>simp_all
  | cons d l ih=>exact fun m h=>ih _ (h.mput LO.bytes _ _)
 exact this l [] aHF
def ofK(n:aG)(i:Int)(k:ByteArray)(l:List aB):List aB:=l.filter fun d=>decide (kd n i d=k)
theorem rX(n:aG)(i:Int)(k:ByteArray)(l:List aB):bG (bO n i l) k=if ofK n i k l=[] then none else some (ofK n i k l):=by
 have:∀ (l:List aB) (m:List (ByteArray×List aB)),bG (l.foldl (fun m d=>mput m (kd n i d) ((bG m (kd n i d)).getD []++[d])) m) k=if ofK n i k l=[] then bG m k else some ((bG m k).getD []++ofK n i k l):=by
  intro l
  induction l with
  | nil=>intro m; rfl
  | cons d l ih=>
   intro m;rw[lU,ih];unfold ofK;by_cases hk:kd n i d=k
   ·rw[Ju (p:=fun d=>decide (kd n i d=k)) (bL hk),qK,aA hk,hk];simp_all
   ·rw[Fd (p:=fun d=>decide (kd n i d=k)) (bQ hk),qK,aF hk]
 have:=this l [];simpa[bG,bO] using this
theorem iR(n:aG)(i:Int)(k:ByteArray)(l:List aB):(ofK n i k l).length<=l.length:=lM _ _
theorem qD(n:aG)(i:Int)(k:ByteArray)(l:List aB):(bG (bO n i l) k).getD []=ofK n i k l:=by rw[rX]; split <;> simp_all
def TS(l:List aB):Prop:=l.Pairwise fun x y=>x.Time<=y.Time
theorem aEQ(h:dC x y<0):x.Time<=y.Time:=by
 by_cases h1:y.Time<x.Time
 ·have:dC x y=1:=by unfold dC eR pE;omega
  omega
 ·omega
theorem Can.ts(h:Can l):TS l:=h.lt.imp fun h=>aEQ h
theorem TS.get(h:TS l){i j:Nat}(D:i<=j)(G:j<l.length):(l.getD i default).Time<=(l.getD j default).Time:=by
 rcases Nat.lt_or_eq_of_le D with h1 | h1
 ·rw[bU G,bU (show i<l.length by omega)];exact Bu.1 h i j (by omega) G h1
 simp_all
def fZ(l:List aB):Prop:=∀ d,d∈l->0<=d.Time/\d.Time<=2199023255552
def fJ(l:List aB)(a b:Int):List aB:=l.filter fun d=>decide (a<=d.Time)&&decide (d.Time<=b)
theorem Kb(l:List aB)(a b:Int):(fJ l a b).length<=l.length:=lM _ _
theorem Lu{a b:Int}{d:aB}(h:d∈fJ l a b):d∈l:=(iQ.1 h).1
theorem fZ.get(h:fZ l)(k:Nat):0<=(l.getD k default).Time/\(l.getD k default).Time<=2199023255552:=by
 by_cases hk:k<l.length
 ·exact h _ (aM hk)
 ·rw[dV,Bf (by omega)]; exact⟨by decide,by decide⟩
def pI(a b:aB)(t n:Int):aB:=⟨t,a.Row++b.Row,n⟩
def okW(l:List aB):Prop:=∀ d,d∈l->d.Row.length<=1000
theorem okW.get(h:okW l)(k:Nat):(l.getD k default).Row.length<=1000:=by
 by_cases hk:k<l.length
 ·exact h _ (aM hk)
 ·rw[dV,Bf (by omega)]; decide
def jL(i:Int)(a b:aB):aB:=if i=1 then pI b a (if b.Time>a.Time then b.Time else a.Time) (W (a.N*b.N)) else pI a b (if b.Time>a.Time then b.Time else a.Time) (W (a.N*b.N))
def vL(n:aG)(i:Int)(other:List aB)(a:aB):List aB:=
 (fJ other (if i=1 then a.Time-n.After else a.Time-n.Before) (if i=1 then a.Time+n.Before else a.Time+n.After)).map (jL i a)
def aVZ(n:aG)(i:Int)(l other:List aB):List aB:=l.flatMap (vL n i other)
theorem aDT(n:aG)(i:Int)(other:List aB)(a:aB):(vL n i other a).length<=other.length:=by unfold vL; rw[dH]; exact Kb _ _ _
theorem lI{f:aB->List aB}{c:Nat}(h:∀ a,(f a).length<=c)(l:List aB):(l.flatMap f).length<=l.length*c:=by
 induction l with
 | nil=>simp
 | cons a l ih=>rw[fL,dR,fX,jG];grind
structure okB (n:aG):Prop where
 b:0<=n.Before/\n.Before<=10000
 a:0<=n.After/\n.After<=10000
def gY(n:aG)(right:List aB)(a:aB):List aB:=
 if fJ right (a.Time-n.Keep+1) a.Time=[] then [] else [pI a ((fJ right (a.Time-n.Keep+1) a.Time).getD ((fJ right (a.Time-n.Keep+1) a.Time).length-1) default) a.Time a.N]
def aVV(n:aG)(l right:List aB):List aB:=l.flatMap (gY n right)
theorem Ac(n:aG)(right:List aB)(a:aB):(gY n right a).length<=1:=by unfold gY; split <;> simp
structure sU (n:aG):Prop where
 op:(n.Op=6/\okB n)\/(n.Op=7/\1<=n.Keep/\n.Keep<=10000)
 k1:n.Key.length<=1000
 k2:n.Key2.length<=1000
theorem sU.cols(h:sU n)(i:Int):(eC n i).length<=1000:=by
 by_cases hi:i=0
 ·unfold eC; rw[aA hi]; exact h.k1
 ·unfold eC; rw[aF hi]; exact h.k2
theorem okI.tm(h:okI n i l):fZ l:=h.t
theorem okI.w(h:okI n i l):okW l:=h.r
theorem Ha{f:aB->List aB}(h:∀ a,a∈l->okD (f a)):okD (l.flatMap f):=by
 constructor
 ·intro x hx;obtain⟨a,ha,hx⟩:=jR.1 hx;exact(h a ha).r x hx
 ·intro x hx;obtain⟨a,ha,hx⟩:=jR.1 hx;exact(h a ha).n x hx
theorem aFW(h:okW l)(D:okW r):okD (aVZ n i l r):=by
 refine Ha fun a ha=>?_;unfold vL;constructor
 ·intro x hx;obtain⟨b,hb,rfl⟩:=cU.1 hx;have:=h a ha;have:=D b (Lu hb);unfold jL okR pI; split <;> simp <;> omega
 ·intro x hx;obtain⟨b,hb,rfl⟩:=cU.1 hx;unfold jL pI; split <;> exact aRL _
theorem aJI(h:okW l)(G:okW r)(hn:okN l):okD (aVV n l r):=by
 refine Ha fun a ha=>?_;unfold gY;have hr:okW (fJ r (a.Time-n.Keep+1) a.Time):=fun d D=>G d (Lu D);split
 ·exact .nil
 ·constructor
  ·intro x hx;rw[cZ.1 hx];have:=h a ha;have:=hr.get ((fJ r (a.Time-n.Keep+1) a.Time).length-1);unfold okR pI;grind
  ·intro x hx;rw[cZ.1 hx];exact hn a ha
theorem jD(n:aG)(i:Int)(l:List aB):(bO n i l).length<=l.length:=by
 have:∀ (l:List aB) (m:List (ByteArray×List aB)),(l.foldl (fun m d=>mput m (kd n i d) ((bG m (kd n i d)).getD []++[d])) m).length<=m.length+l.length:=by
  intro l
  induction l with
  | nil=>intro m; simp
  | cons d l ih=>intro m;rw[lU];refine fW (ih _) ?_;have h1:=(Am m (kd n i d) ((bG m (kd n i d)).getD []++[d])).length_eq;have h2:(mdel m (kd n i d)).length<=m.length:=lM _ _;grind
 have h2:=this l [];simp only[rV,iY]at h2;exact h2
theorem aQL{k:ByteArray}(h:Can l):Can (ofK n i k l):=h.filter _
theorem Pn(a b:aE):aYY a b=some (gC a b):=by
 unfold aYY aYT gC eR pE;simp only[Tr.den,jX];have hs:=iV a.S.toList b.S.toList;have h2:=iV b.S.toList a.S.toList;rw[Lib.toList_data,Lib.toList_data]at hs h2;have Z:Op.bytesLess a.S.toList b.S.toList=decide (zA a.S b.S<0):=by rw[Lib.toList_data,Lib.toList_data]; exact hs
 have Q:(a.S.toList==b.S.toList)=decide (zA a.S b.S=0):=by
  rw[Bool.eq_iff_iff,dP,jX,TO.str.eq,Lib.toList_data,Lib.toList_data];constructor
  ·intro h;generalize a.S=x at h ⊢;generalize b.S=y at h ⊢;cases x; cases y; simp at h; simp[h]
  ·intro h; rw[h]
 have h3:zA a.S b.S = -1\/zA a.S b.S=0\/zA a.S b.S=1:=by
  unfold zA;generalize a.S.data.toList=x;generalize b.S.data.toList=y
  induction x generalizing y with
  | nil=>cases y <;> simp[Lib.compareBytes]
  | cons u x ih=>
   cases y with
   | nil=>simp[Lib.compareBytes]
   | cons v y=>
    rw[Lib.compareBytes];by_cases J:u<v
    ·rw[aA J]; exact .inl rfl
    ·rw[aF J];by_cases G:v<u
     ·rw[aA G]; exact .inr (.inr rfl)
     ·rw[aF G]; exact ih y
 rw[Z,Q];by_cases k1:a.Kind<b.Kind
 ·simp[k1]
 ·by_cases k2:b.Kind<a.Kind
  ·simp[k1,k2]
  ·by_cases D:a.N<b.N
   ·simp[k1,k2,D]
   ·by_cases M:b.N<a.N
    ·simp[k1,k2,D,M]
    ·rcases h3 with h | h | h <;> simp[k1,k2,D,M,h]
theorem Yj(a b:List aE)(ha:a.length<=1073741824)(hb:b.length<=1073741824):bCS a b=some (yE a b):=by
 refine Sp.eq ?_;unfold bCS aWO;simp only[Tr.den,bR];refine Sq.while (fun k:Int=>0<=k/\k<=a.length/\k<=b.length/\yE (a.drop k.toNat) (b.drop k.toNat)=yE a b) (fun k=>a.length-k.toNat) (fun k hk=>?_) ⟨by omega,by omega,by omega,by simp⟩;obtain⟨M,h1,h2,h3⟩:=hk;unfold aAP;simp only[Tr.den,Pn,aI];have D:(k=a.length\/k=b.length)->Sp (sel (fun _:Unit=>if decide ((a.length:Int)<(b.length:Int))=true then some (-1:Int) else if decide ((a.length:Int)>(b.length:Int))=true then some 1 else some 0) some (Sum.inl ())) (fun z=>z=yE a b):=by
  intro hk;simp only[sel];rcases hk with hk | hk
  ·rw[kO (show a.length<=k.toNat by omega)]at h3;by_cases hl:(a.length:Int)<b.length
   ·rw[aA (bL hl)];rw[dF (show k.toNat<b.length by omega)]at h3;exact aC.2 h3
   ·rw[aF (bQ hl),aF bQ];rw[kO (show b.length<=k.toNat by omega)]at h3;exact aC.2 h3
  ·rw[kO (show b.length<=k.toNat by omega)]at h3;rw[aF bQ];by_cases hl:(a.length:Int)>b.length
   ·rw[aA (bL hl)];rw[dF (show k.toNat<a.length by omega)]at h3;exact aC.2 h3
   ·rw[aF bQ];rw[kO (show a.length<=k.toNat by omega)]at h3;exact aC.2 h3
 by_cases hk:k<a.length
 ·rw[aA (bL hk)];simp only[aI];by_cases G:k<b.length
  ·rw[aA (bL G),aA ⟨M,hk⟩,aA ⟨M,G⟩];rw[dF (show k.toNat<a.length by omega),dF (show k.toNat<b.length by omega)]at h3;simp only[rJ]at h3;by_cases J:gC (a.getD k.toNat default) (b.getD k.toNat default)=0
   ·rw[aF (Sh J),aV];refine aC.2 ⟨⟨by omega,by omega,by omega,?_⟩,by omega⟩;rw[show (k+1).toNat=k.toNat+1 by omega]; refine Eq.trans ?_ h3; simp only[eR,J,gT]
   ·rw[aA (So J)];refine aC.2 (aC.2 ?_);refine Eq.trans ?_ h3; simp only[eR,aF J]
  ·rw[aF (bQ G)];exact aC.2 (D (.inr (by omega)))
 ·rw[aF (bQ hk)];exact aC.2 (D (.inl (by omega)))
section
variable {P:Program} {A R:Type}
theorem aIB{C:A->Option R->Prop}(G:∀ a,C a none)(B:{f:A->Option R // ∀ a,C a (f a)}->A->Tr P R)(ok:∀ f a,C a (B f a).den)(I:Nat->A->Prop)(Q:A->R->Prop)
  (h:∀ b f n a,I n a->(∀ m a',m<n->I m a'->Sq b (f.1 a') (Q a'))->Sq b (B f a).den (Q a)):∀ k n a,I n a->Sq (decide (n<k)) ((aMR G B ok k).1 a) (Q a):=by
 intro k
 induction k with
 | zero=>intro n a ha; exact⟨fun y hy=>(by cases hy),fun hb=>by simp at hb⟩
 | succ k ih=>intro n a ha;refine h _ _ n a ha fun m a' hm D=>?_;have h1:=ih m a' D;exact⟨h1.1,fun hb=>h1.2 (by grind)⟩
theorem Rm{C:A->Option R->Prop}(G:∀ a,C a none)(B:{f:A->Option R // ∀ a,C a (f a)}->A->Tr P R)(ok:∀ f a,C a (B f a).den)(I:Nat->A->Prop)(Q:A->R->Prop)
  (h:∀ b f n a,I n a->(∀ m a',m<n->I m a'->Sq b (f.1 a') (Q a'))->Sq b (B f a).den (Q a))(b:Bool)(n:Nat)(a:A)(ha:I n a):Sq b (rT G B ok a) (Q a):=by
 have h1:=aIB G B ok I Q h;unfold rT Lim;split
 ·rename_i D;obtain⟨k,hk⟩:=D.choose_spec;exact aC.2 ((h1 k n a ha).1 _ hk)
 ·rename_i D;exfalso;have h2:=h1 (n+1) n a ha;obtain⟨y,hy⟩:=Cc.1 (h2.2 (by simp));exact D ⟨y,_,hy⟩
end
theorem kN{S R:Type}{b:Bool}{bd:S->Option (S⊕R)}(D:S->Int)(N:Nat)(hN:N<=1000000000000000)(I:S->Prop){Q:R->Prop}
  (h:∀ s (k:Nat),I s->D s=k->k<=N->Sq b (bd s) (sel (fun s'=>D s'=IntKind.i64.wrap ((k:Int)+1)/\k<N/\I s') Q)){s:S}(hs:I s)(h0:D s=0):Sq b (bW bd s) Q:=by
 refine Sq.while (fun s=>I s/\∃ k:Nat,D s=k/\k<=N) (fun s=>N-(D s).toNat) (fun s hs=>?_) ⟨hs,0,h0,by omega⟩;obtain⟨hI,k,hk,J⟩:=hs;refine(h s k hI hk J).imp fun z M=>?_;cases z with
 | inr r=>exact M
 | inl s'=>obtain⟨G,q2,Z⟩:=M;rw[aK]at G;exact⟨⟨Z,k+1,G,by omega⟩,by rw[G,hk]; omega⟩
inductive OkE (fs:List aS):Nat->Nat->Nat->bF->Prop
 | mk {nc np h:Nat} {e:bF} (k:Nat) (hm:Nat->Nat) (hs:e.S.size<=1048576) (hl:e.Args.length<=1048576) (ho:0<=e.Op/\e.Op<=22)
   (hlt:∀ i,hm i<h) (hA:∀ i,i<e.Args.length->OkE fs nc np (hm i) (e.Args.getD i default))
   (c3:e.Op=3->0<=e.N/\e.N<nc) (c4:e.Op=4->0<=e.N/\e.N<np) (c1:e.Op=6\/e.Op=7\/e.Op=20->1<=e.Args.length) (c2:8<=e.Op/\e.Op<=19->2<=e.Args.length)
   (c21:e.Op=21->3<=e.Args.length) (c22:e.Op=22->0<=e.N/\e.N<fs.length/\k<h) (hb:e.Op=22->OkE fs 0 e.Args.length k (fs.getD e.N.toNat default).Body):OkE fs nc np h e
def Sm(v:aE):Prop:=v.S.size<=1073741824
structure OkF (fs:List aS)(nc np:Nat)(f:fF):Prop where
 fs:f.funcs_=fs
 nc:f.row_.length=nc
 np:f.params_.length=np
 row:∀ v,v∈f.row_->Sm v
 params:∀ v,v∈f.params_->Sm v
theorem rZ(n:Int):Sm (vI n):=by show (0:Nat)<=_; omega
theorem Bt(b:Bool):Sm (vB b):=by show (0:Nat)<=_; omega
theorem uA{l:List aE}(h:∀ v,v∈l->Sm v){i:Nat}(hi:i<l.length):Sm (l.getD i default):=h _ (aM hi)
theorem kJ{c:Prop}[Decidable c]{x y:aE}(hx:Sm x)(hy:Sm y):Sm (if c then x else y):=by split <;> assumption
theorem lN(op:Int)(a b:aE):Sm (bop op a b):=by unfold bop;refine kJ (rZ _) (kJ (rZ _) (kJ (rZ _) (kJ (kJ (rZ _) (rZ _)) (kJ (kJ (rZ _) (rZ _)) (kJ (Bt _) (kJ (Bt _) (kJ (Bt _) (kJ (Bt _) (kJ (Bt _) (kJ (Bt _) ?_))))))))));show ((a.S++b.S).extract 0 (min 200 (a.S.size+b.S.size))).size<=1073741824;rw[ByteArray.size_extract]; omega
theorem Zv(fs:List aS)(nc np n:Nat)(f:fF)(e:bF)(hf:OkF fs nc np f)(he:OkE fs nc np n e):Sp (Ty f e) Sm:=by
 refine Rm (C:=fun (a:fF×bF) (x:Option (aE))=>Con Proofs.Tryz.prog 171 [.t (iS a.1),.t (cJ a.2)] x (fun (y:aE)=>.t (bZ y))) (fun a=>⟨bM Proofs.Tryz.func171 (by rfl),fun _ h=>nomatch h⟩) (fun rec a=>Qg rec a.1 a.2) (fun rec a=>Eu rec a.1 a.2)
  (fun n a=>∃ fs nc np,OkF fs nc np a.1/\OkE fs nc np n a.2) (fun _=>Sm) (fun b r n a ha hrec=>?_) true n (f,e) ⟨fs,nc,np,hf,he⟩
 clear hf he fs nc np f e;obtain⟨f,e⟩:=a;obtain⟨fs,nc,np,hf,he⟩:=ha;simp only at hf he ⊢;have hfun:=hf.fs;cases he with
 | mk k' hm hs hl ho hlt hA c3 c4 c1 c2 c21 c22 hb=>
 have hr:∀ i,i<e.Args.length->Sq b (r.1 (f,e.Args.getD i default)) Sm:=fun i hi=>hrec _ _ (hlt i) ⟨fs,nc,np,hf,hA i hi⟩;unfold Qg;by_cases h21:e.Op=21
 ·have hl3:=c21 h21;simp only[h21,Tr.den];rw[aA (by decide),aA];refine Sq.bind _ (hr 0 (by omega)) fun v1 _=>?_;grind
 ·simp only[Tr.den];rw[aF (by simp_all)];refine bR.2 (kN (fun s:List aE×Int=>s.2) e.Args.length (by omega) (fun s=>(s.1.length:Int)=s.2/\∀ v,v∈s.1->Sm v) (fun s k hI hk hkN=>?_) ⟨rfl,fun v hv=>by cases hv⟩ rfl);obtain⟨D,v5⟩:=s;obtain⟨hbl,Z⟩:=hI;simp only at hk hbl Z;subst hk;unfold Ea;simp only[Tr.den,aL];by_cases hc:k<e.Args.length
  ·rw[aA bL,aA];refine Sq.bind _ (hr k hc) fun v hv=>?_;rw[aA (by grind)];refine aC.2 ⟨rfl,hc,?_,fun u hu=>?_⟩
   ·simp only[dR,oA]; rw[aK]; omega
   grind
  ·rw[aF bQ];refine aC.2 ?_;have hbe:D.length=e.Args.length:=by omega
   show Sq b _ Sm;simp only[sel];have J:(0:Int).toNat=0:=rfl;have G:(1:Int).toNat=1:=rfl;have hop:e.Op=0\/e.Op=1\/e.Op=2\/e.Op=3\/e.Op=4\/e.Op=5\/e.Op=6\/e.Op=7\/e.Op=20\/e.Op=22\/(8<=e.Op/\e.Op<=19):=by omega
   rcases hop with h | h | h | h | h | h | h | h | h | h | h
   ·rw[aA (by rw[h]; rfl),fO]; exact aC.2 (rZ _)
   ·simp (decide:=true) only[h,↓reduceIte];exact aC.2 (by show e.S.size<=_; omega)
   ·simp (decide:=true) only[h,↓reduceIte,gZ];exact aC.2 (Bt _)
   ·have:=c3 h;have hn:=hf.nc;simp (decide:=true) only[h,↓reduceIte];rw[aA];exact aC.2 (uA hf.row (by omega))
   ·have:=c4 h;have hn:=hf.np;simp (decide:=true) only[h,↓reduceIte];rw[aA];exact aC.2 (uA hf.params (by omega))
   ·simp (decide:=true) only[h,↓reduceIte,fO];exact aC.2 (rZ _)
   ·have:=c1 (by omega);simp (decide:=true) only[h,↓reduceIte,gZ];rw[aA ⟨trivial,by omega⟩,aA];exact aC.2 (Bt _)
   ·have:=c1 (by omega);simp (decide:=true) only[h,↓reduceIte,fO];rw[aA ⟨trivial,by omega⟩,aA];exact aC.2 (rZ _)
   ·have:=c1 (by omega);simp (decide:=true) only[h,↓reduceIte,fO];rw[aA ⟨trivial,by omega⟩,aA];exact aC.2 (rZ _)
   ·have hc2:=c22 h;simp (decide:=true) only[h,↓reduceIte];rw[aA (by simp_all)];rw[hfun];refine Sq.bind _ (hrec k' (_,_) hc2.2.2 ⟨fs,0,e.Args.length,⟨rfl,rfl,hbe,fun v hv=>(by cases hv),Z⟩,hb h⟩) fun v hv=>aC.2 hv
   ·have h2:=c2 h;have p0:Sm (D.getD 0 default):=uA Z (by omega);have p1:Sm (D.getD 1 default):=uA Z (by omega);have d0:(0:Int)<=0/\(0:Int)<(D.length:Int):=⟨by omega,by omega⟩;have d1:(0:Int)<=1/\(1:Int)<(D.length:Int):=⟨by omega,by omega⟩;have Q:0<D.length:=by omega
    have M:1<D.length:=by omega
    have hop:e.Op=8\/e.Op=9\/e.Op=10\/e.Op=11\/e.Op=12\/e.Op=13\/e.Op=14\/e.Op=15\/e.Op=16\/e.Op=17\/e.Op=18\/e.Op=19:=by omega
    rcases hop with h | h | h | h | h | h | h | h | h | h | h | h
    ·simp (decide:=true) only[h,↓reduceIte];change Sq b (((some 225:Option Nat).bind _).bind _) Sm;simp only[aI,Tr.den,J,G];rw[aA ⟨trivial,by omega⟩,aA Q,aA ⟨trivial,by omega⟩,aA M,Om];exact aC.2 (lN 8 (D.getD 0 default) (D.getD 1 default))
    ·simp (decide:=true) only[h,↓reduceIte];change Sq b (((some 226:Option Nat).bind _).bind _) Sm;simp only[aI,Tr.den,J,G];rw[aA ⟨trivial,by omega⟩,aA Q,aA ⟨trivial,by omega⟩,aA M,Nv];exact aC.2 (lN 9 (D.getD 0 default) (D.getD 1 default))
    ·simp (decide:=true) only[h,↓reduceIte];change Sq b (((some 227:Option Nat).bind _).bind _) Sm;simp only[aI,Tr.den,J,G];rw[aA ⟨trivial,by omega⟩,aA Q,aA ⟨trivial,by omega⟩,aA M,Nd];exact aC.2 (lN 10 (D.getD 0 default) (D.getD 1 default))
    ·simp (decide:=true) only[h,↓reduceIte];change Sq b (((some 228:Option Nat).bind _).bind _) Sm;simp only[aI,Tr.den,J,G];rw[aA ⟨trivial,by omega⟩,aA Q,aA ⟨trivial,by omega⟩,aA M,Pz];exact aC.2 (lN 11 (D.getD 0 default) (D.getD 1 default))
    ·simp (decide:=true) only[h,↓reduceIte];change Sq b (((some 229:Option Nat).bind _).bind _) Sm;simp only[aI,Tr.den,J,G];rw[aA ⟨trivial,by omega⟩,aA Q,aA ⟨trivial,by omega⟩,aA M,Ql];exact aC.2 (lN 12 (D.getD 0 default) (D.getD 1 default))
    ·simp (decide:=true) only[h,↓reduceIte];change Sq b (((some 230:Option Nat).bind _).bind _) Sm;simp only[aI,Tr.den,J,G];rw[aA ⟨trivial,by omega⟩,aA Q,aA ⟨trivial,by omega⟩,aA M,Na];exact aC.2 (lN 13 (D.getD 0 default) (D.getD 1 default))
    ·simp (decide:=true) only[h,↓reduceIte];change Sq b (((some 231:Option Nat).bind _).bind _) Sm;simp only[aI,Tr.den,J,G];rw[aA ⟨trivial,by omega⟩,aA Q,aA ⟨trivial,by omega⟩,aA M,Oq];exact aC.2 (lN 14 (D.getD 0 default) (D.getD 1 default))
    ·simp (decide:=true) only[h,↓reduceIte];change Sq b (((some 232:Option Nat).bind _).bind _) Sm;simp only[aI,Tr.den,J,G];rw[aA ⟨trivial,by omega⟩,aA Q,aA ⟨trivial,by omega⟩,aA M,Qd];exact aC.2 (lN 15 (D.getD 0 default) (D.getD 1 default))
    ·simp (decide:=true) only[h,↓reduceIte];change Sq b (((some 233:Option Nat).bind _).bind _) Sm;simp only[aI,Tr.den,J,G];rw[aA ⟨trivial,by omega⟩,aA Q,aA ⟨trivial,by omega⟩,aA M,Pv];exact aC.2 (lN 16 (D.getD 0 default) (D.getD 1 default))
    ·simp (decide:=true) only[h,↓reduceIte];change Sq b (((some 234:Option Nat).bind _).bind _) Sm;simp only[aI,Tr.den,J,G];rw[aA ⟨trivial,by omega⟩,aA Q,aA ⟨trivial,by omega⟩,aA M,Ok];exact aC.2 (lN 17 (D.getD 0 default) (D.getD 1 default))
    ·simp (decide:=true) only[h,↓reduceIte];change Sq b (((some 235:Option Nat).bind _).bind _) Sm;simp only[aI,Tr.den,J,G];rw[aA ⟨trivial,by omega⟩,aA Q,aA ⟨trivial,by omega⟩,aA M,Ot];exact aC.2 (lN 18 (D.getD 0 default) (D.getD 1 default))
    ·simp (decide:=true) only[h,↓reduceIte];change Sq b (((some 236:Option Nat).bind _).bind _) Sm;simp only[aI,Tr.den,J,G];rw[aA ⟨trivial,by omega⟩,aA Q,aA ⟨trivial,by omega⟩,aA M,No _ (by have q0:=p0; have q1:=p1; unfold Sm at q0 q1; grind)];exact aC.2 (lN 19 (D.getD 0 default) (D.getD 1 default))
inductive OkI (ar:Nat->Nat)(n:Nat):Nat->Nat->bF->Prop
 | mk {nc np:Nat} {e:bF} (hs:e.S.size<=1048576) (hl:e.Args.length<=1048576) (ho:0<=e.Op/\e.Op<=22)
   (hA:∀ i,i<e.Args.length->OkI ar n nc np (e.Args.getD i default))
   (c3:e.Op=3->0<=e.N/\e.N<nc) (c4:e.Op=4->0<=e.N/\e.N<np) (c1:e.Op=6\/e.Op=7\/e.Op=20->1<=e.Args.length) (c2:8<=e.Op/\e.Op<=19->2<=e.Args.length)
   (c21:e.Op=21->3<=e.Args.length) (c22:e.Op=22->0<=e.N/\e.N<n/\e.Args.length=ar e.N.toNat):OkI ar n nc np e
theorem Mg(f:Nat->Nat):∀ n,∃ H,∀ i,i<n->f i<H
 | 0=>⟨0,fun i hi=>absurd hi (mX i)⟩
 | n+1=>by
  obtain⟨H,hH⟩:=Mg f n;refine⟨H+f n+1,fun i hi=>?_⟩;rcases Hn i n with h | h
  ·have:=hH i h; omega
  ·have:i=n:=by omega
   subst this; omega
theorem aVH(M:∀ i,i<fs.length->OkI (fun k=>(fs.getD k default).Params.length) i 0 (fs.getD i default).Params.length (fs.getD i default).Body):
  ∀ j,j<=fs.length->∀ nc np e,OkI (fun k=>(fs.getD k default).Params.length) j nc np e->∃ h,OkE fs nc np h e:=by
 intro j
 induction j using Nat.strongRecOn with
 | _ j ih=>
  intro J nc np e he
  induction he with
  | @mk e hs hl ho hA c3 c4 c1 c2 c21 c22 ihA=>
   have hc:∀ i,∃ h,i<e.Args.length->OkE fs nc np h (e.Args.getD i default):=fun i=>by
    by_cases hi:i<e.Args.length
    ·simp_all
    ·exact⟨0,fun h=>absurd h hi⟩
   let hm:Nat->Nat:=fun i=>if i<e.Args.length then (hc i).choose else 0
   have D:∀ i,i<e.Args.length->OkE fs nc np (hm i) (e.Args.getD i default):=fun i hi=>by grind
   obtain⟨H,hH⟩:=Mg hm e.Args.length;obtain⟨k,hk⟩:∃ k,e.Op=22->OkE fs 0 e.Args.length k (fs.getD e.N.toNat default).Body:=by
    by_cases G:e.Op=22
    ·grind
    simp_all
   refine⟨H+k+1,.mk k hm hs hl ho (fun i=>?_) D c3 c4 c1 c2 c21 (fun h=>?_) hk⟩
   all_goals grind
theorem Ex(n:Int):aUJ n=some (decide (0<=n/\n<3)):=by
 by_cases h:0<=n
 ·simp[aUJ,aQE,Tr.den,h]
 ·simp[aUJ,aQE,Tr.den,h]
def aEX(op:Int):Int:=
 if 0<=op/\op<=5 then 0 else if op=6\/op=7\/op=20 then 1 else if op=21 then 3 else if op=22 then -1 else if 5<op/\op<21 then 2 else -1
theorem aBK(op:Int):bDE op=some (aEX op):=by
 have hs:op=0\/op=1\/op=2\/op=3\/op=4\/op=5\/op=6\/op=7\/op=20\/op=21\/op=22\/(op<0\/(8<=op/\op<=19)\/22<op):=by omega
 rcases hs with h | h | h | h | h | h | h | h | h | h | h | h
 iterate 11 (subst h; rfl)
 have n0:(op==0)=false:=by simp; omega
 have n1:(op==1)=false:=by simp; omega
 have n2:(op==2)=false:=by simp; omega
 have n3:(op==3)=false:=by simp; omega
 have n4:(op==4)=false:=by simp; omega
 have n5:(op==5)=false:=by simp; omega
 have n6:(op==6)=false:=by simp; omega
 have n7:(op==7)=false:=by simp; omega
 have J:(op==20)=false:=by simp; omega
 have G:(op==21)=false:=by simp; omega
 have D:(op==22)=false:=by simp; omega
 have q1:¬ (0<=op/\op<=5):=by omega
 have q2:¬ (op=6\/op=7\/op=20):=by omega
 have Z:¬ op=21:=by omega
 have Q:¬ op=22:=by omega
 unfold bDE bDS aEX;rw[aF q1,aF q2,aF Z,aF Q];simp only[Tr.den,n0,n1,n2,n3,n4,n5,n6,n7,J,G,D,aI,eO,eH];by_cases h1:op>5
 ·have M:5<op:=h1;by_cases h2:op<21
  ·rw[aA (bL h1),aA ⟨M,h2⟩,wH h2]; rfl
  ·rw[aA (bL h1),aF (fun h=>h2 h.2),kU h2]; rfl
 ·have:¬ (5<op/\op<21):=by omega
  rw[aF (bQ h1),aF this]; rfl
theorem aBE(l:List Int)(n:Int):Sp (aJE l n) (fun r=>r.2=true->0<=n/\n<l.length):=by
 unfold aJE aPM;simp only[Tr.den];by_cases h1:n<0
 ·rw[aA (bL h1)];exact aC.2 (fun h=>by cases h)
 ·rw[aF (bQ h1)];by_cases h2:n>=(l.length:Int)
  ·simp only[aI,wH h2,gT];exact aC.2 (fun h=>by cases h)
  ·simp only[aI,kU h2,eO,eH];rw[aA,aA,Ex];exact aC.2 (fun _=>by omega)
theorem aTQ(fs:List aS)(n:Int)(l:List Int)(hl:l.length<=1048576):Sp (aHG fs n l) (fun r=>r.2=true->0<=n/\n<fs.length/\l.length=(fs.getD n.toNat default).Params.length):=by
 unfold aHG aNQ;simp only[Tr.den];by_cases h1:n<0
 ·rw[aA (bL h1)];exact aC.2 (fun h=>by cases h)
 ·rw[aF (bQ h1)];by_cases h2:n>=(fs.length:Int)
  ·simp only[aI,wH h2,gT];exact aC.2 (fun h=>by cases h)
  ·simp only[aI,kU h2,eO,eH];rw[aA];by_cases h3:((fs.getD n.toNat default).Params.length:Int)=(l.length:Int)
   ·rw[aF (by simp_all)];refine bR.2 (kN (fun s:Int=>s) l.length (by omega) (fun _=>True) (fun s k _ hk D=>?_) trivial rfl);subst hk;unfold Oy;simp only[Tr.den,aL];by_cases hc:k<l.length
    ·rw[aA bL,aA,aA];split
     ·exact aC.2 (aC.2 (fun h=>by cases h))
     ·exact aC.2 ⟨rfl,hc,trivial⟩
    ·rw[aF bQ];exact aC.2 (aC.2 (fun _=>by omega))
   ·rw[aA (by simp_all)];exact aC.2 (fun h=>by cases h)
theorem Sq.of{α:Type}{b:Bool}{x:Option α}{Q:α->Prop}(h:Sp x Q):Sq b x Q:=⟨h.1,fun _=>h.2 rfl⟩
inductive vA:bF->Prop
 | mk {e:bF} (hs:e.S.size<=1048576) (hl:e.Args.length<=1048576) (hA:∀ i,i<e.Args.length->vA (e.Args.getD i default)):vA e
theorem sI{x:bF}(h:x∈e.Args):SizeOf.sizeOf x<SizeOf.sizeOf e:=by
 cases e with
 | mk a b s l=>have:=List.sizeOf_lt_of_mem h;simp only[bF.Args]at this;grind
abbrev arF (fs:List aS)(k:Nat):Nat:=(fs.getD k default).Params.length
theorem aSK(fs:List aS)(cs ps:List Int)(e:bF)(he:vA e):Sp (aZU fs cs ps e) (fun r=>r.2=true->OkI (arF fs) fs.length cs.length ps.length e):=by
 refine lX (C:=fun (a:(List aS)×(List Int)×(List Int)×bF) (x:Option (Int×Bool))=>Con Proofs.Tryz.prog 212 [.t (eL aW (a.1)),.t (eL bI (a.2.1)),.t (eL bI (a.2.2.1)),.t (cJ a.2.2.2)] x (fun (y:Int×Bool)=>.tup [.t (.int .i64 (y.1)),.t (.bool (y.2))])) (fun a=>⟨bM Proofs.Tryz.func212 (by rfl),fun _ h=>nomatch h⟩) (fun Q a=>Xl Q a.1 a.2.1 a.2.2.1 a.2.2.2) (fun Q a=>Nm Q a.1 a.2.1 a.2.2.1 a.2.2.2)
  (fun a=>vA a.2.2.2) (fun a=>SizeOf.sizeOf a.2.2.2) (fun a r=>r.2=true->OkI (arF a.1) a.1.length a.2.1.length a.2.2.1.length a.2.2.2) (fun b r a ha M=>?_) true (fs,cs,ps,e) he
 clear he fs cs ps e;obtain⟨fs,cs,ps,e⟩:=a;simp only at ha M ⊢;cases ha with
 | mk hs hl hA=>
 have hr:∀ i,i<e.Args.length->Sq b (r.1 (fs,cs,ps,e.Args.getD i default)) (fun r=>r.2=true->OkI (arF fs) fs.length cs.length ps.length (e.Args.getD i default)):=fun i hi=>M _ (hA i hi) (sI (aM hi));unfold Xl;simp only[Tr.den];refine bR.2 (kN (fun s:List Int×Int=>s.2) e.Args.length (by omega) (fun s=>(s.1.length:Int)=s.2/\∀ i:Nat,(i:Int)<s.2->OkI (arF fs) fs.length cs.length ps.length (e.Args.getD i default)) (fun s k hI hk hkN=>?_) ⟨rfl,fun i hi=>absurd hi (by omega)⟩ rfl);obtain⟨b3,v2⟩:=s;obtain⟨hbl,hbs⟩:=hI;simp only at hk hbl hbs;subst hk;unfold Pp;simp only[Tr.den,aL];by_cases hc:k<e.Args.length
 ·rw[aA bL,aA];refine Sq.bind _ (hr k hc) fun v hv=>?_;by_cases hv2:v.2=true
  ·rw[aF (by simp_all),aA (by grind)];refine aC.2 ⟨rfl,hc,?_,fun i hi=>?_⟩
   ·simp only[dR,oA]; rw[aK]; omega
   ·simp only at hi;rw[aK]at hi;grind
  ·rw[aA (by simp_all)];exact aC.2 (aC.2 (fun h=>by cases h))
 ·rw[aF bQ];refine aC.2 ?_;have hbe:b3.length=e.Args.length:=by omega
  have hA':∀ i,i<e.Args.length->OkI (arF fs) fs.length cs.length ps.length (e.Args.getD i default):=fun i hi=>hbs i (by omega);simp only[sel];refine Sq.bind (fun s:List Int×Bool=>s.1=b3) (by split <;> exact aC.2 rfl) (fun s hsb=>?_);obtain⟨D,j6⟩:=s;simp only at hsb;subst hsb;cases j6 with
  | true=>exact aC.2 (fun h=>by cases h)
  | false=>
   simp only[eO,eH];by_cases h22:e.Op=22
   ·rw[aA (by rw[h22]; rfl)];refine Sq.bind _ (Sq.of (aTQ fs e.N D (by omega))) fun r hr=>aC.2 (fun h=>?_);have h3:=hr h;exact .mk hs hl (by omega) hA' (fun h=>by omega) (fun h=>by omega) (fun h=>by omega) (fun h=>by omega) (fun h=>by omega) (fun _=>⟨h3.1,h3.2.1,by grind⟩)
   ·rw[aF (by simp_all),aBK];simp only[aI];by_cases hN:aEX e.Op=(D.length:Int)
    ·rw[aF (by simp_all)];have hh:(0<=e.Op/\e.Op<=21)/\(e.Op=6\/e.Op=7\/e.Op=20->1<=D.length)/\(8<=e.Op/\e.Op<=19->2<=D.length)/\(e.Op=21->3<=D.length):=by unfold aEX at hN;omega
     obtain⟨ho,c1,c2,c21⟩:=hh;have Z:(e.Op=3->0<=e.N/\e.N<cs.length)->(e.Op=4->0<=e.N/\e.N<ps.length)->OkI (arF fs) fs.length cs.length ps.length e:=fun c3 c4=>
      .mk hs hl (by omega) hA' c3 c4 (fun h=>by omega) (fun h=>by omega) (fun h=>by omega) (fun h=>absurd h h22)
     clear hN;by_cases h3:e.Op=3
     ·simp (decide:=true) only[h3,↓reduceIte];refine Sq.bind _ (Sq.of (aBE cs e.N)) fun r hr=>aC.2 (fun h=>Z (fun _=>hr h) (fun h=>by omega))
     by_cases h4:e.Op=4
     ·simp (decide:=true) only[h4,↓reduceIte];refine Sq.bind _ (Sq.of (aBE ps e.N)) fun r hr=>aC.2 (fun h=>Z (fun h=>by omega) (fun _=>hr h))
     have G:=Z (fun h=>absurd h h3) (fun h=>absurd h h4);by_cases hu:e.Op=0\/e.Op=1\/e.Op=2\/e.Op=5
     ·rcases hu with h | h | h | h
      all_goals simp (decide:=true) only[h,↓reduceIte]
      all_goals repeat' (first | exact aC.2 (fun _=>G) | split)
     by_cases hu1:e.Op=6\/e.Op=7\/e.Op=20
     ·have g0:(0:Int)<(D.length:Int):=by omega
      have J:Int.toNat 0<D.length:=by omega
      rcases hu1 with h | h | h
      all_goals simp (decide:=true) only[h,g0,J,mU,↓reduceIte]
      all_goals repeat' (first | exact aC.2 (fun _=>G) | split)
     have l2:2<=D.length:=by omega
     have g0:(0:Int)<(D.length:Int):=by omega
     have J:Int.toNat 0<D.length:=by omega
     have g1:(1:Int)<(D.length:Int):=by omega
     have g1':Int.toNat 1<D.length:=by omega
     have hop:e.Op=8\/e.Op=9\/e.Op=10\/e.Op=11\/e.Op=12\/e.Op=13\/e.Op=14\/e.Op=15\/e.Op=16\/e.Op=17\/e.Op=18\/e.Op=19\/e.Op=21:=by omega
     rcases hop with h | h | h | h | h | h | h | h | h | h | h | h | h
     iterate 12
      ·simp (decide:=true) only[h,g0,J,g1,g1',mU,↓reduceIte,aI]
       repeat' (first | exact aC.2 (fun _=>G) | split)
     have l3:=c21 h;have g2:(2:Int)<(D.length:Int):=by omega
     have g2':Int.toNat 2<D.length:=by omega
     simp (decide:=true) only[h,g0,J,g1,g1',g2,g2',mU,↓reduceIte,aI]
     repeat' (first | exact aC.2 (fun _=>G) | split)
    ·rw[aA (by simp_all)];exact aC.2 (fun h=>by cases h)
theorem aBG(e:bF)(h:vA e):Sp (G80 e) (fun _=>True):=by
 refine lX (C:=fun (a:bF) (x:Option (Int))=>Con Proofs.Tryz.prog 130 [.t (cJ a)] x (fun (y:Int)=>.t (.int .i64 (y)))) (fun a=>⟨bM Proofs.Tryz.func130 (by rfl),fun _ h=>nomatch h⟩) (fun D a=>T80 D a) (fun D a=>Xj D a)
  vA (fun e=>SizeOf.sizeOf e) (fun _ _=>True) (fun b f e he G=>?_) true e h
 cases he with
 | mk hs hl hA=>
 unfold T80;simp only[Tr.den,bR];refine kN (fun s:Int×Int=>s.2) e.Args.length (by omega) (fun _=>True) (fun s k _ hk J=>?_) trivial rfl;obtain⟨v1,v2⟩:=s;simp only at hk;subst hk;unfold Vn;simp only[Tr.den,aL];by_cases hc:k<e.Args.length
 ·rw[aA bL,aA];refine Sq.bind _ (G _ (hA k hc) (sI (aM hc))) fun r _=>aC.2 ⟨rfl,hc,trivial⟩
 ·rw[aF bQ];exact aC.2 (aC.2 trivial)
theorem Iw(fs:List aS)(cs ps:List Int)(e:bF)(he:vA e):Sp (nJ fs cs ps e) (fun r=>r.2=true->OkI (arF fs) fs.length cs.length ps.length e):=by
 unfold nJ aOL;simp only[Tr.den];refine Sq.bind _ (aBG e he) fun r _=>?_;split
 ·exact aC.2 (fun h=>by cases h)
 ·refine Sq.bind _ (aSK fs cs ps e he) fun D h2=>?_;split
  ·exact aC.2 (fun h=>by cases h)
  ·rename_i h3;exact aC.2 (fun _=>h2 (by simpa using h3))
theorem aHL(fs:List aS)(hl:fs.length<=1048576)(hb:∀ i,i<fs.length->vA (fs.getD i default).Body/\(fs.getD i default).Params.length<=1048576):
  Sp (G82 fs) (fun ok=>ok=true->fs.length<=20/\∀ i,i<fs.length->OkI (arF (fs.take i)) (fs.take i).length 0 (fs.getD i default).Params.length (fs.getD i default).Body):=by
 unfold G82 T82;simp only[Tr.den];refine bR.2 (kN (fun s:Int=>s) fs.length (by omega) (fun s=>∀ i:Nat,(i:Int)<s->OkI (arF (fs.take i)) (fs.take i).length 0 (fs.getD i default).Params.length (fs.getD i default).Body) (fun s k M hk hkN=>?_) (fun i hi=>absurd hi (by omega)) rfl);subst hk;unfold Uy;simp only[Tr.den,aL];by_cases hc:k<fs.length
 ·rw[aA bL];by_cases D:(k:Int)<=20
  ·simp only[aI,wH D,gT];rw[aA];have hp:=(hb k hc).2;refine bR.2 (kN (fun s:Int=>s) (fs.getD k default).Params.length (by omega) (fun _=>True) (fun s m _ hm Z=>?_) trivial rfl);subst hm;unfold Uu;simp only[Tr.den,aL];by_cases hm:m<(fs.getD k default).Params.length
   ·rw[aA bL,aA,Ex];simp only[aI];split
    ·exact aC.2 (aC.2 (aC.2 (fun h=>by cases h)))
    ·exact aC.2 ⟨rfl,hm,trivial⟩
   ·rw[aF bQ];refine aC.2 ?_;simp only[sel];rw[aA ⟨by omega,by omega,by omega⟩];have Q:(fs.drop (Int.toNat 0)).take ((k:Int)-0).toNat=fs.take k:=by rfl
    rw[Q,aA ⟨by omega,by omega,by omega⟩];refine Sq.bind _ (Sq.of (Iw (fs.take k) [] (fs.getD k default).Params (fs.getD k default).Body (hb k hc).1)) fun G h5=>?_;by_cases ho:G.2=true
    ·rw[aF (by simp_all)];refine Sq.bind (fun _=>True) (by split <;> exact aC.2 trivial) fun J _=>?_;cases J with
     | true=>exact aC.2 (aC.2 (fun h=>by cases h))
     | false=>
      refine aC.2 ⟨rfl,hc,fun i hi=>?_⟩;rw[aK]at hi;rcases Hn i k with h | h
      ·simp_all
      ·have:i=k:=by omega
       simp_all
    ·rw[aA (by simp_all)];exact aC.2 (aC.2 (fun h=>by cases h))
  ·simp only[aI,kU D,eO,eH];refine aC.2 (aC.2 (fun h=>?_));grind
 ·rw[aF bQ];simp only[aI,eO,eH];refine aC.2 (aC.2 (fun h=>⟨by grind,fun i hi=>M i (by omega)⟩))
theorem OkI.congr{ar D:Nat->Nat}{n:Nat}(h:∀ k,k<n->ar k=D k){nc np:Nat}(he:OkI ar n nc np e):OkI D n nc np e:=by
 induction he with
 | @mk e hs hl ho hA c3 c4 c1 c2 c21 c22 ih=>exact .mk hs hl ho ih c3 c4 c1 c2 c21 (fun G=>by simp_all)
theorem aHN{i k:Nat}(h:k<i):arF (fs.take i) k=arF fs k:=by unfold arF;rw[dV,dV,tC,aA h]
theorem Mc(hl:fs.length<=1048576)(hb:∀ i,i<fs.length->vA (fs.getD i default).Body/\(fs.getD i default).Params.length<=1048576)(h:G82 fs=some true)
  {cs ps:List Int}(he:vA e){t:Int}(D:nJ fs cs ps e=some (t,true)):∃ h,OkE fs cs.length ps.length h e:=by
 have h1:=(aHL fs hl hb).1 _ h rfl;refine aVH (fun i hi=>?_) fs.length (cM _) _ _ e ((Iw fs cs ps e he).1 _ D rfl);have h2:=h1.2 i hi;rw[dU,Nat.min_eq_left (by omega)]at h2;exact h2.congr (fun k hk=>aHN hk)
section
variable {α:Type} [Inhabited α] (tm:α->Int) (nx:Int->α->Int) (hit:Int->Bool) (sz bg:Int)
def isM(t0 now:Int)(l:List α):Bool:=decide (tm (l.getLastD default)-t0<sz)&&hit (l.foldl nx now)
def Ig:Int->List α->Nat->Int
 | _,[],_=>-1
 | i,q::qs,0=>if isM tm nx hit sz (tm q) bg [q]=true then i else -1
 | i,q::qs,k+1=>if isM tm nx hit sz (tm q) bg ((q::qs).take (k+1+1))=true then i else Ig (i+1) qs k
end
end Go.PL
