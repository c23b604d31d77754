/-
  Parts: Plain law of expressions: the value of a typed expression has its type. Own work. Plain law of expressions: what is accepted as typed is typed. Own work. Plain law of patterns: acts that fit. Own work. Plain law of patterns: what an operator yields and keeps, by the sum of what it got. Own work. Plain law of patterns: the examples. Own work. Plain law of patterns: the examples come out. Own work. Plain law of patterns: the examples hold. Own work. Plain law of patterns: a match depends on the places near its end alone. Own work. Plain law of patterns: a push yields the difference of all matches. Own work. Plain law of patterns: the walk forward from a place and the walk backward to it find the same matches. Own work. The kept part of a plain-law text (strip.py). Own work. The kept part of a plain-law text (strip.py). Own work. Plain law of patterns: pushes add up. Own work. The kept part of a plain-law text (strip.py). Own work. Plain law of patterns: the reference's matches of the rows of one key. Own work. Plain law of patterns: the reference's matches of the rows of one key, all together. Own work. Plain law of patterns: the reference's matches of one key: the result. Own work. The kept part of a plain-law text (strip.py). Own work. The kept part of a plain-law text (strip.py). Own work. The kept part of a plain-law text (strip.py). Own work. The kept part of a plain-law text (strip.py). Own work. Plain law of patterns: the reference's matches of all keys. Own work. Plain law of expressions: the reference's evaluator computes what the program's does. Own work. Plain law of expressions: the reference's evaluator computes what the program's does. Own work. Plain law of PatternTells: the reference's operator and the program's do the same. Own work. Plain law of PatternTells: both read the same operator of any string. Own work. Plain law of PatternTells: all together. Own work.
-/
import Derived.Test.YtjefblkdnolgaaaGreatDoorMh
import Derived.KernelRfl
set_option maxHeartbeats 4000000
namespace Go.PL
open Go
set_option linter.unusedVariables false
set_option maxRecDepth 20000
variable {S T:Nat->Prop} {a2:cS} {b lo s t:Int} {cs:List Int} {d:aC} {e:bB} {i j nc np:Nat} {key ps row:List aE} {ks:List ByteArray} {l part:List aC}
theorem sqf{α:Type}{x:Option α}{Q:α->Prop}:Sq false x Q↔∀ y,x=some y->Q y:=⟨fun h=>h.1,fun h=>⟨h,fun h'=>by cases h'⟩⟩
theorem dQ{α:Type}{c:Prop}[Decidable c]{x:Option α}{Q:α->Prop}(h:c->Sq false x Q):Sq false (if c then x else none) Q:=by
 by_cases hc:c
 ·simp_all
 ·rw[aF hc]; exact sqf.2 fun y hy=>by cases hy
theorem Sp.and_part{α:Type}{x:Option α}{P Q:α->Prop}(h:Sp x P)(h':Sq false x Q):Sp x (fun y=>P y/\Q y):=⟨fun y hy=>⟨h.1 y hy,h'.1 y hy⟩,h.2⟩
section
variable {P:Program} {A R:Type}
theorem Kr{C:A->Option R->Prop}(c0:∀ a,C a none)(B:{f:A->Option R // ∀ a,C a (f a)}->A->Tr P R)(ok:∀ f a,C a (B f a).den)(Q:A->R->Prop)
  (h:∀ f a,(∀ a',Sq false (f.1 a') (Q a'))->Sq false (B f a).den (Q a))(a:A):Sq false (sG c0 B ok a) (Q a):=by
 have h1:∀ k a,Sq false ((aPD c0 B ok k).1 a) (Q a):=by
  intro k
  induction k with
  | zero=>intro a; exact sqf.2 fun y hy=>by cases hy
  | succ k ih=>intro a; exact h _ _ ih
 unfold sG Lim;split
 ·grind
 ·exact sqf.2 fun y hy=>by cases hy
end
def TyV(t:Int)(v:aE):Prop:=v.Kind=t/\(t≠1->v.S.toList=(⟨#[]⟩:ByteArray).toList)/\(t=1->v.N=0)
theorem yC(n:Int):TyV 0 (vI n):=⟨rfl,fun _=>rfl,fun h=>by cases h⟩
theorem Ca(b:Bool):TyV 2 (vB b):=⟨rfl,fun _=>rfl,fun h=>by cases h⟩
theorem aCE(s:ByteArray):TyV 1 (vT s):=⟨rfl,fun h=>absurd rfl h,fun _=>rfl⟩
def tyB(op:Int):Int:=if op<=12 then 0 else if op<=18 then 2 else 1
theorem bHY(op:Int)(a b:aE)(h:8<=op/\op<=19):TyV (tyB op) (bop op a b):=by
 have hs:op=8\/op=9\/op=10\/op=11\/op=12\/op=13\/op=14\/op=15\/op=16\/op=17\/op=18\/op=19:=by omega
 rcases hs with h | h | h | h | h | h | h | h | h | h | h | h
 all_goals subst h
 all_goals unfold bop
 ·exact yC _
 ·exact yC _
 ·exact yC _
 ·show TyV 0 (if b.N=0 then vI 0 else vI (IntKind.i64.wrap (Int.tdiv a.N b.N)));split <;> exact yC _
 ·show TyV 0 (if b.N=0 then vI 0 else vI (Int.tmod a.N b.N));split <;> exact yC _
 ·exact Ca _
 ·exact Ca _
 ·exact Ca _
 ·exact Ca _
 ·exact Ca _
 ·exact Ca _
 ·exact aCE _
theorem aTC(p:cF):Sq false (Vx p) (TyV 1):=by
 unfold Vx aJJ;simp only[Tr.den]
 repeat' (first | exact aA.2 (aCE _) | (refine dQ fun _=>?_) | (refine Sq.bind (fun _=>True) ?_ fun _ _=>?_) | (refine aA.2 ?_) | split)
 all_goals first | trivial | exact aCE _
inductive TyE (fs:List aI)(cs ps:List Int):bB->Int->Prop
 | mk {e:bB} {t:Int} (ts:List Int) (hl:ts.length=e.Args.length) (hb:e.Args.length<=1048576) (ho:0<=e.Op/\e.Op<=22)
   (hA:∀ i,i<e.Args.length->TyE fs cs ps (e.Args.getD i default) (ts.getD i default))
   (o0:e.Op=0\/e.Op=5\/e.Op=7\/e.Op=20->t=0) (o1:e.Op=1->t=1) (o2:e.Op=2\/e.Op=6->t=2) (ob:8<=e.Op/\e.Op<=19->2<=e.Args.length/\t=tyB e.Op)
   (o3:e.Op=3->(0<=e.N/\e.N<cs.length)/\t=cs.getD e.N.toNat default) (o4:e.Op=4->(0<=e.N/\e.N<ps.length)/\t=ps.getD e.N.toNat default)
   (o21:e.Op=21->(3<=e.Args.length)/\ts.getD 1 default=t/\ts.getD 2 default=t)
   (o22:e.Op=22->(0<=e.N/\e.N<fs.length)/\ts=(fs.getD e.N.toNat default).Params/\t=(fs.getD e.N.toNat default).Result)
   (oc:13<=e.Op/\e.Op<=16->ts.getD 0 default=ts.getD 1 default):TyE fs cs ps e t
def TyR(ts:List Int)(row:List aE):Prop:=∀ i,i<ts.length->TyV (ts.getD i default) (row.getD i default)
def aNT(fs:List aI):Prop:=∀ i,i<fs.length->TyE fs [] (fs.getD i default).Params (fs.getD i default).Body (fs.getD i default).Result
theorem aUJ(f:fD)(e:bB):Sq false (Ny f e) (fun v=>∀ cs ps t,TyR cs f.row_->TyR ps f.params_->aNT f.funcs_->TyE f.funcs_ cs ps e t->TyV t v):=by
 refine Kr (C:=fun (a:fD×bB) (x:Option (aE))=>Con Proofs.Tryz.prog 171 [.t (iQ a.1),.t (cQ a.2)] x (fun (y:aE)=>.t (cH y))) (fun a=>⟨bL Proofs.Tryz.func171 (by rfl),fun _ h=>nomatch h⟩) (fun rec a=>zY rec a.1 a.2) (fun rec a=>yL rec a.1 a.2)
  (fun a v=>∀ cs ps t,TyR cs a.1.row_->TyR ps a.1.params_->aNT a.1.funcs_->TyE a.1.funcs_ cs ps a.2 t->TyV t v) (fun r a hrec=>?_) (f,e)
 clear f e;obtain⟨f,e⟩:=a;simp only at hrec ⊢;refine sqf.2 fun y hy cs ps t hrow hpar hfs he=>?_;revert y;refine sqf.1 ?_;cases he with
 | mk ts hl hb ho hA o0 o1 o2 ob o3 o4 o21 o22 oc=>
 have hr:∀ i,i<e.Args.length->Sq false (r.1 (f,e.Args.getD i default)) (TyV (ts.getD i default)):=fun i hi=>(hrec (f,e.Args.getD i default)).imp fun v hv=>hv cs ps _ hrow hpar hfs (hA i hi);unfold zY;by_cases h21:e.Op=21
 ·obtain⟨hl3,e1,e2⟩:=o21 h21;simp only[h21,Tr.den];rw[aB (by decide),aB (by omega)];refine Sq.bind _ (hr 0 (by omega)) fun v1 _=>?_;grind
 ·simp only[Tr.den];rw[aF (by simp_all)];refine cD.2 (jN (fun s:List aE×Int=>s.2) e.Args.length (by omega) (fun s=>(s.1.length:Int)=s.2/\∀ i:Nat,(i:Int)<s.2->TyV (ts.getD i default) (s.1.getD i default)) (fun s k hI hk hkN=>?_) ⟨rfl,fun i hi=>absurd hi (by omega)⟩ rfl);obtain⟨b6,v5⟩:=s;obtain⟨hbl,hbs⟩:=hI;simp only at hk hbl hbs;subst hk;unfold zS;simp only[Tr.den,aS];by_cases hc:k<e.Args.length
  ·rw[aB (bI (by omega)),aB (by omega)];refine Sq.bind _ (hr k hc) fun v hv=>?_;refine dQ fun _=>?_;refine aA.2 ⟨rfl,hc,?_,fun i hi=>?_⟩
   ·simp only[cE,wH]; rw[aL (by omega)]; omega
   ·simp only at hi;rw[aL (by omega)]at hi;simp only;rw[eW];grind
  ·rw[aF (bJ (by omega))];refine aA.2 ?_;have hbe:b6.length=e.Args.length:=by omega
   show Sq false _ (TyV t);simp only[sel];have z0:(0:Int).toNat=0:=rfl;have z1:(1:Int).toNat=1:=rfl;have hop:e.Op=0\/e.Op=1\/e.Op=2\/e.Op=3\/e.Op=4\/e.Op=5\/e.Op=6\/e.Op=7\/e.Op=20\/e.Op=22\/(8<=e.Op/\e.Op<=19):=by omega
   rcases hop with h | h | h | h | h | h | h | h | h | h | h
   ·rw[aB (by rw[h]; rfl),gK]; exact aA.2 (o0 (by omega)▸yC _)
   ·simp (decide:=true) only[h,↓reduceIte];rw[o1 h]; exact aA.2 (aCE _)
   ·simp (decide:=true) only[h,↓reduceIte,iS];exact aA.2 (o2 (by omega)▸Ca _)
   ·obtain⟨h3,e3⟩:=o3 h;simp (decide:=true) only[h,↓reduceIte];refine dQ fun _=>aA.2 ?_;rw[e3]; exact hrow _ (by omega)
   ·obtain⟨h3,e3⟩:=o4 h;simp (decide:=true) only[h,↓reduceIte];refine dQ fun _=>aA.2 ?_;rw[e3]; exact hpar _ (by omega)
   ·simp (decide:=true) only[h,↓reduceIte,gK];exact aA.2 (o0 (by omega)▸yC _)
   ·simp (decide:=true) only[h,↓reduceIte,iS];exact dQ fun _=>dQ fun _=>aA.2 (o2 (by omega)▸Ca _)
   ·simp (decide:=true) only[h,↓reduceIte,gK];exact dQ fun _=>dQ fun _=>aA.2 (o0 (by omega)▸yC _)
   ·simp (decide:=true) only[h,↓reduceIte,gK];exact dQ fun _=>dQ fun _=>aA.2 (o0 (by omega)▸yC _)
   ·obtain⟨h3,e3,e4⟩:=o22 h;simp (decide:=true) only[h,↓reduceIte];refine dQ fun _=>?_;refine Sq.bind _ (hrec (_,_)) fun v hv=>aA.2 ?_;rw[e4];refine hv [] _ _ (fun i hi=>absurd hi (sX i)) ?_ hfs (hfs e.N.toNat (by omega));rw[<-e3];exact fun i hi=>hbs i (by omega)
   ·obtain⟨l2,ht⟩:=ob h;have d2:0<b6.length:=by omega
    have d3:1<b6.length:=by omega
    have hop:e.Op=8\/e.Op=9\/e.Op=10\/e.Op=11\/e.Op=12\/e.Op=13\/e.Op=14\/e.Op=15\/e.Op=16\/e.Op=17\/e.Op=18\/e.Op=19:=by omega
    have fin:∀ {x:Option aE} {op:Int},e.Op=op->x=some (bop op (b6.getD 0 default) (b6.getD 1 default))->Sq false x (TyV t):=fun h1 h2=>by rw[h2,ht,h1]; exact aA.2 (bHY _ _ _ (by omega))
    rcases hop with h | h | h | h | h | h | h | h | h | h | h | h
    ·simp (decide:=true) only[h,↓reduceIte];change Sq false (((some 225:Option Nat).bind _).bind _) (TyV t);simp only[aH,Tr.den,z0,z1];rw[aB ⟨trivial,by omega⟩,aB d2,aB ⟨trivial,by omega⟩,aB d3,Qz];simp_all
    ·simp (decide:=true) only[h,↓reduceIte];change Sq false (((some 226:Option Nat).bind _).bind _) (TyV t);simp only[aH,Tr.den,z0,z1];rw[aB ⟨trivial,by omega⟩,aB d2,aB ⟨trivial,by omega⟩,aB d3,Ps];simp_all
    ·simp (decide:=true) only[h,↓reduceIte];change Sq false (((some 227:Option Nat).bind _).bind _) (TyV t);simp only[aH,Tr.den,z0,z1];rw[aB ⟨trivial,by omega⟩,aB d2,aB ⟨trivial,by omega⟩,aB d3,Qx];simp_all
    ·simp (decide:=true) only[h,↓reduceIte];change Sq false (((some 228:Option Nat).bind _).bind _) (TyV t);simp only[aH,Tr.den,z0,z1];rw[aB ⟨trivial,by omega⟩,aB d2,aB ⟨trivial,by omega⟩,aB d3,Qh];simp_all
    ·simp (decide:=true) only[h,↓reduceIte];change Sq false (((some 229:Option Nat).bind _).bind _) (TyV t);simp only[aH,Tr.den,z0,z1];rw[aB ⟨trivial,by omega⟩,aB d2,aB ⟨trivial,by omega⟩,aB d3,Ru];simp_all
    ·simp (decide:=true) only[h,↓reduceIte];change Sq false (((some 230:Option Nat).bind _).bind _) (TyV t);simp only[aH,Tr.den,z0,z1];rw[aB ⟨trivial,by omega⟩,aB d2,aB ⟨trivial,by omega⟩,aB d3,Dy];simp_all
    ·simp (decide:=true) only[h,↓reduceIte];change Sq false (((some 231:Option Nat).bind _).bind _) (TyV t);simp only[aH,Tr.den,z0,z1];rw[aB ⟨trivial,by omega⟩,aB d2,aB ⟨trivial,by omega⟩,aB d3,No];simp_all
    ·simp (decide:=true) only[h,↓reduceIte];change Sq false (((some 232:Option Nat).bind _).bind _) (TyV t);simp only[aH,Tr.den,z0,z1];rw[aB ⟨trivial,by omega⟩,aB d2,aB ⟨trivial,by omega⟩,aB d3,Oz];simp_all
    ·simp (decide:=true) only[h,↓reduceIte];change Sq false (((some 233:Option Nat).bind _).bind _) (TyV t);simp only[aH,Tr.den,z0,z1];rw[aB ⟨trivial,by omega⟩,aB d2,aB ⟨trivial,by omega⟩,aB d3,Rx];simp_all
    ·simp (decide:=true) only[h,↓reduceIte];change Sq false (((some 234:Option Nat).bind _).bind _) (TyV t);simp only[aH,Tr.den,z0,z1];rw[aB ⟨trivial,by omega⟩,aB d2,aB ⟨trivial,by omega⟩,aB d3,Rw];simp_all
    ·simp (decide:=true) only[h,↓reduceIte];change Sq false (((some 235:Option Nat).bind _).bind _) (TyV t);simp only[aH,Tr.den,z0,z1];rw[aB ⟨trivial,by omega⟩,aB d2,aB ⟨trivial,by omega⟩,aB d3,Oe];simp_all
    ·simp (decide:=true) only[h,↓reduceIte];change Sq false (((some 236:Option Nat).bind _).bind _) (TyV t);simp only[aH,Tr.den,z0,z1];rw[aB ⟨trivial,by omega⟩,aB d2,aB ⟨trivial,by omega⟩,aB d3];rw[ht,h];exact Sq.bind (fun v:Int×Int×ByteArray=>TyV 1 ⟨v.1,v.2.1,v.2.2⟩) (Sq.bind _ (aTC _) fun v hv=>aA.2 hv) fun v hv=>aA.2 hv
theorem aDA(l:List Int)(n:Int):Sp (aKS l n) (fun r=>r.2=true->(0<=n/\n<l.length)/\r.1=l.getD n.toNat default):=by
 unfold aKS aUM;simp only[Tr.den];by_cases h1:n<0
 ·rw[aB (bI h1)];exact aA.2 (fun h=>by cases h)
 ·rw[aF (bJ h1)];by_cases h2:n>=(l.length:Int)
  ·simp only[aH,rM h2,fZ];exact aA.2 (fun h=>by cases h)
  ·simp only[aH,kN h2,cM,cI];rw[aB (by omega),aB (by omega),Dl];exact aA.2 (fun _=>⟨by omega,rfl⟩)
theorem aVW(fs:List aI)(n:Int)(l:List Int)(hl:l.length<=1048576):Sp (aMA fs n l) (fun r=>r.2=true->(0<=n/\n<fs.length)/\l=(fs.getD n.toNat default).Params/\r.1=(fs.getD n.toNat default).Result):=by
 unfold aMA aWC;simp only[Tr.den];by_cases h1:n<0
 ·rw[aB (bI h1)];exact aA.2 (fun h=>by cases h)
 ·rw[aF (bJ h1)];by_cases h2:n>=(fs.length:Int)
  ·simp only[aH,rM h2,fZ];exact aA.2 (fun h=>by cases h)
  ·simp only[aH,kN h2,cM,cI];rw[aB (by omega)];by_cases h3:((fs.getD n.toNat default).Params.length:Int)=(l.length:Int)
   ·rw[aF (by simp_all)];refine cD.2 (jN (fun s:Int=>s) l.length (by omega) (fun s=>∀ i:Nat,(i:Int)<s->l.getD i default=(fs.getD n.toNat default).Params.getD i default) (fun s k hI hk hkN=>?_) (fun i hi=>absurd hi (by omega)) rfl);subst hk;unfold Nl;simp only[Tr.den,aS];by_cases hc:k<l.length
    ·rw[aB (bI (by omega)),aB (by omega),aB (by omega)];split
     ·exact aA.2 (aA.2 (fun h=>by cases h))
     ·rename_i hne;refine aA.2 ⟨rfl,hc,fun i hi=>?_⟩;rw[aL (by omega)]at hi;grind
    ·rw[aF (bJ (by omega))];exact aA.2 (aA.2 (fun _=>⟨by omega,Tk (by omega) fun i hi=>hI i (by omega),rfl⟩))
   ·rw[aB (by simp_all)];exact aA.2 (fun h=>by cases h)
theorem aWR(fs:List aI)(cs ps:List Int)(e:bB)(he:vX e):Sp (bFT fs cs ps e) (fun r=>r.2=true->TyE fs cs ps e r.1):=by
 refine mB (C:=fun (a:(List aI)×(List Int)×(List Int)×bB) (x:Option (Int×Bool))=>Con Proofs.Tryz.prog 212 [.t (eL aV (a.1)),.t (eL bK (a.2.1)),.t (eL bK (a.2.2.1)),.t (cQ a.2.2.2)] x (fun (y:Int×Bool)=>.tup [.t (.int .i64 (y.1)),.t (.bool (y.2))])) (fun a=>⟨bL Proofs.Tryz.func212 (by rfl),fun _ h=>nomatch h⟩) (fun rec a=>Xs rec a.1 a.2.1 a.2.2.1 a.2.2.2) (fun rec a=>Px rec a.1 a.2.1 a.2.2.1 a.2.2.2)
  (fun a=>vX a.2.2.2) (fun a=>SizeOf.sizeOf a.2.2.2) (fun a r=>r.2=true->TyE a.1 a.2.1 a.2.2.1 a.2.2.2 r.1) (fun b r a ha hrec=>?_) true (fs,cs,ps,e) he
 clear he fs cs ps e;obtain⟨fs,cs,ps,e⟩:=a;simp only at ha hrec ⊢;cases ha with
 | mk hs hl hA=>
 have hr:∀ i,i<e.Args.length->Sq b (r.1 (fs,cs,ps,e.Args.getD i default)) (fun r=>r.2=true->TyE fs cs ps (e.Args.getD i default) r.1):=fun i hi=>hrec _ (hA i hi) (tU (aT hi));unfold Xs;simp only[Tr.den];refine cD.2 (jN (fun s:List Int×Int=>s.2) e.Args.length (by omega) (fun s=>(s.1.length:Int)=s.2/\∀ i:Nat,(i:Int)<s.2->TyE fs cs ps (e.Args.getD i default) (s.1.getD i default)) (fun s k hI hk hkN=>?_) ⟨rfl,fun i hi=>absurd hi (by omega)⟩ rfl);obtain⟨b3,v2⟩:=s;obtain⟨hbl,hbs⟩:=hI;simp only at hk hbl hbs;subst hk;unfold Rg;simp only[Tr.den,aS];by_cases hc:k<e.Args.length
 ·rw[aB (bI (by omega)),aB (by omega)];refine Sq.bind _ (hr k hc) fun v hv=>?_;by_cases hv2:v.2=true
  ·rw[aF (by simp_all),aB (by grind)];refine aA.2 ⟨rfl,hc,?_,fun i hi=>?_⟩
   ·simp only[cE,wH]; rw[aL (by omega)]; omega
   ·simp only at hi ⊢;rw[aL (by omega)]at hi;rw[eW];rcases Nat.lt_or_ge i k with h | h
    ·grind
    ·have:i=k:=by omega
     subst this;rw[aF (by omega),show i-b3.length=0 by omega]; exact hv hv2
  ·rw[aB (by simp_all)];exact aA.2 (aA.2 (fun h=>by cases h))
 ·rw[aF (bJ (by omega))];refine aA.2 ?_;have hbe:b3.length=e.Args.length:=by omega
  have hA':∀ i,i<e.Args.length->TyE fs cs ps (e.Args.getD i default) (b3.getD i default):=fun i hi=>hbs i (by omega);simp only[sel];refine Sq.bind (fun s:List Int×Bool=>s.1=b3) (by split <;> exact aA.2 rfl) (fun s hsb=>?_);obtain⟨j5,j6⟩:=s;simp only at hsb;subst hsb;cases j6 with
  | true=>exact aA.2 (fun h=>by cases h)
  | false=>
   simp only[cM,cI];by_cases h22:e.Op=22
   ·rw[aB (by rw[h22]; rfl)];refine Sq.bind _ (Sq.of (aVW fs e.N j5 (by omega))) fun r hr=>aA.2 (fun h=>?_);have h3:=hr h;exact .mk j5 hbe (by omega) (by omega) hA' (fun h=>by omega) (fun h=>by omega) (fun h=>by omega) (fun h=>by omega) (fun h=>by omega) (fun h=>by omega) (fun h=>by omega) (fun _=>h3) (fun h=>by omega)
   ·rw[aF (by simp_all),aBC];simp only[aH];by_cases hN:aJV e.Op=(j5.length:Int)
    ·rw[aF (by simp_all)];have hh:(0<=e.Op/\e.Op<=21)/\(e.Op=6\/e.Op=7\/e.Op=20->1<=j5.length)/\(8<=e.Op/\e.Op<=19->2<=j5.length)/\(e.Op=21->3<=j5.length):=by unfold aJV at hN;omega
     obtain⟨ho,c1,c2,c21⟩:=hh;clear hN;by_cases h3:e.Op=3
     ·simp (decide:=true) only[h3,↓reduceIte];refine Sq.bind _ (Sq.of (aDA cs e.N)) fun r hr=>aA.2 (fun h=>.mk j5 hbe (by omega) (by omega) hA' (fun h=>by omega) (fun h=>by omega) (fun h=>by omega) (fun h=>by omega) (fun _=>hr h) (fun h=>by omega) (fun h=>by omega) (fun h=>by omega) (fun h=>by omega))
     by_cases h4:e.Op=4
     ·simp (decide:=true) only[h4,↓reduceIte];refine Sq.bind _ (Sq.of (aDA ps e.N)) fun r hr=>aA.2 (fun h=>.mk j5 hbe (by omega) (by omega) hA' (fun h=>by omega) (fun h=>by omega) (fun h=>by omega) (fun h=>by omega) (fun h=>by omega) (fun _=>hr h) (fun h=>by omega) (fun h=>by omega) (fun h=>by omega))
     have fin:∀ t:Int,e.Op≠21->(e.Op=0\/e.Op=5\/e.Op=7\/e.Op=20->t=0)->(e.Op=1->t=1)->(e.Op=2\/e.Op=6->t=2)->(8<=e.Op/\e.Op<=19->t=tyB e.Op)->(13<=e.Op/\e.Op<=16->j5.getD 0 default=j5.getD 1 default)->TyE fs cs ps e t:=fun t q1 q2 q3 q4 q5 q6=>
      .mk j5 hbe (by omega) (by omega) hA' q2 q3 q4 (fun h=>⟨by omega,q5 h⟩) (fun h=>absurd h h3) (fun h=>absurd h h4) (fun h=>absurd h q1) (fun h=>absurd h h22) q6
     by_cases hu:e.Op=0\/e.Op=1\/e.Op=2\/e.Op=5
     ·rcases hu with h | h | h | h
      ·simp (decide:=true) only[h,↓reduceIte]
       repeat' (first | exact aA.2 (fun _=>fin 0 (by omega) (fun _=>rfl) (fun _=>by omega) (fun _=>by omega) (fun _=>by omega) (fun _=>by omega)) | exact aA.2 (fun h=>by cases h) | split)
      ·simp (decide:=true) only[h,↓reduceIte]
       repeat' (first | exact aA.2 (fun _=>fin 1 (by omega) (fun _=>by omega) (fun _=>by omega) (fun _=>by omega) (fun _=>by omega) (fun _=>by omega)) | exact aA.2 (fun h=>by cases h) | split)
      ·simp (decide:=true) only[h,↓reduceIte]
       repeat' (first | exact aA.2 (fun _=>fin 2 (by omega) (fun _=>by omega) (fun _=>by omega) (fun _=>by omega) (fun _=>by omega) (fun _=>by omega)) | exact aA.2 (fun h=>by cases h) | split)
      ·simp (decide:=true) only[h,↓reduceIte]
       repeat' (first | exact aA.2 (fun _=>fin 0 (by omega) (fun _=>rfl) (fun _=>by omega) (fun _=>by omega) (fun _=>by omega) (fun _=>by omega)) | exact aA.2 (fun h=>by cases h) | split)
     by_cases hu1:e.Op=6\/e.Op=7\/e.Op=20
     ·have g0:(0:Int)<(j5.length:Int):=by omega
      have g0':Int.toNat 0<j5.length:=by omega
      rcases hu1 with h | h | h
      ·simp (decide:=true) only[h,g0,g0',nG,↓reduceIte]
       repeat' (first | exact aA.2 (fun _=>fin 2 (by omega) (fun _=>by omega) (fun _=>by omega) (fun _=>by omega) (fun _=>by omega) (fun _=>by omega)) | exact aA.2 (fun h=>by cases h) | split)
      ·simp (decide:=true) only[h,g0,g0',nG,↓reduceIte]
       repeat' (first | exact aA.2 (fun _=>fin 0 (by omega) (fun _=>rfl) (fun _=>by omega) (fun _=>by omega) (fun _=>by omega) (fun _=>by omega)) | exact aA.2 (fun h=>by cases h) | split)
      ·simp (decide:=true) only[h,g0,g0',nG,↓reduceIte]
       repeat' (first | exact aA.2 (fun _=>fin 0 (by omega) (fun _=>rfl) (fun _=>by omega) (fun _=>by omega) (fun _=>by omega) (fun _=>by omega)) | exact aA.2 (fun h=>by cases h) | split)
     have l2:2<=j5.length:=by omega
     have g0:(0:Int)<(j5.length:Int):=by omega
     have g0':Int.toNat 0<j5.length:=by omega
     have g1:(1:Int)<(j5.length:Int):=by omega
     have g1':Int.toNat 1<j5.length:=by omega
     have hop:e.Op=8\/e.Op=9\/e.Op=10\/e.Op=11\/e.Op=12\/e.Op=13\/e.Op=14\/e.Op=15\/e.Op=16\/e.Op=17\/e.Op=18\/e.Op=19\/e.Op=21:=by omega
     have fin2:∀ t:Int,(8<=e.Op/\e.Op<=19)->t=tyB e.Op->(13<=e.Op/\e.Op<=16->j5.getD 0 default=j5.getD 1 default)->TyE fs cs ps e t:=fun t q1 q2 q3=>fin t (by omega) (fun _=>by omega) (fun _=>by omega) (fun _=>by omega) (fun _=>q2) q3;rcases hop with h | h | h | h | h | h | h | h | h | h | h | h | h
     iterate 5
      ·simp (decide:=true) only[h,g0,g0',g1,g1',nG,↓reduceIte,aH]
       repeat' (first | exact aA.2 (fun _=>fin2 0 (by omega) (by rw[h]; rfl) fun _=>by omega) | exact aA.2 (fun h=>by cases h) | split)
     iterate 4
      ·simp (decide:=true) only[h,g0,g0',g1,g1',nG,↓reduceIte,aH]
       repeat' (first | exact aA.2 (fun hq=>fin2 2 (by omega) (by rw[h]; rfl) fun _=>jI.1 hq) | exact aA.2 (fun h=>by cases h) | split)
     iterate 2
      ·simp (decide:=true) only[h,g0,g0',g1,g1',nG,↓reduceIte,aH]
       repeat' (first | exact aA.2 (fun _=>fin2 2 (by omega) (by rw[h]; rfl) fun _=>by omega) | exact aA.2 (fun h=>by cases h) | split)
     ·simp (decide:=true) only[h,g0,g0',g1,g1',nG,↓reduceIte,aH]
      repeat' (first | exact aA.2 (fun _=>fin2 1 (by omega) (by rw[h]; rfl) fun _=>by omega) | exact aA.2 (fun h=>by cases h) | split)
     have l3:=c21 h;have g2:(2:Int)<(j5.length:Int):=by omega
     have g2':Int.toNat 2<j5.length:=by omega
     simp (decide:=true) only[h,g0,g0',g1,g1',g2,g2',nG,↓reduceIte,aH];split
     ·exact aA.2 (fun h=>by cases h)
     ·split
      ·refine aA.2 fun hq=>?_;have hq:=jI.1 hq;exact .mk j5 hbe (by omega) (by omega) hA' (fun h=>by omega) (fun h=>by omega) (fun h=>by omega) (fun h=>by omega) (fun h=>by omega) (fun h=>by omega) (fun _=>⟨by omega,rfl,hq.symm⟩) (fun h=>by omega) (fun h=>by omega)
      ·exact aA.2 (fun h=>by cases h)
    ·rw[aB (by simp_all)];exact aA.2 (fun h=>by cases h)
theorem aBV(fs:List aI)(cs ps:List Int)(e:bB)(he:vX e):Sp (De fs cs ps e) (fun r=>r.2=true->TyE fs cs ps e r.1):=by
 unfold De aVE;simp only[Tr.den];refine Sq.bind _ (aED e he) fun r _=>?_;split
 ·exact aA.2 (fun h=>by cases h)
 ·refine Sq.bind _ (aWR fs cs ps e he) fun r2 h2=>?_;split
  ·exact aA.2 (fun h=>by cases h)
  ·rename_i h3;exact aA.2 (fun _=>h2 (by simp_all))
theorem TyE.mono{fs:List aI}{ps:List Int}(h:TyE (fs.take i) cs ps e t):TyE fs cs ps e t:=by
 induction h with
 | @mk e t ts hl hb ho hA o0 o1 o2 ob o3 o4 o21 o22 oc ih=>refine .mk ts hl hb ho ih o0 o1 o2 ob o3 o4 o21 (fun h=>?_) oc;grind
theorem bGD(fs:List aI)(hl:fs.length<=1048576)(hb:∀ i,i<fs.length->vX (fs.getD i default).Body/\(fs.getD i default).Params.length<=1048576):
  Sp (G82 fs) (fun ok=>ok=true->aNT fs):=by
 unfold G82 T82;simp only[Tr.den];refine cD.2 (jN (fun s:Int=>s) fs.length (by omega) (fun s=>∀ i:Nat,(i:Int)<s->TyE (fs.take i) [] (fs.getD i default).Params (fs.getD i default).Body (fs.getD i default).Result) (fun s k hI hk hkN=>?_) (fun i hi=>absurd hi (by omega)) rfl);subst hk;unfold Zf;simp only[Tr.den,aS];by_cases hc:k<fs.length
 ·rw[aB (bI (by omega))];by_cases h20:(k:Int)<=20
  ·simp only[aH,rM h20,fZ];rw[aB (by omega)];have hp:=(hb k hc).2;refine cD.2 (jN (fun s:Int=>s) (fs.getD k default).Params.length (by omega) (fun _=>True) (fun s m _ hm hmN=>?_) trivial rfl);subst hm;unfold Zz;simp only[Tr.den,aS];by_cases hm:m<(fs.getD k default).Params.length
   ·rw[aB (bI (by omega)),aB (by omega),Dl];simp only[aH];split
    ·exact aA.2 (aA.2 (aA.2 (fun h=>by cases h)))
    ·exact aA.2 ⟨rfl,hm,trivial⟩
   ·rw[aF (bJ (by omega))];refine aA.2 ?_;simp only[sel];rw[aB ⟨by omega,by omega,by omega⟩];have e1:(fs.drop (Int.toNat 0)).take ((k:Int)-0).toNat=fs.take k:=by rfl
    rw[e1,aB ⟨by omega,by omega,by omega⟩];refine Sq.bind _ (Sq.of (aBV (fs.take k) [] (fs.getD k default).Params (fs.getD k default).Body (hb k hc).1)) fun r5 h5=>?_;by_cases ho:r5.2=true
    ·rw[aF (by simp_all)];refine Sq.bind (fun j:Bool=>j=false->r5.1=(fs.getD k default).Result) ?_ fun j6 hj=>?_
     ·refine aO (fun _=>aA.2 fun h=>by cases h) fun h=>aA.2 fun _=>?_;simpa using h
     cases j6 with
     | true=>exact aA.2 (aA.2 (fun h=>by cases h))
     | false=>refine aA.2 ⟨rfl,hc,fun i hi=>?_⟩;rw[aL (by omega)]at hi;grind
    ·rw[aB (by simp_all)];exact aA.2 (aA.2 (fun h=>by cases h))
  ·simp only[aH,kN h20,cM,cI];refine aA.2 (aA.2 (fun h=>?_));grind
 ·rw[aF (bJ (by omega))];simp only[aH,cM,cI];refine aA.2 (aA.2 (fun h i hi=>(hI i (by omega)).mono))
abbrev aUQ (x:aW):Bool:=lG .i64 x.Do 1==1
def sR(ta:List Int):List aW->List aC->Int->Prop
 | [],_,_=>True
 | x::l,s0,c=>(aUQ x=true->x.C<=2199023255552/\sR ta l s0 (if x.C>c then x.C else c)) /\
  (aUQ x=false->x.L.length<=8/\(∀ d,d∈x.L->c<d.Time/\0<=d.Time/\d.Time<=2199023255552/\d.Row.length=ta.length/\(-3<=d.N/\d.N<=3)/\TyR ta d.Row)/\(∀ d,d∈cons (s0++x.L)->1<=d.N/\d.N<=20) /\
   sR ta l (cons (s0++x.L)) c)
theorem aWP(v:aE):Sp (aSK v) (fun r=>r=true->TyV v.Kind v):=by
 unfold aSK aWZ;simp only[Tr.den];refine aO (fun h0=>aA.2 fun h=>⟨rfl,fun _=>jI.1 h,fun h1=>by simp_all⟩) fun _=>aO (fun h1=>Sq.bind (fun r:Bool=>r=true->v.N=0) ?_ fun r hr=>aA.2 fun h=>⟨rfl,fun hn=>absurd (jI.1 h1) hn,fun _=>hr h⟩)
  fun hk1=>Sq.bind (fun r:Bool=>r=true->v.Kind≠1->v.S.toList=(⟨#[]⟩:ByteArray).toList) ?_ fun r hr=>aA.2 fun h=>⟨rfl,hr h,fun h1=>absurd h1 (by simp_all)⟩
 ·exact aO (fun h=>aA.2 fun _=>jI.1 h) fun _=>aA.2 fun h=>by cases h
 ·exact aO (fun _=>aO (fun _=>aA.2 fun h _=>jI.1 h) fun _=>aO (fun _=>aA.2 fun h _=>jI.1 h) fun _=>aA.2 fun h=>by cases h) fun _=>aA.2 fun h=>by cases h
theorem aVS(r:List aE)(h:r.length<=1048576):Sp (aLP r) (fun q=>q=true->∀ i,i<r.length->TyV (r.getD i default).Kind (r.getD i default)):=by
 unfold aLP bAU;simp only[Tr.den,cD];refine cG (fun s:Int=>s) r.length (by omega) (fun s=>∀ i:Nat,(i:Int)<s->TyV (r.getD i default).Kind (r.getD i default)) (fun s k hI hk hkN=>?_) (fun i hi=>absurd hi (by omega)) rfl;subst hk;unfold Nn;simp only[Tr.den,aS];by_cases hc:k<r.length
 ·rw[aB (bI (by omega)),aB (by omega)];refine Sq.bind _ (aWP _) fun q hq=>?_;cases q with
  | false=>exact aA.2 (aA.2 fun h=>by cases h)
  | true=>refine aA.2 ⟨rfl,hc,fun i hi=>?_⟩;rw[aL (by omega)]at hi;grind
 ·rw[aF (bJ (by omega))];exact aA.2 (aA.2 fun _ i hi=>hI i (by omega))
theorem aOL(r:List aE)(h:r.length<=1048576):Sp (G78 r) (fun q=>q=true->∀ i,i<r.length->TyV (r.getD i default).Kind (r.getD i default)):=by unfold G78 T78;simp only[Tr.den];refine Sq.bind (fun q:Bool=>q=true->∀ i,i<r.length->TyV (r.getD i default).Kind (r.getD i default)) ?_ fun _ h=>aA.2 h;exact aO (fun _=>Sq.bind _ (aVS r h) fun _ h=>aA.2 h) fun _=>aA.2 fun h=>by cases h
theorem bDC(x:aC)(types:List Int)(h:x.Row.length<=1048576)(ht:types.length<=1048576):Sq false (G30 [x] types 1) (fun r=>r=true->TyR types x.Row):=by
 unfold G30 T30;simp only[Tr.den,cD];refine cG (fun s:Int=>s) 1 (by omega) (fun s=>1<=s.toNat->TyR types x.Row) (fun s k hI hk hkN=>?_) (by simp) rfl;subst hk;unfold Sa;simp only[Tr.den,aS,oF,aH]at hI ⊢;by_cases hc:k<1
 ·obtain rfl:k=0:=by omega
  have e0:([x]:List aC).getD 0 default=x:=rfl;have el:(([x]:List aC).length:Int)=1:=rfl;rw[aB (bI (by omega)),aB (by omega)];refine Sq.bind (fun j:Bool=>j=false->x.Row.length=types.length/\∀ i,i<x.Row.length->TyV (x.Row.getD i default).Kind (x.Row.getD i default)) ?_ (fun j hj=>?_)
  ·refine aO (fun _=>aA.2 fun h=>by cases h) fun q1=>dQ fun _=>(aO (fun _=>aA.2 fun h=>by cases h) fun q2=>dQ fun _=>(aO (fun _=>aA.2 fun h=>by cases h) fun q3=>dQ fun _=>(aO (fun _=>aA.2 fun h=>by cases h) fun q4=>dQ fun _=>(aO (fun _=>aA.2 fun h=>by cases h) fun q5=>dQ fun _=>(Sq.bind _ (Sq.of (aOL _ h)) fun r hr=>aA.2 fun hq=>?_)))));grind
  ·cases j with
   | true=>exact aA.2 (aA.2 fun h=>by cases h)
   | false=>
    obtain⟨hlen,hty⟩:=hj rfl;simp only[cM,cI];refine cD.2 ?_;refine cG (fun s:Int=>s) types.length (by omega) (fun s=>∀ i:Nat,(i:Int)<s->(x.Row.getD i default).Kind=types.getD i default) (fun s k hI hk hkN=>?_) (fun i hi=>absurd hi (by omega)) rfl;subst hk;unfold Ie;simp only[Tr.den,aS];by_cases hc:k<types.length
    ·rw[aB (bI (by omega))];refine dQ fun _=>dQ fun _=>dQ fun _=>?_;split
     ·exact aA.2 (aA.2 (aA.2 fun h=>by cases h))
     ·rename_i hne;refine aA.2 ⟨rfl,hc,fun i hi=>?_⟩;rw[aL (by omega)]at hi;grind
    ·rw[aF (bJ (by omega))];refine aA.2 (aA.2 ⟨rfl,by omega,fun _ i hi=>?_⟩);have h1:=hty i (by omega)
     rwa [hI i (by omega)]at h1
 ·obtain rfl:k=1:=by omega
  rw[aF (by simp)];exact aA.2 (aA.2 fun _=>hI (by simp))
theorem bCX(ta:List Int)(acts:List aW)(s0:List aC)(k:Nat)(hk:k<acts.length)(c:Int)(hok:dK (acts.getD k default))(ha:ta.length<=1048576)(hL:(acts.getD k default).L.length<=8):
  Sp (cK (fun s=>(Rm ta acts s0 c (k:Int) s).den) 0) (fun z=>z = .inr (.inr (.inr (.inr false)))\/(z = .inl ()/\∀ d,d∈(acts.getD k default).L->c<d.Time/\0<=d.Time/\d.Time<=2199023255552/\d.Row.length=ta.length/\(-3<=d.N/\d.N<=3)/\TyR ta d.Row)):=by
 have hd:=hok.2.2;refine cG (fun s:Int=>s) (acts.getD k default).L.length (by omega) (fun s=>∀ d,d∈(acts.getD k default).L.take s.toNat->c<d.Time/\0<=d.Time/\d.Time<=2199023255552/\d.Row.length=ta.length/\(-3<=d.N/\d.N<=3)/\TyR ta d.Row) (fun s q hI hq hqN=>?_) (by simp) rfl;subst hq;unfold Rm;simp only[Tr.den,aS]at hI ⊢;rw[aB (by omega)];by_cases hc:q<(acts.getD k default).L.length
 ·have hm:=aT hc;have hx:=hd.2 _ hm;rw[aB (bI (by omega)),aB (by omega),aB (by omega)];refine Sq.bind (fun j:Bool=>j=false->c<((acts.getD k default).L.getD q default).Time /\ -3<=((acts.getD k default).L.getD q default).N/\((acts.getD k default).L.getD q default).N<=3) ?_ (fun j hj=>?_)
  ·refine aO (fun _=>aA.2 fun h=>by cases h) fun q1=>aO (fun _=>aA.2 fun h=>by cases h) fun q2=>aA.2 fun q3=>?_;simp_all
  ·cases j with
   | true=>exact aA.2 (.inl rfl)
   | false=>
    have hj2:=hj rfl;simp only[cM,cI];refine Sq.bind _ (Sq.of ((bCZ _ _ (by exact hx.2.1.1) ha).and_part (bDC _ _ (by exact hx.2.1.1) ha))) (fun r hr=>?_);cases r with
    | false=>exact aA.2 (.inl rfl)
    | true=>have hr2:=hr.2 rfl;have hr:=hr.1 rfl;simp only at hr hr2;refine aA.2 ⟨rfl,hc,fun d hdm=>?_⟩;rw[aL (by omega),aS,aQ hc,dC,cR]at hdm;grind
 ·rw[aF (bJ (by omega))];refine aA.2 (.inr ⟨rfl,?_⟩)
  rwa [fT (by omega)]at hI
theorem bCW(ta:List Int)(acts:List aW)(c v3:Int)(r:List aC)(h0:r.length<=1000000):
  Sp (cK (fun s=>(Qs ta acts c v3 r s).den) 0) (fun z=>z = .inr (.inr (.inr (.inr false)))\/(z = .inl ()/\∀ d,d∈r->1<=d.N/\d.N<=20)):=by
 refine cG (fun s:Int=>s) r.length (by omega) (fun s=>∀ d,d∈r.take s.toNat->1<=d.N/\d.N<=20) (fun s q hI hq hqN=>?_) (by simp) rfl;subst hq;unfold Qs;simp only[Tr.den,aS]at hI ⊢;by_cases hc:q<r.length
 ·rw[aB (bI (by omega)),aB (by omega)];refine Sq.bind (fun j:Bool=>j=false->1<=(r.getD q default).N/\(r.getD q default).N<=20) ?_ (fun j hj=>?_)
  ·refine aO (fun _=>aA.2 fun h=>by cases h) fun q1=>?_;rw[aB (by omega)];refine aA.2 fun q3=>?_;simp_all
  ·cases j with
   | true=>exact aA.2 (.inl rfl)
   | false=>refine aA.2 ⟨rfl,hc,fun d hdm=>?_⟩;rw[aL (by omega),aS,aQ hc,dC,cR]at hdm;grind
 ·rw[aF (bJ (by omega))];refine aA.2 (.inr ⟨rfl,?_⟩)
  rwa [fT (by omega)]at hI
theorem aXT(n:aG)(ta:List Int)(acts:List aW)(most:Nat)(hm:most<=1000)(hok:okL 40 dK acts)(ha:ta.length<=1048576):
  Sp (bID n ta acts (most:Int)) (fun r=>r=true->acts.length<=most/\sR ta acts [] (-1)):=by
 unfold bID bGV;simp only[Tr.den];by_cases hlen:(acts.length:Int)>(most:Int)
 ·rw[aB (bI hlen)];exact aA.2 fun h=>by cases h
 ·rw[aF (bJ hlen)];refine cD.2 (cG (fun s:List aC×Int×Int=>s.2.2) acts.length (by omega) (fun s=>okD s.1/\s.1.length<=8*s.2.2.toNat/\(sR ta (acts.drop s.2.2.toNat) s.1 s.2.1->sR ta acts [] (-1))) (fun s k hI hk hkN=>?_)
   ⟨.nil,by simp,by simp⟩ rfl)
  obtain⟨v1,v2,v3⟩:=s;obtain⟨o0,hl,hI⟩:=hI;simp only at hk o0 hl hI;subst hk;simp only[aS]at hl hI;unfold aFD;simp only[Tr.den,aS];by_cases hc:k<acts.length
  ·have hok':=hok.2 _ (aT hc);rw[cP hc]at hI;rw[aB (bI (by omega))];refine Sq.bind (fun z=>z = .inr (.inr (.inr false))\/∃ t0 c,z = .inl (t0,c)/\okD t0/\t0.length<=8*(k+1)/\(sR ta (acts.drop (k+1)) t0 c->sR ta acts [] (-1))) ?_ (fun z hz=>?_)
   ·rw[aB (by omega)];refine aO (fun h3=>?_) (fun h3=>?_)
    ·rw[aB (by omega)];by_cases h4:(acts.getD k default).C>2199023255552
     ·rw[aB (bI h4)]; exact aA.2 (.inl rfl)
     ·rw[aF (bJ h4),aB (by omega)];refine aA.2 (.inr ⟨v1,_,rfl,o0,by omega,fun hF=>hI ⟨fun _=>⟨by omega,hF⟩,fun h=>?_⟩⟩);simp_all
    ·rw[aB (by omega)];by_cases h4:((acts.getD k default).L.length:Int)>8
     ·rw[aB (bI h4)]; exact aA.2 (.inl rfl)
     ·rw[aF (bJ h4)];refine Sq.bind _ (Sq.of (bCX ta acts v1 k hc v2 hok' ha (by omega))) (fun z hz=>?_);rcases hz with rfl | ⟨rfl,hz⟩
      ·exact aA.2 (.inl rfl)
      ·simp only[sel];have okL':=jQ.okd hok'.2.2;have ok1:=o0.app okL';rw[aB (by omega),aB (by omega),aB (by omega),aFK _ ok1 (by grind)];simp only[aH];have hcl:=fG (v1++(acts.getD k default).L);rw[cE]at hcl;refine Sq.bind _ (Sq.of (bCW ta acts v2 (k:Int) (cons (v1++(acts.getD k default).L)) (by omega))) (fun z hz2=>?_);rcases hz2 with rfl | ⟨rfl,hz2⟩
       ·exact aA.2 (.inl rfl)
       ·refine aA.2 (.inr ⟨_,_,rfl,ok1.cons,by omega,fun hF=>hI ⟨fun h=>?_,fun _=>⟨by omega,hz,hz2,hF⟩⟩⟩);simp_all
   ·rcases hz with rfl | ⟨t0,c,rfl,p0,pl,hF⟩
    ·exact aA.2 (aA.2 fun h=>by cases h)
    ·refine aA.2 ⟨rfl,hc,p0,?_,?_⟩
     ·simp only; rw[aL (by omega),aS]; exact pl
     ·simp only; rw[aL (by omega),aS]; exact hF
  ·rw[aF (bJ (by omega))];refine aA.2 (aA.2 fun _=>⟨by omega,hI ?_⟩);rw[gY (by omega)]; trivial
theorem bAK(fs:List aI)(n:aG)(ta:List Int)(acts:List aW)(most:Nat)(hm:most<=1000)(hl:okL 104 fJ fs)(hn:iR n)(ht:okL 8 eZ ta)(hok:okL 40 dK acts):
  Sp (bGJ fs n ta acts (most:Int)) (fun r=>r=true->rL fs n ta/\acts.length<=most/\sR ta acts [] (-1)):=by
 unfold bGJ bHM;simp only[Tr.den];refine Sq.bind (fun j:Bool=>j=false->n.Op=8) ?_ (fun j hj=>?_)
 ·by_cases h8:n.Op=8
  ·rw[aF (Bi h8)];refine aO (fun _=>aA.2 fun h=>by cases h) fun _=>?_;refine Sq.bind _ (Sq.of (aVP fs n hl hn)) fun r _=>aA.2 fun _=>h8
  ·rw[aB (Iv h8)]; exact aA.2 fun h=>by cases h
 ·cases j with
  | true=>exact aA.2 fun h=>by cases h
  | false=>
   have h8:=hj rfl;simp only[cM,cI];refine Sq.bind _ (Sq.of (Qg fs hl)) fun r _=>?_;refine Sq.bind (fun r:Bool=>r=true->rL fs n ta/\acts.length<=most/\sR ta acts [] (-1)) ?_ fun r hr=>aA.2 hr;refine aO (fun _=>?_) fun _=>aA.2 fun h=>by cases h
   refine Sq.bind _ (Sq.of (aVX fs n ta hl hn h8 ht.1)) fun r hr=>?_;refine aO (fun h=>?_) fun _=>aA.2 fun h=>by cases h
   refine Sq.bind _ (Sq.of (aXT n ta acts most hm hok ht.1)) fun r2 hr2=>aA.2 fun h2=>⟨hr h,hr2 h2⟩
structure AOk (n:aG)(ta:List Int)(a:List aC):Prop where
 can:Can a
 ok:okI n 0 a
 len:a.length<=900
 pos:∀ d,d∈a->1<=d.N/\d.N<=20
 row:∀ d,d∈a->d.Row.length=ta.length
theorem AOk.nil(n:aG)(ta:List Int):AOk n ta []:=⟨.nil,okI.nil,by simp,by simp,by simp⟩
theorem bAC{fs:List aI}{n:aG}{ta:List Int}(hR:rL fs n ta)(h:okL 40 jQ l)(hr:∀ d,d∈l->d.Row.length=ta.length)(ht:∀ d,d∈l->0<=d.Time/\d.Time<=2199023255552):okI n 0 l:=by
 refine⟨fun d hd v hv=>?_,fun d hd q hq=>?_,fun d hd=>?_,ht,(jQ.okd h).n⟩
 ·have:=(h.2 d hd).2.1.2 v hv;exact⟨this.1,this.2.1,gQ this.2.2 (by omega)⟩
 ·rw[hr d hd]; exact hR.key q hq
 ·rw[hr d hd]; have:=hR.la; omega
theorem AOk.sm{n:aG}{ta:List Int}{a:List aC}(h:AOk n ta a):∀ d,d∈a->d.Row.length=ta.length/\∀ v,v∈d.Row->Sm v:=fun d hd=>⟨h.row d hd,fun v hv=>(h.ok.v d hd v hv).s⟩
theorem AOk.push{n:aG}{ta:List Int}{a:List aC}(h:AOk n ta a)(hl:okI n 0 l)(hr:∀ d,d∈l->d.Row.length=ta.length)(hlen:a.length+l.length<=900)(hp:∀ d,d∈cons (a++l)->1<=d.N/\d.N<=20):AOk n ta (cons (a++l)):=by have ho:=h.ok.app hl;have hc:=fG (a++l);rw[cE]at hc;refine⟨eO ho.n,ho.cons,by omega,hp,fun d hd=>?_⟩;obtain⟨z,hz,e⟩:=jD hd;have e2:d.Row=z.Row:=congrArg Prod.snd e;rw[e2];exact(dC.1 hz).elim (h.row z) (hr z)
theorem AOk.mt{fs:List aI}{n:aG}{ta:List Int}{a:List aC}(h:AOk n ta a)(hev:Dh fs n a){r:List aC}(hs:∀ x,x∈r->x∈a)(hl:r.length<=a.length):aWL fs n r:=by have:=h.len;exact⟨h.ok.sub hs,hev.sub hs,fun d hd=>by have:=(h.pos d (hs d hd)).2; omega,by omega⟩
theorem uL{n:aG}{a:List aC}(h:okI n 0 a)(ht:t<0):a.filter (aft t)=a:=rW.2 fun d hd=>bI (by have:=(h.t d hd).1; omega)
theorem Ez(n:aG)(k:ByteArray)(a:List aC)(t:Int):ofK n 0 k (a.filter (aft t))=(ofK n 0 k a).filter (aft t):=by unfold ofK;exact yA _ _ _
theorem vK{n:aG}{k:ByteArray}{a:List aC}:∀ x,x∈ofK n 0 k (a.filter (aft t))->x∈a:=fun x hx=>(iB.1 (eK.1 hx).1).1
theorem Hw(n:aG)(k:ByteArray)(a:List aC)(t:Int):(ofK n 0 k (a.filter (aft t))).length<=a.length:=gQ (uM _ _ _ _) (qX _ _)
noncomputable def uC (fs:List aI)(n:aG)(a l:List aC):List aC:=cons ((cU (dM n 0 (cons l))).flatMap fun k=>wB fs n (ofK n 0 k a) (ofK n 0 k (cons l)))
theorem aNK{fs:List aI}{n:aG}{ta:List Int}{a:List aC}{c:Int}{k:ByteArray}(hn:lN n)(h:AOk n ta a)(hl:okI n 0 l)(hc:∀ d,d∈l->c<d.Time)(hc1:-1<=c)(hk:ofK n 0 k (cons l)≠[]):
  wB fs n (ofK n 0 k (a.filter (aft (c-(n.Size-1))))) (ofK n 0 k (cons l))=wB fs n (ofK n 0 k a) (ofK n 0 k (cons l)):=by
 have hz:=hn.size;have hal:∀ t:Int,t<=c->∀ d,d∈l->aft t d=true:=fun t ht d hd=>bI (by grind);have e1:=pH (n:=n) (i:=0) (k:=k) h.can hl.n (hal (c-(n.Size-1)) (by omega));have e2:=pH (n:=n) (i:=0) (k:=k) h.can hl.n (fun d hd=>show aft (-1) d=true from bI (by grind));have hA:=h.ok.app hl;rw[uL h.ok (by omega),uL hA.cons (by omega)]at e2;have hlo:c-(n.Size-1)<=loP (ofK n 0 k (cons l))-n.Size:=by have hm:=aT (gU.2 hk);obtain⟨z,hz',e⟩:=jD (eK.1 hm).1;have e3:((ofK n 0 k (cons l)).getD 0 default).Time=z.Time:=congrArg Prod.fst e;have:=hc z hz';unfold loP;omega
 unfold wB;rw[e1,e2,Ez,Ez,Ve (aBU n k _) hlo,Ve (aBU n k _) hlo]
theorem nM{α β:Type}{f g:α->List β}:∀ {l:List α},(∀ x,x∈l->f x=g x)->l.flatMap f=l.flatMap g
 | [],_=>rfl
 | x::l,h=>by rw[jM,jM,h x dB,nM fun y hy=>h y (cZ _ hy)]
theorem aDB{fs:List aI}{n:aG}{ta:List Int}{a:List aC}{c:Int}{m:KP}(i cl:Int)(hn:lN n)(h:AOk n ta a)(hev:Dh fs n a)(hl:okI n 0 l)(hlen:l.length<=1000)(hc:∀ d,d∈l->c<d.Time)(hc1:-1<=c)
  (h':AOk n ta (cons (a++l)))(hev':Dh fs n (cons (a++l)))(hQ:lM n a (c-(n.Size-1)) m):Ap i l fs n cl m=some (uC fs n a l,mP n (cons l) m):=by
 have hal:∀ d,d∈l->aft (c-(n.Size-1)) d=true:=fun d hd=>bI (by have:=hc d hd; have:=hn.size; omega);rw[aIQ i l fs n cl m hn hl hlen hQ.mp (fun k=>by rw[hQ.val]; exact h.mt hev vK (Hw _ _ _ _))
  (fun k=>by rw[hQ.val,pH h.can hl.n hal]; exact h'.mt hev' vK (Hw _ _ _ _)) (fun k=>by rw[hQ.val]; have:=Hw n k a (c-(n.Size-1)); have:=h.len; omega)]
 unfold uC;rw[nM (g:=fun k=>wB fs n (ofK n 0 k a) (ofK n 0 k (cons l))) fun k hk=>?_];unfold sI;rw[hQ.val];exact aNK hn h hl hc hc1 (jY.1 hk)
theorem Sn{fs:List aI}{n:aG}{ta:List Int}{a:List aC}(hn:lN n)(h:AOk n ta a)(hl:okI n 0 l)(hlen:l.length<=1000)(h':AOk n ta (cons (a++l))):okD (uC fs n a l)/\(uC fs n a l).length<=3000000000:=by
 have hk:∀ k,okD (wB fs n (ofK n 0 k a) (ofK n 0 k (cons l))):=fun k=>Qb hn (oJ h.ok).t (oJ hl.cons).t;have hkl:∀ k,(wB fs n (ofK n 0 k a) (ofK n 0 k (cons l))).length<=3000000:=fun k=>by have e2:=pH (n:=n) (i:=0) (k:=k) h.can hl.n (fun d hd=>show aft (-1) d=true from bI (by have:=(hl.t d hd).1; omega));rw[uL h.ok (by omega),uL (h.ok.app hl).cons (by omega)]at e2;have h1:=Uc (fs:=fs) (n:=n) (before:=ofK n 0 k a) (part:=ofK n 0 k (cons l)) (fun d hd=>by have:=(h.pos d (eK.1 hd).1).2; omega) (fun d hd=>by rw[e2]at hd; have:=(h'.pos d (eK.1 hd).1).2; omega);have h2:=uM n 0 k a;have h3:=uM n 0 k (cons l);have h4:=fG l;have h5:=h.len;omega
 have hd:okD ((cU (dM n 0 (cons l))).flatMap fun k=>wB fs n (ofK n 0 k a) (ofK n 0 k (cons l))):=⟨fun x hx=>by
   obtain⟨a,ha,hx⟩:=lT.1 hx;exact(hk a).r x hx,fun x hx=>by
   obtain⟨a,ha,hx⟩:=lT.1 hx;exact(hk a).n x hx⟩
 refine⟨hd.cons,?_⟩;have h1:=fG ((cU (dM n 0 (cons l))).flatMap fun k=>wB fs n (ofK n 0 k a) (ofK n 0 k (cons l)));have h2:=yJ hkl (cU (dM n 0 (cons l)));have h3:=Ga n 0 (cons l);have h4:=fG l;unfold uC;have h5:(cU (dM n 0 (cons l))).length<=1000:=by rw[cU,mS]; omega
 omega
def one(d:aC):aC:=⟨d.Time,d.Row,1⟩
theorem aAT:∀ l:List aC,wt fC (l.map one)=l.length
 | []=>rfl
 | d::l=>by rw[kL,show wt fC (one d::l.map one)=1+wt fC (l.map one) from rfl,aAT l,fB]; omega
theorem aXY(n:aG)(k:ByteArray)(l:List aC):ofK n 0 k (l.map one)=(ofK n 0 k l).map one:=by unfold ofK;rw[List.filter_map];rfl
theorem lM.allLen{n:aG}{a:List aC}{m:KP}(h:lM n a t m):(xO m).length<=a.length:=by
 have e:wt fC ((xO m).map one)=wt fC ((a.filter (aft t)).map one):=by unfold xO;rw[List.map_flatMap,zP,<-tM,<-Gq fC n 0 (cU m) (h.mp.mc.nodup LO.bytes) ((a.filter (aft t)).map one) fun x hx=>h.mp.key.2 fun h0=>by obtain⟨y,hy,rfl⟩:=dZ.1 hx;rw[h.val]at h0;have:y∈ofK n 0 (kd n 0 (one y)) (a.filter (aft t)):=eK.2 ⟨hy,rfl⟩;simp_all];exact lR fun k _=>by rw[h.val,aXY]
 rw[aAT,aAT]at e;grind
theorem Oo{n:aG}{ta:List Int}{a:List aC}{m:KP}(fs:List aI)(cl:Int)(h:lM n a t m)(ha:AOk n ta a):Ek fs n cl m=some (W (wt fC (a.filter (aft t))),m):=by have hl:=h.allLen;have:=ha.len;rw[aJQ fs n cl m h.mp (fun k=>by rw[h.val]; exact ha.ok.okD.sub vK) (by omega),h.kept ha.can]
def exC(v:Int):bB:=bB.mk 0 v ⟨#[]⟩ []
def Cu:bB:=bB.mk 3 1 ⟨#[]⟩ []
def isE(v:Int):bB:=bB.mk 13 0 ⟨#[]⟩ [Cu,exC v]
theorem bAO(f:fD)(v:Int)(hf:f.row_.length=2):Ny f (isE v)=some (bop 13 (f.row_.getD 1 default) (vI v)):=by
 refine Sp.eq ?_;have h0:=Hm (C:=fun (a:fD×bB) (x:Option (aE))=>Con Proofs.Tryz.prog 171 [.t (iQ a.1),.t (cQ a.2)] x (fun (y:aE)=>.t (cH y))) (fun a=>⟨bL Proofs.Tryz.func171 (by rfl),fun _ h=>nomatch h⟩) (fun rec a=>zY rec a.1 a.2) (fun rec a=>yL rec a.1 a.2)
  (fun n a=>a.1.row_.length=2/\((n=0/\(a.2=Cu\/∃ v,a.2=exC v))\/(n=1/\∃ v,a.2=isE v)))
  (fun a y=>(a.2=Cu->y=a.1.row_.getD 1 default)/\(∀ v,a.2=exC v->y=vI v)/\(∀ v,a.2=isE v->y=bop 13 (a.1.row_.getD 1 default) (vI v))) (fun b r n a ha hrec=>?_) true 1 (f,isE v) ⟨hf,.inr ⟨rfl,v,rfl⟩⟩
 ·exact h0.imp fun y hy=>hy.2.2 v rfl
 ·obtain⟨f,e⟩:=a;obtain⟨hrow,hk⟩:=ha;simp only at hrow hk hrec ⊢;rcases hk with⟨rfl,rfl | ⟨v,rfl⟩⟩ | ⟨rfl,v,rfl⟩
  ·unfold zY;simp only[Tr.den];rw[aF (by show ¬ ((3:Int)==21)=true; decide),jB (r:=.inl []) (by rfl)];simp only[aH,sel];rw[aF (by show ¬ ((3:Int)==0)=true; decide),aF (by show ¬ ((3:Int)==1)=true; decide),aF (by show ¬ ((3:Int)==2)=true; decide),aB (by rfl),aB (by show (0:Int)<=1/\(1:Int)<_; omega)];refine aA.2 ⟨fun _=>rfl,fun v h=>?_,fun v h=>?_⟩ <;> simp[exC,isE,Cu]at h
  ·unfold zY;simp only[Tr.den];rw[aF (by show ¬ ((0:Int)==21)=true; decide),jB (r:=.inl []) (by rfl)];simp only[aH,sel];rw[aB (by rfl),gK];refine aA.2 ⟨fun h=>?_,fun w h=>?_,fun w h=>?_⟩
   ·simp[exC,Cu]at h
   ·simp[exC]at h; rw[h]; rfl
   ·simp[exC,isE]at h
  ·unfold zY;simp only[Tr.den];rw[aF (by show ¬ ((13:Int)==21)=true; decide)];refine cD.2 (jN (fun s:List aE×Int=>s.2) 2 (by omega) (fun s=>s.1=([f.row_.getD 1 default,vI v]:List aE).take s.2.toNat) (fun s k hI hk hkN=>?_) rfl rfl);obtain⟨b6,v5⟩:=s;simp only at hk hI;subst hk;simp only[aS]at hI;unfold zS;simp only[Tr.den,aS];have hargs:(isE v).Args=[Cu,exC v]:=rfl;rw[hargs]
   match k,hkN with
   | 0,_=>rw[aB (bI (by simp_all)),aB (by simp_all)];refine Sq.bind _ (hrec 0 (f,Cu) (by omega) ⟨hrow,.inl ⟨rfl,.inl rfl⟩⟩) fun w hw=>?_;have hw:=hw.1 rfl;subst hw;subst hI;rw[aB (by simp_all)];exact aA.2 ⟨rfl,by omega,rfl⟩
   | 1,_=>rw[aB (bI (by simp_all)),aB (by simp_all)];refine Sq.bind _ (hrec 0 (f,exC v) (by omega) ⟨hrow,.inl ⟨rfl,.inr ⟨v,rfl⟩⟩⟩) fun w hw=>?_;have hw:=hw.2.1 v rfl;subst hw;subst hI;rw[aB (by simp_all)];exact aA.2 ⟨rfl,by omega,rfl⟩
   | 2,_=>
    rw[aF (bJ (by simp_all))];refine aA.2 ?_;simp only[sel];subst hI;simp (decide:=true) only[isE];change Sq b (((some 230:Option Nat).bind _).bind _) _;simp only[aH,Tr.den,Dy];rw[aB (by simp_all),aB (by simp_all),aB (by simp_all),aB (by simp_all)];refine aA.2 ⟨fun h=>?_,fun w h=>?_,fun w h=>?_⟩
    ·simp[Cu]at h
    ·simp[exC]at h
    ·simp only[bB.mk.injEq,List.cons.injEq,exC]at h;simp_all
theorem bHR{n:aG}{i:Int}{k:ByteArray}(h:∀ d,d∈l->kd n i d=k)(h0:l≠[]):dM n i l=[(k,l)]:=by
 refine(qH n i l).ext LO.bytes (oT _ _) fun k'=>?_;rw[mE];by_cases hk:k=k'
 ·subst hk;have:ofK n i k l=l:=rW.2 fun d hd=>bI (h d hd);rw[this,aF h0]; simp[cB]
 ·have:ofK n i k' l=[]:=List.filter_eq_nil_iff.2 fun d hd=>bJ (by simp_all);rw[this,aB rfl]; simp[cB,hk]
theorem bJG{n:aG}{i:Int}{k:ByteArray}(h:∀ d,d∈l->kd n i d=k):ofK n i k l=l:=rW.2 fun d hd=>bI (h d hd)
theorem Hl(l:List aC)(ho:gV l)(hn:l.length<=1000000000000):G20 l l=some true:=by
 unfold G20 T20;simp only[Tr.den];rw[aF (Bi rfl)];have h1:=bE (bd:=fun s=>(Nv l l s).den) (fun i=>(i:Int)) l.length (r:=.inl ()) (fun i hi=>?_) ?_
 ·refine(congrArg (fun x=>Option.bind x _) h1).trans ?_;rfl
 ·unfold Nv;simp only[Tr.den,aS];rw[aB (bI (by omega)),aB (by omega),aB (by omega),Im _ _ (ho _ (aT hi)) (ho _ (aT hi))];simp only[aH];rw[aF (Bi (gZ.2 rfl)),aB (by omega),aB (by omega)];simp only[aH];rw[aF (Bi rfl),aL (by omega)]
 ·unfold Nv;simp only[Tr.den];rw[aF (bJ (by omega))]
def vP:aG:=aG.mk 8 ([]:List Int) ⟨#[]⟩ 0 ([]:List bB) 0 10 0 [0] ([]:List Int) 0 0 0 ([]:List Uf) [jZ.mk (isE 1) 0,jZ.mk (isE 2) 1] ([]:List Ux)
def dP(t b n:Int):aC:=⟨t,[vI 7,vI b],n⟩
theorem bBW:lN vP:=⟨rfl,⟨by decide,by decide⟩,⟨by decide,by decide⟩,by decide⟩
def exL(l:List aC):Prop:=∀ d,d∈l->∃ t b n,d=dP t b n/\0<=t/\t<=100/\(b=1\/b=2) /\ -10<=n/\n<=10
theorem exI(h:exL l):okI vP 0 l:=by
 refine⟨fun d hd=>?_,fun d hd=>?_,fun d hd=>?_,fun d hd=>?_,fun d hd=>?_⟩ <;> obtain⟨t,b,n,rfl,h1,h2,h3,h4,h5⟩:=h d hd
 ·intro v hv;rcases bH.1 hv with rfl | hv
  ·exact⟨⟨by decide,by decide⟩,⟨by decide,by decide⟩,by decide⟩
  ·rw[cR.1 hv];rcases h3 with rfl | rfl <;> exact⟨⟨by decide,by decide⟩,⟨by decide,by decide⟩,by decide⟩
 ·intro c hc;rw[cR.1 (show c∈[(0:Int)] from hc)];exact⟨by decide,by show (0:Int)<2; decide⟩
 ·show 2<=1000;decide
 ·exact⟨h1,by show t<=_; omega⟩
 ·exact⟨by show _<=n; omega,by show n<=_; omega⟩
theorem bIZ(h:exL l):∀ d,d∈l->d.Row.length=([0,0]:List Int).length:=fun d hd=>by obtain⟨t,b,n,rfl,_⟩:=h d hd; rfl
theorem bEE(h:exL l):∀ d,d∈l->kd vP 0 d=iA [vI 7]:=fun d hd=>by obtain⟨t,b,n,rfl,_⟩:=h d hd; rfl
theorem Ds(v t b:Int):sQ [] (isE v) t [vI 7,vI b]=some (vB (b==v)):=by
 unfold sQ aOJ;simp only[Tr.den];rw[bAO _ _ rfl];simp only[aH]
 congr 1
 show bop 13 (vI b) (vI v)=_;unfold bop;rw[aF (by decide),aF (by decide),aF (by decide),aF (by decide),aF (by decide),aB rfl];simp[vI]
theorem bKK(h:exL l):Dh [] vP l:=by
 intro d hd i hi;obtain⟨t,b,n,rfl,_⟩:=h d hd
 match i,hi with
 | 0,_=>exact(show (sQ [] (isE 1) t [vI 7,vI b]).isSome=true by rw[Ds]; rfl)
 | 1,_=>exact(show (sQ [] (isE 2) t [vI 7,vI b]).isSome=true by rw[Ds]; rfl)
theorem bJX(t b n:Int)(hb:b=1\/b=2):qF [] vP (dP t b n) vP.Seq.length=b:=by
 have e1:evV [] (vP.Seq.getD 0 default).Pred (dP t b n)=vB (b==1):=by unfold evV;rw[show sQ [] (vP.Seq.getD 0 default).Pred (dP t b n).Time (dP t b n).Row=sQ [] (isE 1) t [vI 7,vI b] from rfl,Ds]; rfl
 have e2:evV [] (vP.Seq.getD 1 default).Pred (dP t b n)=vB (b==2):=by unfold evV;rw[show sQ [] (vP.Seq.getD 1 default).Pred (dP t b n).Time (dP t b n).Row=sQ [] (isE 2) t [vI 7,vI b] from rfl,Ds]; rfl
 show qF [] vP (dP t b n) 2=b;rw[qF,qF,qF,e1,e2];rcases hb with rfl | rfl
 ·rfl
 ·rfl
def plC(l:List aC)(lo hi:Int):List aX:=(l.filter (inW vP lo hi)).flatMap fun d=>List.replicate d.N.toNat ⟨d.Time,(d.Row.getD 1 default).N⟩
theorem bEQ(h:exL l)(lo hi:Int):plF [] vP l lo hi=plC l lo hi:=by unfold plF plC;refine nM fun d hd=>?_;obtain⟨t,b,n,rfl,_,_,hb,_⟩:=h d (iB.1 hd).1;unfold plD;rw[bJX t b n hb]; rfl
def Ja(l:List aC)(lo hi:Int):List aC:=
 if plC l lo hi=[] then [] else nW aX.time_ [vI 7] lo (plC l lo hi) 0 (frF vP (plC l lo hi))
theorem aCA(h:exL l)(lo hi:Int):pM [] vP l lo hi=Ja l lo hi:=by
 unfold pM Ja;rw[bEQ h];split
 ·rfl
 ·rename_i hne;have hl:l≠[]:=by rintro rfl; exact hne rfl
  have hm:=aT (gU.2 hl);obtain⟨t,b,n,e,_⟩:=h _ hm;rw[e]; rfl
theorem Zm{a a':List aC}(ha:exL a)(hl:exL l)(h0:l≠[])(hc:cons l=l)(e:cons (a++l)=a')(ha':exL a'):uC [] vP a l=cons (cons (Ja a' (loP l) (hiP vP l)++(Ja a (loP l) (hiP vP l)).map neg)):=by unfold uC;rw[hc,bHR (bEE hl) h0];show cons ([iA [vI 7]].flatMap _)=_;rw[jM,List.flatMap_nil,eN];unfold wB;rw[bJG (bEE ha),bJG (bEE hl),e,aCA ha',aCA ha]
theorem exA{a:List aC}(h:exL a)(hc:cons a=a)(hp:∀ d,d∈a->1<=d.N/\d.N<=20)(hl:a.length<=900):AOk vP [0,0] a:=⟨by rw[<-hc]; exact eO (exI h).n,exI h,hl,hp,bIZ h⟩
def p3:aC:=dP 3 1 1
def p5:aC:=dP 5 2 1
def p8:aC:=dP 8 2 1
def p4:aC:=dP 4 1 1
theorem ex1:exL [p3]:=fun d hd=>by rw[cR.1 hd]; exact⟨3,1,1,rfl,by decide,by decide,.inl rfl,by decide,by decide⟩
theorem ex4:exL [p4]:=fun d hd=>by rw[cR.1 hd]; exact⟨4,1,1,rfl,by decide,by decide,.inl rfl,by decide,by decide⟩
theorem ex5:exL [p5]:=fun d hd=>by rw[cR.1 hd]; exact⟨5,2,1,rfl,by decide,by decide,.inr rfl,by decide,by decide⟩
theorem ex8:exL [p8]:=fun d hd=>by rw[cR.1 hd]; exact⟨8,2,1,rfl,by decide,by decide,.inr rfl,by decide,by decide⟩
theorem aEO{a b:List aC}(h:exL a)(h':exL b):exL (a++b):=fun d hd=>(dC.1 hd).elim (h d) (h' d)
theorem bBG:exL [p5,p8]:=aEO ex5 ex8
theorem exB:exL [p3,p5,p8]:=aEO ex1 bBG
theorem bIV:exL [p3,p4,p5,p8]:=aEO ex1 (aEO ex4 bBG)
theorem exN(h:∀ d,d∈l->d.N=1):∀ d,d∈l->1<=d.N/\d.N<=20:=fun d hd=>by simp_all
theorem aNN:exL []:=fun d hd=>by simp at hd
def rP(t i r n:Int):aC:=⟨t,[vI 7,vI i,vI r],n⟩
theorem bLV:cons (cons (Ja [p3] 3 12++(Ja [] 3 12).map neg))=[]:=by rfl
theorem bLX:cons (cons (Ja [p3,p5,p8] 5 17++(Ja [p3] 5 17).map neg))=[rP 5 3 2 1,rP 8 3 3 1]:=by rfl
theorem bLT:cons (cons (Ja [p3,p4,p5,p8] 4 13++(Ja [p3,p5,p8] 4 13).map neg))=[rP 5 3 2 (-1),rP 5 4 2 1,rP 8 3 3 (-1),rP 8 4 3 1]:=by rfl
theorem bGQ{a a':List aC}(cl:Int)(m:KP)(h:exL a)(hc:cons a=a)(hp:∀ d,d∈a->d.N=1)(hla:a.length<=900)(hl:exL l)(hll:l.length<=1000)(e:cons (a++l)=a')(h':exL a')(hc':cons a'=a')(hp':∀ d,d∈a'->d.N=1)(hla':a'.length<=900)
  (hQ:lM vP a (-1-(vP.Size-1)) m):Ap 0 l [] vP cl m=some (uC [] vP a l,mP vP (cons l) m)/\lM vP a' (-1-(vP.Size-1)) (mP vP (cons l) m):=by
 have A:=exA h hc (exN hp) hla;have A':=exA h' hc' (exN hp') hla';have hpos:∀ d,d∈l->(-1:Int)<d.Time:=fun d hd=>by have:=((exI hl).t d hd).1; omega
 subst e;refine⟨aDB 0 cl bBW A (bKK h) (exI hl) hll hpos (by omega) A' (bKK h') hQ,?_⟩;exact hQ.push A.can (exI hl).n fun d hd=>bI (by have:=hpos d hd; show -1-(10-1)<d.Time; omega)
theorem lM.empty{n:aG}{a:List aC}{m:KP}(h:lM n a t m)(h0:a.filter (aft t)=[]):m=[]:=h.mp.ext .nil fun k=>by rw[h.val,h0]; rfl
theorem aXP:bEN=some true:=by
 have one:∀ (l:List aC),(∀ d,d∈l->d=p3\/d=p4\/d=p5\/d=p8)->∀ d,d∈l->d.N=1:=fun l h d hd=>by rcases h d hd with rfl | rfl | rfl | rfl <;> rfl
 have n0:∀ d,d∈([]:List aC)->d.N=1:=fun d hd=>by simp at hd
 have n1:=one [p3] (by simp);have n2:=one [p3,p5,p8] (by simp);have n3:=one [p3,p4,p5,p8] (by simp);have c0:cons ([]:List aC)=[]:=rfl;have c1:cons [p3]=[p3]:=by rfl
 have c58:cons [p5,p8]=[p5,p8]:=by rfl
 have c4:cons [p4]=[p4]:=by rfl
 have c2:cons [p3,p5,p8]=[p3,p5,p8]:=by rfl
 have c3:cons [p3,p4,p5,p8]=[p3,p4,p5,p8]:=by rfl
 have e2:cons ([p3]++[p5,p8])=[p3,p5,p8]:=c2;have e3:cons ([p3,p5,p8]++[p4])=[p3,p4,p5,p8]:=by rfl
 obtain⟨g1,Q1⟩:=bGQ (-1) [] aNN c0 n0 (by simp) ex1 (by simp) (by rfl) ex1 c1 n1 (by simp) (.init vP _);obtain⟨g2,Q2⟩:=bGQ (-1) (mP vP (cons [p3]) []) ex1 c1 n1 (by simp) bBG (by simp) e2 exB c2 n2 (by simp) Q1;obtain⟨g3,Q3⟩:=bGQ (-1) (mP vP (cons [p5,p8]) (mP vP (cons [p3]) [])) exB c2 n2 (by simp) ex4 (by simp) e3 bIV c3 n3 (by simp) Q2;rw[Zm aNN ex1 (by simp) c1 c1 ex1,show loP [p3]=3 from rfl,show hiP vP [p3]=12 from rfl,bLV]at g1;rw[Zm ex1 bBG (by simp) c58 e2 exB,show loP [p5,p8]=5 from rfl,show hiP vP [p5,p8]=17 from rfl,bLX]at g2;rw[Zm exB ex4 (by simp) c4 e3 bIV,show loP [p4]=4 from rfl,show hiP vP [p4]=13 from rfl,bLT]at g3;have A3:=exA bIV c3 (exN n3) (by simp);generalize mP vP (cons [p4]) (mP vP (cons [p5,p8]) (mP vP (cons [p3]) []))=m3 at g3 Q3;generalize mP vP (cons [p5,p8]) (mP vP (cons [p3]) [])=m2 at g2 g3 Q2;generalize mP vP (cons [p3]) []=m1 at g1 g2 Q1;have r3:=Oo [] (-1) Q3 A3;have Q4:=Q3.close (t':=17-(vP.Size-1)) (by decide);have k4:=Ki 17 [] vP (-1) m3 bBW Q3.mp (fun q=>by rw[Q3.val];exact⟨A3.ok.okD.sub vK,(A3.can.filter _).filter _,gQ (Hw vP q [p3,p4,p5,p8] _) (by simp)⟩) (by omega) (by omega) (by omega);have r4:=Oo [] 17 Q4 A3;have z4:[p3,p4,p5,p8].filter (aft (17-(vP.Size-1)))=[]:=by rfl
 have m4:=Q4.empty z4;have z3:[p3,p4,p5,p8].filter (aft (-1-(vP.Size-1)))=[p3,p4,p5,p8]:=by rfl
 rw[z3,show W (wt fC [p3,p4,p5,p8])=4 from rfl]at r3;rw[z4,show W (wt fC [])=0 from rfl]at r4;have x1:bFC 1=some (isE 1):=rfl;have x2:bFC 2=some (isE 2):=rfl;have y3:aNX 3 7 1=some p3:=rfl;have y5:aNX 5 7 2=some p5:=rfl;have y8:aNX 8 7 2=some p8:=rfl;have y4:aNX 4 7 1=some p4:=rfl;have w1:Zo 5 3 2 1=some (rP 5 3 2 1):=rfl;have w2:Zo 8 3 3 1=some (rP 8 3 3 1):=rfl;have w3:Zo 5 3 2 (-1)=some (rP 5 3 2 (-1)):=rfl;have w4:Zo 5 4 2 1=some (rP 5 4 2 1):=rfl;have w5:Zo 8 3 3 (-1)=some (rP 8 3 3 (-1)):=rfl;have w6:Zo 8 4 3 1=some (rP 8 4 3 1):=rfl;have okr:∀ t i r n,okR (rP t i r n):=fun t i r n=>by show 3<=1073741824; omega
 have s2:=Hl [rP 5 3 2 1,rP 8 3 3 1] (fun x hx=>by grind) (by simp);have s3:=Hl [rP 5 3 2 (-1),rP 5 4 2 1,rP 8 3 3 (-1),rP 8 4 3 1] (fun x hx=>by simp only[bH,List.not_mem_nil,or_false]at hx;rcases hx with rfl | rfl | rfl | rfl <;> exact okr _ _ _ _) (by simp);have hv:aG.mk 8 ([]:List Int) ⟨#[]⟩ 0 ([]:List bB) 0 10 0 [0] ([]:List Int) 0 0 0 ([]:List Uf) [jZ.mk (isE 1) 0,jZ.mk (isE 2) 1] ([]:List Ux)=vP:=rfl;have t4:=aFV [] vP 17 (Fs (17-(vP.Size-1)) m3);rw[m4]at t4 r4 k4;unfold bEN bDS;simp only[Tr.den,x1,x2,aH,hv,uJ,y3,y5,y8,y4,g1,g2,g3,r3,k4,r4,w1,w2,w3,w4,w5,w6,s2,s3,t4];rfl
theorem Kn{α:Type}{d:α}{u v:List α}(hv:v≠[]):(u++v).getLastD d=v.getLastD d:=by
 rcases List.eq_nil_or_concat v with rfl | ⟨w,z,rfl⟩
 all_goals simp_all
section
variable {α:Type} [Inhabited α] (tm:α->Int) (nx:Int->α->Int) (hit:Int->Bool) (sz bg:Int)
def pT:List α->Option (Int×Int)
 | []=>none
 | q::qs=>if isM tm nx hit sz (tm q) bg (q::qs)=true then some (tm q,((q::qs).length:Int)) else pT qs
theorem Mp:∀ (u v:List α),v≠[]->(∀ x,x∈u->¬ tm (v.getLastD default)-tm x<sz)->pT tm nx hit sz bg (u++v)=pT tm nx hit sz bg v
 | [],v,_,_=>rfl
 | q::u,v,hv,h=>by rw[rV,pT,aF,Mp u v hv fun x hx=>h x (cZ _ hx)];unfold isM;have e:(q::(u++v)).getLastD default=v.getLastD default:=Kn (u:=q::u) hv;grind
theorem wX:∀ (i:Int) (qs:List α) (k:Nat),k<qs.length->(pT tm nx hit sz bg (qs.take (k+1))=none/\oO tm nx hit sz bg i qs k = -1) \/
  (∃ j:Nat,j<=k/\oO tm nx hit sz bg i qs k=i+j/\pT tm nx hit sz bg (qs.take (k+1))=some (tm (qs.getD j default),(k:Int)-j+1))
 | i,[],k,hk=>by simp at hk
 | i,q::qs,0,hk=>by
  rw[show (q::qs).take (0+1)=[q] from rfl,pT];unfold oO;by_cases h:isM tm nx hit sz (tm q) bg [q]=true
  ·simp_all
  ·rw[aF h,aF h];exact .inl ⟨rfl,rfl⟩
 | i,q::qs,k+1,hk=>by
  have hk':k<qs.length:=by simp_all
  have ih:=wX (i+1) qs k hk';rw[Jm,pT];unfold oO;rw[Jm];by_cases h:isM tm nx hit sz (tm q) bg (q::qs.take (k+1))=true
  ·grind
  ·rw[aF h,aF h];rcases ih with⟨h1,h2⟩ | ⟨j,h1,h2,h3⟩
   ·simp_all
   ·refine .inr ⟨j+1,by omega,by omega,?_⟩;grind
end
def Af(n:aG)(key:List aE)(L:List aX):List aC:=match pT aX.time_ (nxF n) (kG n) n.Size (jC n 1) L with
 | some (t,m)=>[⟨(L.getLastD default).time_,key++[vI t,vI m],1⟩]
 | none=>[]
def gX(n:aG)(key:List aE)(lo:Int):List aX->List aX->List aC
 | _,[]=>[]
 | u,q::qs=>(if lo<=q.time_ then Af n key (u++[q]) else [])++gX n key lo (u++[q]) qs
theorem tY(n:aG)(key:List aE)(lo:Int):∀ (u a b:List aX),gX n key lo u (a++b)=gX n key lo u a++gX n key lo (u++a) b
 | u,[],b=>by rw[kS,eN]; rfl
 | u,q::a,b=>by rw[rV,gX,gX,tY n key lo (u++[q]) a b,cT,cT];rfl
theorem aMT{n:aG}{u v:List aX}(hv:v≠[])(h:∀ x,x∈u->¬ (v.getLastD default).time_-x.time_<n.Size):Af n key (u++v)=Af n key v:=by unfold Af;rw[Mp aX.time_ (nxF n) (kG n) n.Size (jC n 1) u v hv h];rw[Kn hv]
theorem Bt(u:List aX)(q:aX):(u++[q]).getLastD default=q:=by simp_all
theorem Ew{n:aG}{key:List aE}{lo:Int}:∀ {u0 u qs:List aX},(∀ x,x∈u0->∀ q,q∈qs->¬ q.time_-x.time_<n.Size)->gX n key lo (u0++u) qs=gX n key lo u qs
 | u0,u,[],h=>rfl
 | u0,u,q::qs,h=>by rw[gX,gX,cT,Ew (u:=u++[q]) fun x hx y hy=>h x hx y (cZ _ hy)];rw[aMT (by simp) (fun x hx=>by simp_all)]
theorem Vf{n:aG}{key:List aE}{lo lo':Int}:∀ {u qs:List aX},(∀ q,q∈qs->lo<=q.time_/\lo'<=q.time_)->gX n key lo u qs=gX n key lo' u qs
 | u,[],h=>rfl
 | u,q::qs,h=>by have h1:=h q dB;rw[gX,gX,aB h1.1,aB h1.2,Vf fun x hx=>h x (cZ _ hx)]
theorem Lu{n:aG}{key:List aE}{lo:Int}:∀ {u qs:List aX},(∀ q,q∈qs->q.time_<lo)->gX n key lo u qs=[]
 | u,[],h=>rfl
 | u,q::qs,h=>by have h1:=h q dB;rw[gX,aF (by omega),Lu fun x hx=>h x (cZ _ hx)]; rfl
theorem vU(x:Int):lG .i64 0 x=0:=by
 unfold lG;have:(BitVec.ofInt IntKind.i64.bits 0 &&& BitVec.ofInt IntKind.i64.bits x)=0#_:=by rw[show BitVec.ofInt IntKind.i64.bits 0=0#_ from rfl,BitVec.zero_and]
 rw[this]; rfl
theorem Hb(n:aG):∀ k,tG n 0 k=0
 | 0=>rfl
 | k+1=>by
  rw[tG,Hb n k,aF];rintro⟨_,h⟩;have:dO .i64 0 k=0:=by rfl
  rw[this,vU]at h;simp_all
theorem aRS(n:aG)(p:aX):nxF n 0 p=0:=by unfold nxF;rw[vU,vU];exact Hb n _
theorem aGC(n:aG):kG n 0=false:=by unfold kG;rw[vU]; rfl
theorem Kw{n:aG}{key:List aE}{lo:Int}{ps:List aX}(hs:ps.Pairwise fun x y=>x.time_<=y.time_):∀ (d k:Nat) (fr:List Int),ps.length-k=d->k<=ps.length->fr.length=ps.length-k->(∀ j,k<=j->j<ps.length->fr.getD (j-k) default=oO aX.time_ (nxF n) (kG n) n.Size (jC n 1) 0 ps j) ->
  nW aX.time_ key lo ps k fr=gX n key lo (ps.take k) (ps.drop k)
 | 0,k,fr,hd,hk,hl,h=>by have e:fr=[]:=yK (by omega);subst e;rw[Am,gY (by omega)]; rfl
 | d+1,k,fr,hd,hk,hl,h=>by
  have hk':k<ps.length:=by omega
  obtain⟨f,fr',rfl⟩:=Fb (show fr≠[] by grind);rw[xQ,cP hk',gX];have h1:=h k (dL _) hk';rw[Nat.sub_self,List.getD_cons_zero]at h1;have ih:=Kw (n:=n) (key:=key) (lo:=lo) hs d (k+1) fr' (by omega) (by omega) (by grind) (fun j hj hj'=>by grind);rw[ih,<-aQ hk']
  congr 1
  subst h1;have ht:(ps.take (k+1)).getLastD default=ps.getD k default:=by rw[aQ hk',Bt]
  rcases wX aX.time_ (nxF n) (kG n) n.Size (jC n 1) 0 ps k hk' with⟨h2,h3⟩ | ⟨j,h2,h3,h4⟩
  ·rw[h3,aF (fun h=>by omega)];unfold Af;rw[h2]; simp
  ·rw[h3];unfold Af;simp_all
theorem aNI{n:aG}{ps:List aX}(hs:ps.Pairwise fun x y=>x.time_<=y.time_):nW aX.time_ key lo ps 0 (frF n ps)=gX n key lo [] ps:=by have:=Kw (n:=n) (key:=key) (lo:=lo) hs ps.length 0 (frF n ps) (by omega) (by omega) (by rw[Di]; omega) (fun j _ hj=>by unfold frF;rw[Nat.sub_zero,zK aX.time_ (nxF n) (kG n) n.Size (jC n 1) (aRS n) (aGC n) 0 ps _ j (Int.le_refl _) wF hj hs (fun h=>by rw[dF (by simp_all),List.getElem_replicate])];rw[dF (by simp_all),List.getElem_replicate,aB (by decide)]);simp_all
noncomputable def plA (fs:List aI)(n:aG)(l:List aC):List aX:=l.flatMap (plD fs n)
theorem aOO{fs:List aI}{n:aG}{q:aX}(h:q∈plD fs n d):q.time_=d.Time:=by rw[(List.mem_replicate.1 h).2]
theorem aDY{fs:List aI}{n:aG}{q:aX}(h:q∈plA fs n l):∃ d,d∈l/\q.time_=d.Time:=by obtain⟨d,hd,hq⟩:=lT.1 h;exact⟨d,hd,aOO hq⟩
theorem zR(fs:List aI)(n:aG)(a b:List aC):plA fs n (a++b)=plA fs n a++plA fs n b:=Mx ..
theorem aFP(fs:List aI)(n:aG):∀ {l:List aC},TS l->(plA fs n l).Pairwise fun x y=>x.time_<=y.time_
 | [],_=>List.Pairwise.nil
 | d::l,h=>by
  have h':=iZ.1 h;unfold plA;rw[jM];refine Bk.2 ⟨?_,aFP fs n h'.2,fun x hx y hy=>?_⟩
  ·unfold plD;simp_all
  ·obtain⟨e,he,hy⟩:=aDY hy;rw[aOO hx,hy];simp_all
theorem TS.filter{l:List aC}(h:TS l)(p:aC->Bool):TS (l.filter p):=List.Pairwise.filter p h
theorem Li{fs:List aI}{n:aG}{hi:Int}(hs:TS l)(hk:∀ d,d∈l->mI n d.Row=key):pM fs n l lo hi=gX n key lo [] (plA fs n (l.filter (inW n lo hi))):=by
 unfold pM;show (if plA fs n (l.filter (inW n lo hi))=[] then [] else _)=_;by_cases h0:plA fs n (l.filter (inW n lo hi))=[]
 ·rw[aB h0,h0]; rfl
 ·rw[aF h0];have hl:l≠[]:=by rintro rfl; exact h0 rfl
  rw[hk _ (aT (gU.2 hl))];exact aNI (aFP fs n (hs.filter _))
theorem aKT(c:Int):∀ {l:List aC},TS l->l=l.filter (fun d=>decide (d.Time<c))++l.filter (fun d=>decide (c<=d.Time))
 | [],_=>rfl
 | d::l,h=>by
  have h':=iZ.1 h;rw[Il,Il];by_cases hd:d.Time<c
  ·rw[aB (bI hd),aF (bJ (by omega)),rV,<-aKT c h'.2]
  ·rw[aF (bJ hd),aB (bI (by omega))];have e1:l.filter (fun d=>decide (d.Time<c))=[]:=List.filter_eq_nil_iff.2 fun x hx=>bJ (by grind);have e2:l.filter (fun d=>decide (c<=d.Time))=l:=rW.2 fun x hx=>bI (by simp_all);grind
def seg(a b:Int)(l:List aC):List aC:=l.filter fun d=>decide (a<=d.Time)&&decide (d.Time<b)
theorem aUA{a:Int}(h:d∈seg a b l):a<=d.Time/\d.Time<b:=by have:=(iB.1 h).2;simp_all
theorem vH{a c:Int}(hl:TS l)(h1:a<=b)(h2:b<=c):seg a c l=seg a b l++seg b c l:=by
 have h:=aKT b (hl.filter fun d=>decide (a<=d.Time)&&decide (d.Time<c));unfold seg;rw[rE,rE]at h;rw[h]
 congr 1
 ·congr 1; funext d
  grind
 ·congr 1; funext d
  grind
theorem aWG{a:Int}(h:∀ d,d∈l->a<=d.Time/\d.Time<b):seg a b l=l:=rW.2 fun d hd=>by simp_all
theorem aEX(n:aG)(lo hi:Int)(l:List aC):l.filter (inW n lo hi)=seg (lo-n.Size+1) (hi+1) l:=by unfold seg inW;grind
theorem Lc{fs:List aI}{n:aG}{x:List aC}{last:Int}(hz:1<=n.Size/\n.Size<=10000)(hs:TS x)(ht:sW x)(h0:0<=lo)(h1:lo<=last)(h2:last<=2199023255552):
  gX n key 0 [] (plA fs n x)=gX n key 0 [] (plA fs n (seg 0 lo x))++(gX n key lo [] (plA fs n (x.filter (inW n lo (last+n.Size-1)))) ++
   gX n key 0 (plA fs n (seg (last+1) (last+n.Size) x)) (plA fs n (seg (last+n.Size) 4398046611104 x))):=by
 by_cases hbig:last+n.Size<=4398046611104
 ·have hx:x=seg 0 4398046611104 x:=(aWG fun d hd=>by have:=ht d hd; omega).symm;have e1:seg 0 4398046611104 x=seg 0 lo x++(seg lo (last+n.Size) x++seg (last+n.Size) 4398046611104 x):=by rw[vH hs (show (0:Int)<=lo by omega) (show lo<=4398046611104 by omega),vH (a:=lo) hs (show lo<=last+n.Size by omega) hbig]
  have pos:∀ {a b:Int} {q:aX},q∈plA fs n (seg a b x)->a<=q.time_/\q.time_<b/\0<=q.time_:=fun {a b q} hq=>by obtain⟨d,hd,e⟩:=aDY hq;have h3:=aUA hd;have h4:=ht d (iB.1 hd).1;omega
  have e2:∃ A1 A2,seg 0 lo x=A1++A2/\(∀ q,q∈plA fs n A1->q.time_<=lo-n.Size)/\(∀ q,q∈plA fs n A2->q.time_<lo)/\x.filter (inW n lo (last+n.Size-1))=A2++seg lo (last+n.Size) x:=by
   by_cases hc:0<=lo-n.Size+1
   ·refine⟨seg 0 (lo-n.Size+1) x,seg (lo-n.Size+1) lo x,vH hs hc (by omega),fun q hq=>by grind,fun q hq=>by grind,?_⟩;rw[aEX,show last+n.Size-1+1=last+n.Size by omega];exact vH hs (by omega) (by omega)
   ·refine⟨[],seg 0 lo x,rfl,fun q hq=>by simp[plA]at hq,fun q hq=>by grind,?_⟩;rw[aEX,show last+n.Size-1+1=last+n.Size by omega,vH hs (show lo-n.Size+1<=lo by omega) (show lo<=last+n.Size by omega)]
    congr 1
    unfold seg;refine List.filter_congr fun d hd=>?_;have:=ht d hd;grind
  obtain⟨A1,A2,e3,q1,q2,e4⟩:=e2;have e5:seg lo (last+n.Size) x=seg lo (last+1) x++seg (last+1) (last+n.Size) x:=vH hs (by omega) (by omega)
  conv=>lhs; rw[hx,e1]
  rw[zR,zR,tY,tY,kS]
  congr 1
  congr 1
  ·rw[e4,zR,tY,kS,Lu (qs:=plA fs n A2) q2,kS,e3,zR,
    Ew fun u hu q hq=>by grind]
   exact Vf fun q hq=>by grind
  ·rw[e5,zR,<-cT];refine Ew fun u hu q hq=>?_;grind
 ·omega
def Rp(k:Nat)(s:Int)(S:Nat->Prop):Prop:=∃ a:Nat,s=(a:Int)/\a<2 ^ k/\∀ p,a.testBit p=true↔S p
theorem Rp.congr{k:Nat}(h:Rp k s S)(e:∀ p,S p↔T p):Rp k s T:=by obtain⟨a,h1,h2,h3⟩:=h;exact⟨a,h1,h2,fun p=>(h3 p).trans (e p)⟩
theorem Rp.mono{k:Nat}(h:Rp k s S)(hj:k<=j):Rp j s S:=by obtain⟨a,h1,h2,h3⟩:=h;exact⟨a,h1,Ho h2 (Ob (by decide) hj),h3⟩
theorem lQ{k a:Nat}(hk:k<=20)(h:a<2 ^ k):a<1048576:=Ho h (Ob (n:=2) (by decide) hk)
theorem Tu{a b:Nat}(ha:a<1048576)(hb:b<1048576):lG .i64 (a:Int) (b:Int)=((a &&& b:Nat):Int):=by
 unfold lG;have e:(BitVec.ofInt IntKind.i64.bits (a:Int) &&& BitVec.ofInt IntKind.i64.bits (b:Int)).toNat=a &&& b:=by show (BitVec.ofInt 64 (a:Int) &&& BitVec.ofInt 64 (b:Int)).toNat=a &&& b;rw[BitVec.toNat_and,Qr,Qr,Qj,Qj,Cq (by omega),Cq (by omega)]
 rw[e];exact qM (by have:a &&& b<=a:=Nat.and_le_left; omega)
theorem aSF{k a b:Nat}(hk:k<=20)(ha:a<2 ^ k)(hb:b<2 ^ k):zD .i64 (a:Int) (b:Int)=((a ||| b:Nat):Int):=by
 have ha':=lQ hk ha;have hb':=lQ hk hb;have hab:=lQ hk (Nat.or_lt_two_pow ha hb);unfold zD;have e:(BitVec.ofInt IntKind.i64.bits (a:Int) ||| BitVec.ofInt IntKind.i64.bits (b:Int)).toNat=a ||| b:=by show (BitVec.ofInt 64 (a:Int) ||| BitVec.ofInt 64 (b:Int)).toNat=a ||| b;rw[BitVec.toNat_or,Qr,Qr,Qj,Qj,Cq (by omega),Cq (by omega)]
 rw[e];exact qM (by omega)
theorem Rp.and{k:Nat}(h:Rp k s S)(h':Rp j t T)(hk:k<=20)(hj:j<=20):Rp j (lG .i64 s t) (fun p=>S p/\T p):=by obtain⟨a,rfl,h2,h3⟩:=h;obtain⟨b,rfl,g2,g3⟩:=h';refine⟨a &&& b,Tu (lQ hk h2) (lQ hj g2),Nat.lt_of_le_of_lt Nat.and_le_right g2,fun p=>?_⟩;rw[Nat.testBit_and,dH,h3,g3]
theorem Rp.or{k:Nat}(h:Rp k s S)(h':Rp k t T)(hk:k<=20):Rp k (zD .i64 s t) (fun p=>S p\/T p):=by obtain⟨a,rfl,h2,h3⟩:=h;obtain⟨b,rfl,g2,g3⟩:=h';refine⟨a ||| b,aSF hk h2 g2,Nat.or_lt_two_pow h2 g2,fun p=>?_⟩;rw[Nat.testBit_or,pG,h3,g3]
theorem aEM{a:Nat}(hj:j<=20)(ha:a<1048576):lF .i64 (a:Int) (j:Int)=((a*2 ^ j:Nat):Int):=by
 unfold lF;have hm:min ((j:Int)).toNat IntKind.i64.bits=j:=by rw[aS]; exact Nat.min_eq_left (by show j<=64; omega)
 rw[hm];have hp:(2:Nat) ^ j<=1048576:=Ob (n:=2) (by decide) hj;have e:(a:Int)*2 ^ j=((a*2 ^ j:Nat):Int):=by rfl
 rw[e];refine qM ?_;have:=xN (Nat.le_of_lt ha) hp;omega
theorem Rp.one{k:Nat}(h:j<k)(hk:k<=20):Rp k (lF .i64 1 (j:Int)) (fun p=>p=j):=by
 refine⟨2 ^ j,?_,Nat.pow_lt_pow_right (by decide) h,fun p=>?_⟩
 ·have:=aEM (a:=1) (j:=j) (by omega) (by omega)
  rwa [yE]at this
 grind
theorem Rp.one0{k:Nat}(h:0<k)(hk:k<=20):Rp k 1 (fun p=>p=0):=(Rp.one h hk)
theorem Rp.zero(k:Nat):Rp k 0 (fun _=>False):=⟨0,rfl,Nat.two_pow_pos k,fun p=>by simp⟩
theorem Rp.shl{k:Nat}(h:Rp k s S)(hk:k<20):Rp (k+1) (lF .i64 s 1) (fun p=>∃ q,S q/\p=q+1):=by
 obtain⟨a,rfl,h2,h3⟩:=h;refine⟨a*2 ^ 1,aEM (j:=1) (by omega) (lQ (by omega) h2),?_,fun p=>?_⟩
 ·omega
 ·rw[Nat.testBit_mul_two_pow,dH,kW,h3];grind
theorem Rp.test{k:Nat}(h:Rp k s S)(hk:k<=20)(hj:j<=20):((lG .i64 (dO .i64 s (j:Int)) 1==1)=true)↔S j:=by
 obtain⟨a,rfl,h2,h3⟩:=h;have ha:=lQ hk h2;have e:dO .i64 (a:Int) (j:Int)=((a / 2 ^ j:Nat):Int):=by
  unfold dO;have hm:min ((j:Int)).toNat IntKind.i64.bits=j:=by rw[aS]; exact Nat.min_eq_left (by show j<=64; omega)
  grind
 have hd:a / 2 ^ j<=a:=Nat.div_le_self _ _;rw[e,show (1:Int)=((1:Nat):Int) from rfl,Tu (by omega) (by omega),<-h3,jI];grind
theorem Rp.hit{k:Nat}(h:Rp k s S)(hj:j<k)(hk:k<=20):((lG .i64 s (lF .i64 1 (j:Int)) != 0)=true)↔S j:=by
 obtain⟨a,e1,e2,e3⟩:=h.and (Rp.one hj hk) hk hk;rw[e1,bne_iff_ne];constructor
 ·intro hne;have:a≠0:=fun h0=>hne (by omega);obtain⟨p,hp⟩:=Nat.exists_testBit_of_ne_zero this;grind
 ·intro hs h0;have:a=0:=by omega
  grind
section
variable {α:Type} (K:Nat) (rep:Nat->Int) (ok:α->Nat->Prop)
def Skp(p q:Nat):Prop:=p<=q/\∀ r,p<=r->r<q->r<K/\rep r=2
def zE:List α->Nat->Prop
 | [],p=>Skp K rep p K
 | x::s,p=>∃ q,Skp K rep p q/\q<K/\ok x q/\(zE s (q+1)\/(rep q=1/\zE s q))
variable {K rep ok}
theorem Skp.refl(p:Nat):Skp K rep p p:=⟨dL p,fun r h h'=>by omega⟩
theorem Skp.trans{p q r:Nat}(h:Skp K rep p q)(h':Skp K rep q r):Skp K rep p r:=⟨gQ h.1 h'.1,fun t h1 h2=>by
 rcases Nat.lt_or_ge t q with h3 | h3
 ·exact h.2 t h1 h3
 ·exact h'.2 t h3 h2⟩
theorem zE.pre{s:List α}{p q:Nat}(h:Skp K rep p q)(ha:zE K rep ok s q):zE K rep ok s p:=by
 cases s with
 | nil=>exact h.trans ha
 | cons x s=>obtain⟨r,h1,h2⟩:=ha;exact⟨r,h.trans h1,h2⟩
variable (K rep ok)
def Nxt(S:Nat->Prop)(x:α):Nat->Prop:=fun p=>∃ q,(∃ b,S b/\b<K/\ok x b/\(q=b+1\/(rep b=1/\q=b)))/\Skp K rep q p
def Fwd:(Nat->Prop)->List α->Prop
 | S,[]=>S K
 | S,x::s=>Fwd (Nxt K rep ok S x) s
theorem aCX:∀ (s:List α) (S:Nat->Prop),(∀ p q,S p->Skp K rep p q->S q)->(Fwd K rep ok S s↔∃ p,S p/\zE K rep ok s p)
 | [],S,hc=>⟨fun h=>⟨K,h,.refl K⟩,fun⟨p,h1,h2⟩=>hc p K h1 h2⟩
 | x::s,S,hc=>by
  rw[Fwd,aCX s _ fun p q ⟨r,h1,h2⟩ h3=>⟨r,h1,h2.trans h3⟩];constructor
  ·rintro⟨p,⟨q,⟨b,hb,hK,ho,hq⟩,hs⟩,ha⟩;refine⟨b,hb,b,.refl b,hK,ho,?_⟩;have ha':=ha.pre hs;grind
  ·rintro⟨p,hp,q,hs,hK,ho,ha⟩;have hq:=hc p q hp hs;rcases ha with ha | ⟨h1,ha⟩
   ·exact⟨q+1,⟨q+1,⟨q,hq,hK,ho,.inl rfl⟩,.refl _⟩,ha⟩
   ·exact⟨q,⟨q,⟨q,hq,hK,ho,.inr ⟨h1,rfl⟩⟩,.refl _⟩,ha⟩
theorem Ku(s:List α):Fwd K rep ok (fun p=>Skp K rep 0 p) s↔zE K rep ok s 0:=by rw[aCX K rep ok s _ fun p q h h'=>h.trans h'];exact⟨fun⟨p,h1,h2⟩=>h2.pre h1,fun h=>⟨0,.refl 0,h⟩⟩
theorem nL{β:Type}{okβ:β->Nat->Prop}(f:β->α)(h:∀ b q,q<K->(okβ b q↔ok (f b) q)):∀ (s:List β) (p:Nat),zE K rep okβ s p↔zE K rep ok (s.map f) p
 | [],p=>Iff.rfl
 | b::s,p=>by
  rw[kL,zE,zE];constructor
  ·rintro⟨q,h1,h2,h3,h4⟩;exact⟨q,h1,h2,(h b q h2).1 h3,h4.imp (nL f h s _).1 fun h5=>⟨h5.1,(nL f h s _).1 h5.2⟩⟩
  ·rintro⟨q,h1,h2,h3,h4⟩;exact⟨q,h1,h2,(h b q h2).2 h3,h4.imp (nL f h s _).2 fun h5=>⟨h5.1,(nL f h s _).2 h5.2⟩⟩
end
abbrev oZ (n:aG)(r:Nat):Int:=(n.Seq.getD r default).Rep
theorem Gt{n:aG}{K:Nat}(hK:K<=8){s:Int}{S:Nat->Prop}(h:Rp (K+1) s S):∀ k,k<=K->Rp (K+1) (tG n s k) (fun p=>∃ q,S q/\Skp k (oZ n) q p)
 | 0,_=>by
  refine h.congr fun p=>⟨fun hp=>⟨p,hp,.refl p⟩,fun⟨q,hq,h1,h2⟩=>?_⟩;rcases Nat.eq_or_lt_of_le h1 with e | e
  ·simp_all
  ·exact absurd (h2 q (dL q) e).1 (by omega)
 | k+1,hk=>by
  have ih:=Gt (n:=n) hK h k (by omega);have ht:=ih.test (j:=k) (by omega) (by omega);have up:∀ q p,Skp k (oZ n) q p->Skp (k+1) (oZ n) q p:=fun q p hs=>⟨hs.1,fun r h1 h2=>⟨by have:=(hs.2 r h1 h2).1; omega,(hs.2 r h1 h2).2⟩⟩;have dn:∀ q p,Skp (k+1) (oZ n) q p->(p<=k\/q=p)->Skp k (oZ n) q p:=fun q p hs hp=>⟨hs.1,fun r h1 h2=>⟨by rcases hp with hp | hp <;> omega,(hs.2 r h1 h2).2⟩⟩;rw[tG];by_cases hc:((n.Seq.getD k default).Rep==2)=true/\(lG .i64 (dO .i64 (tG n s k) k) 1==1)=true
  ·rw[aB hc];have h2:oZ n k=2:=jI.1 hc.1;obtain⟨b,hb,hbs⟩:=ht.1 hc.2;refine(ih.or (Rp.one (j:=k+1) (by omega) (by omega)) (by omega)).congr fun p=>⟨?_,?_⟩
   ·rintro (⟨q,hq,hs⟩ | rfl)
    ·grind
    ·refine⟨b,hb,(up b k hbs).trans ⟨by omega,fun r h1 h2'=>?_⟩⟩;grind
   ·rintro⟨q,hq,hs⟩;by_cases hp:p<=k\/q=p
    ·grind
    ·have:=hs.1;have h3:=(hs.2 (p-1) (by omega) (by omega)).1;omega
  ·rw[aF hc];refine ih.congr fun p=>⟨fun⟨q,hq,hs⟩=>⟨q,hq,up q p hs⟩,fun⟨q,hq,hs⟩=>?_⟩;by_cases hp:p<=k\/q=p
   ·grind
   ·have h1:=hs.1;have h3:=(hs.2 (p-1) (by omega) (by omega)).1;have h4:=(hs.2 k (by omega) (by omega)).2;refine absurd ⟨jI.2 h4,ht.2 ⟨q,hq,⟨by omega,fun r h5 h6=>⟨h6,(hs.2 r h5 (by omega)).2⟩⟩⟩⟩ hc
theorem Wl{n:aG}{K:Nat}(hK:K<=8):∀ k,k<=K->Rp K (rU n k) (fun p=>p<k/\oZ n p=1)
 | 0,_=>(Rp.zero K).congr fun p=>by simp
 | k+1,hk=>by
  have ih:=Wl (n:=n) hK k (by omega);rw[rU];by_cases hc:((n.Seq.getD k default).Rep==1)=true
  ·rw[aB hc];have h1:oZ n k=1:=jI.1 hc;refine(ih.or (Rp.one (j:=k) (by omega) (by omega)) (by omega)).congr fun p=>⟨?_,?_⟩
   all_goals grind
  grind
theorem bEC{n:aG}(hn:n.Seq.length<=8){x:aX}(h:Rp (n.Seq.length+1) s S)(hx:Rp n.Seq.length x.fits_ T):
  Rp (n.Seq.length+1) (nxF n s x) (fun p=>∃ q,(∃ b,S b/\b<n.Seq.length/\T b/\(q=b+1\/(oZ n b=1/\q=b)))/\Skp n.Seq.length (oZ n) q p):=by
 have h1:=h.and hx (by omega) (by omega);have h2:=(h1.shl (by omega)).or ((h1.and (Wl (n:=n) hn n.Seq.length (dL _)) (by omega) (by omega)).mono (Nat.le_succ _)) (by omega);have hT:∀ b,T b->b<n.Seq.length:=fun b hb=>by obtain⟨a,_,ha,hp⟩:=hx;refine zG fun hge=>?_;have:=(hp b).2 hb;rw[Nat.testBit_lt_two_pow (Ho ha (Ob (by decide) (by omega)))]at this;cases this
 refine(Gt hn h2 n.Seq.length (dL _)).congr fun p=>⟨?_,?_⟩
 all_goals grind
theorem aDV{n:aG}(hn:n.Seq.length<=8)(ok:aX->Nat->Prop):∀ (l:List aX) (s:Int) (S:Nat->Prop),(∀ x,x∈l->Rp n.Seq.length x.fits_ (ok x))->Rp (n.Seq.length+1) s S ->
  ((kG n (l.foldl (nxF n) s)=true)↔Fwd n.Seq.length (oZ n) ok S l)
 | [],s,S,_,h=>by show ((lG .i64 s (lF .i64 1 (n.Seq.length:Int)) != 0)=true)↔S n.Seq.length;exact h.hit (by omega) (by omega)
 | x::l,s,S,hx,h=>by rw[kD];exact aDV hn ok l (nxF n s x) (Nxt n.Seq.length (oZ n) ok S x) (fun y hy=>hx y (cZ _ hy)) (bEC hn h (hx x dB))
theorem aUR{n:aG}(hn:n.Seq.length<=8)(ok:aX->Nat->Prop){l:List aX}(hx:∀ x,x∈l->Rp n.Seq.length x.fits_ (ok x))(t0:Int):
  (isM aX.time_ (nxF n) (kG n) n.Size t0 (jC n 1) l=true)↔((l.getLastD default).time_-t0<n.Size/\zE n.Seq.length (oZ n) ok l 0):=by
 unfold isM;rw[dH,kW];refine and_congr Iff.rfl ?_;rw[aDV hn ok l (jC n 1) (fun p=>Skp n.Seq.length (oZ n) 0 p) hx]
 ·exact Ku _ _ _ l
 ·refine(Gt hn (Rp.one0 (by omega) (by omega)) n.Seq.length (dL _)).congr fun p=>⟨?_,fun h=>⟨0,rfl,h⟩⟩;simp_all
theorem Od(fs:List aI){n:aG}(hn:n.Seq.length<=8)(d:aC):∀ k,k<=n.Seq.length->Rp n.Seq.length (qF fs n d k) (fun p=>p<k/\(evV fs (n.Seq.getD p default).Pred d).N=1)
 | 0,_=>(Rp.zero _).congr fun p=>by simp
 | k+1,hk=>by
  have ih:=Od fs hn d k (by omega);rw[qF];by_cases hc:((evV fs (n.Seq.getD k default).Pred d).N==1)=true
  ·rw[aB hc];have h1:(evV fs (n.Seq.getD k default).Pred d).N=1:=by simp_all
   refine(ih.or (Rp.one (j:=k) (by omega) (by omega)) (by omega)).congr fun p=>⟨?_,?_⟩
   all_goals grind
  grind
noncomputable def gpl (fs:List aI)(n:aG)(d:aC):aX:=⟨d.Time,qF fs n d n.Seq.length⟩
def okG(fs:List aI)(n:aG)(d:aC)(p:Nat):Prop:=(evV fs (n.Seq.getD p default).Pred d).N=1
theorem bJZ{fs:List aI}{n:aG}(hn:n.Seq.length<=8)(l:List aC)(t0:Int):
  (isM aX.time_ (nxF n) (kG n) n.Size t0 (jC n 1) (l.map (gpl fs n))=true)↔(((l.map (gpl fs n)).getLastD default).time_-t0<n.Size/\zE n.Seq.length (oZ n) (okG fs n) l 0):=by
 rw[aUR hn (fun x q=>x.fits_.toNat.testBit q=true)]
 ·refine and_congr Iff.rfl (nL n.Seq.length (oZ n) (fun (x:aX) q=>x.fits_.toNat.testBit q=true) (gpl fs n) (fun d q hq=>?_) l 0).symm;obtain⟨a,h1,h2,h3⟩:=Od fs hn d n.Seq.length (dL _);show okG fs n d q↔(qF fs n d n.Seq.length).toNat.testBit q=true;rw[h1,aS,h3 q];exact⟨fun h=>⟨hq,h⟩,fun h=>h.2⟩
 ·intro x hx;obtain⟨d,_,rfl⟩:=dZ.1 hx;obtain⟨a,h1,h2,h3⟩:=Od fs hn d n.Seq.length (dL _);refine⟨a,h1,h2,fun p=>?_⟩;show _↔(qF fs n d n.Seq.length).toNat.testBit p=true;rw[h1,aS]
noncomputable def sF (fs:List aI)(n:aG)(l:List aC):Int:=match pT aX.time_ (nxF n) (kG n) n.Size (jC n 1) (l.map (gpl fs n)) with
 | some (_,m)=>m
 | none=>0
theorem Mh{fs:List aI}{n:aG}(x:aC)(l:List aC):sF fs n (x::l)=if isM aX.time_ (nxF n) (kG n) n.Size x.Time (jC n 1) ((x::l).map (gpl fs n))=true then ((x::l).length:Int) else sF fs n l:=by unfold sF;rw[kL,pT];rw[show (gpl fs n x).time_=x.Time from rfl];grind
structure aWF (fs:List aI)(n:aG)(P:List aC)(g:List (List Bool)):Prop where
 len:g.length=P.length
 sz:∀ i,i<P.length->(g.getD i default).length=n.Seq.length
 ok:∀ i,i<P.length->∀ p,p<n.Seq.length->((g.getD i default).getD p default=true↔okG fs n (P.getD i default) p)
theorem Oj(p:Pl->Bool):∀ l:List aC,W (wt p (l.map neg))=W (- wt p l)
 | []=>rfl
 | x::l=>by
  have ih:=Oj p l;rw[kL,wt,wt];rw[show pl (neg x)=pl x from rfl,show (neg x).N=W (0-x.N) from rfl,Int.neg_add];refine mG ?_ ih;by_cases h:p (pl x)=true
  ·rw[aB h,aB h,W_W,Int.zero_sub]
  simp_all
theorem aMR(hl:okN l)(q:Pl->Bool):cons (l.filter fun d=>q (pl d))=(cons l).filter fun d=>q (pl d):=
 oI ((eO hl).filter _) (fun x hx=>hl x (iB.1 hx).1) ((eY l).filter q)
theorem Et{x:List aC}{a:Int}(hx:Can x)(hp:okN part)(h:∀ d,d∈part->¬ (a<=d.Time/\d.Time<b)):seg a b (cons (x++part))=seg a b x:=by
 have hN:okN (x++part):=fun d hd=>(dC.1 hd).elim (hx.n64 d) (hp d);have e:=aMR hN (fun q:Pl=>decide (a<=q.1)&&decide (q.1<b));have e1:(x++part).filter (fun d=>decide (a<=(pl d).1)&&decide ((pl d).1<b))=seg a b x:=by rw[qP];have:part.filter (fun d=>decide (a<=(pl d).1)&&decide ((pl d).1<b))=[]:=List.filter_eq_nil_iff.2 fun d hd h'=>h d hd (by rw[dH,kW,kW]at h';exact h');rw[this,eN]; rfl
 rw[e1,jS (show Can (seg a b x) from hx.filter _)]at e;exact e.symm
noncomputable def yX (fs:List aI)(n:aG)(l:List aC):List aC:=gX n (mI n (l.getD 0 default).Row) 0 [] (plA fs n l)
theorem Ui{fs:List aI}{n:aG}(h:∀ d,d∈l->mI n d.Row=key):yX fs n l=gX n key 0 [] (plA fs n l):=by
 by_cases hl:l=[]
 ·subst hl; rfl
 ·unfold yX;rw[h _ (aT (gU.2 hl))]
theorem aSY{fs:List aI}{n:aG}{x:List aC}(hn:lN n)(hx:Can x)(hxt:sW x)(hp:Can part)(hpt:sW part)(hne:part≠[])(hkx:∀ d,d∈x->mI n d.Row=key)(hkp:∀ d,d∈part->mI n d.Row=key)(p:Pl->Bool):
  wt p (pM fs n (cons (x++part)) (loP part) (hiP n part))-wt p (pM fs n x (loP part) (hiP n part))=wt p (yX fs n (cons (x++part)))-wt p (yX fs n x):=by
 have hN:okN (x++part):=fun d hd=>(dC.1 hd).elim (hx.n64 d) (hp.n64 d);have hy:=eO hN;have hpos:=gU.2 hne;have src:∀ d,d∈cons (x++part)->(0<=d.Time/\d.Time<=2199023255552)/\mI n d.Row=key:=fun d hd=>by obtain⟨z,hz,e⟩:=jD hd;have e1:d.Time=z.Time:=congrArg Prod.fst e;have e2:d.Row=z.Row:=congrArg Prod.snd e;rw[e1,e2];exact(dC.1 hz).elim (fun h=>⟨hxt z h,hkx z h⟩) (fun h=>⟨hpt z h,hkp z h⟩)
 have h0:0<=loP part:=(hpt _ (aT hpos)).1;have h1:loP part<=(part.getD (part.length-1) default).Time:=hp.ts.get (by omega) (by omega);have h2:=(hpt _ (aT (show part.length-1<part.length by omega))).2;have hr:∀ d,d∈part->loP part<=d.Time/\d.Time<=(part.getD (part.length-1) default).Time:=fun d hd=>by obtain⟨i,hi,rfl⟩:=Oy hd;have q1:=hp.ts.get (i:=0) (j:=i) (by omega) hi;have q2:=hp.ts.get (i:=i) (j:=part.length-1) (by omega) (by omega);rw[<-dF hi];exact⟨q1,q2⟩
 have sz:=hn.size;rw[Li hy.ts fun d hd=>(src d hd).2,Li hx.ts hkx,Ui fun d hd=>(src d hd).2,Ui hkx];have eh:hiP n part=(part.getD (part.length-1) default).Time+n.Size-1:=rfl;rw[eh,Lc (lo:=loP part) (last:=(part.getD (part.length-1) default).Time) sz hy.ts (fun d hd=>(src d hd).1) h0 h1 h2,
  Lc (x:=x) (lo:=loP part) (last:=(part.getD (part.length-1) default).Time) sz hx.ts hxt h0 h1 h2]
 rw[Et (a:=0) hx hp.n64 (fun d hd h=>by grind),Et (a:=(part.getD (part.length-1) default).Time+1) hx hp.n64 (fun d hd h=>by grind),
  Et (a:=(part.getD (part.length-1) default).Time+n.Size) hx hp.n64 (fun d hd h=>by grind)]
 rw[eT,eT,eT,eT];omega
theorem aXF{fs:List aI}{n:aG}{x:List aC}(hn:lN n)(hx:Can x)(hxt:sW x)(hp:Can part)(hpt:sW part)(hne:part≠[])(hkx:∀ d,d∈x->mI n d.Row=key)(hkp:∀ d,d∈part->mI n d.Row=key)(p:Pl->Bool):
  W (wt p (wB fs n x part))=W (wt p (yX fs n (cons (x++part)))-wt p (yX fs n x)):=by
 rw[<-aSY hn hx hxt hp hpt hne hkx hkp p];unfold wB;rw[eY _ p,eT];exact(mG rfl (Oj p _)).trans (congrArg W (by omega))
theorem bHQ{f g:ByteArray->Int}(h:∀ k,k∈ks->W (f k)=W (g k)):W (iW f ks)=W (iW g ks):=by
 induction ks with
 | nil=>rfl
 | cons k ks ih=>exact mG (h k dB) (ih fun k' hk=>h k' (cZ _ hk))
theorem Ue(f:ByteArray->Int):∀ a b:List ByteArray,iW f (a++b)=iW f a+iW f b
 | [],b=>by simp[iW]
 | k::a,b=>by rw[rV,iW,iW,Ue f a b]; omega
theorem Vw{f:ByteArray->Int}{ks':List ByteArray}(h:ks.Nodup)(h':ks'.Nodup)(hs:∀ k,k∈ks'->k∈ks)(h0:∀ k,k∉ks'->f k=0):iW f ks'=iW f ks:=by
 classical
 have hp:ks.Perm (ks'++ks.filter fun k=>!decide (k∈ks')):=by
  refine(List.perm_ext_iff_of_nodup h (Ar.2 ⟨h',h.filter _,fun a ha b hb e=>?_⟩)).2 fun k=>?_
  all_goals grind
 rw[aGK f hp,Ue];have:iW f (ks.filter fun k=>!decide (k∈ks'))=0:=by refine(lR (g:=fun _=>0) fun k hk=>h0 k (by simp_all)).trans (Ah _)
 omega
theorem aQC(f g:ByteArray->Int)(ks:List ByteArray):iW (fun k=>f k-g k) ks=iW f ks-iW g ks:=by
 induction ks with
 | nil=>rfl
 | cons k ks ih=>simp only[iW,ih]; omega
noncomputable def aPC (fs:List aI)(n:aG)(ks:List ByteArray)(p:Pl->Bool)(a:List aC):Int:=iW (fun k=>wt p (yX fs n (ofK n 0 k a))) ks
theorem aBX{n:aG}{k:ByteArray}{a b:List aC}{x:aC}(hx:x∈ofK n 0 k b):∀ d,d∈ofK n 0 k a->mI n d.Row=mI n x.Row:=fun d hd=>Gh ((eK.1 hd).2.trans (eK.1 hx).2.symm)
theorem aRC{fs:List aI}{n:aG}{a:List aC}(hn:lN n)(ha:Can a)(hai:okI n 0 a)(hl:okI n 0 l)(hks:ks.Nodup)(hc:∀ d,d∈l->kd n 0 d∈ks)(p:Pl->Bool):
  W (wt p (uC fs n a l))=W (aPC fs n ks p (cons (a++l))-aPC fs n ks p a):=by
 have e2:∀ k,cons (ofK n 0 k a++ofK n 0 k (cons l))=ofK n 0 k (cons (a++l)):=fun k=>by
  have:=pH (n:=n) (i:=0) (k:=k) ha hl.n (fun d hd=>show aft (-1) d=true from bI (by have:=(hl.t d hd).1; omega))
  rwa [uL hai (by omega),uL (hai.app hl).cons (by omega)]at this
 unfold uC;rw[eY _ p,zP,<-tM];rw[bHQ (g:=fun k=>wt p (yX fs n (ofK n 0 k (cons (a++l))))-wt p (yX fs n (ofK n 0 k a))) fun k hk=>?_]
 ·congr 1
  unfold aPC;rw[<-aQC];refine Vw hks ((qH n 0 _).nodup LO.bytes) (fun k hk=>?_) fun k hk=>?_
  ·have hne:=jY.1 hk;obtain⟨z,hz,e⟩:=jD (eK.1 (aT (gU.2 hne))).1;have h1:=(eK.1 (aT (gU.2 hne))).2;have e3:((ofK n 0 k (cons l)).getD 0 default).Row=z.Row:=congrArg Prod.snd e;grind
  ·have h0:ofK n 0 k (cons l)=[]:=zG fun h=>hk (jY.2 h);have h1:=e2 k;rw[h0,eN,jS (show Can (ofK n 0 k a) from ha.filter _)]at h1;simp_all
 ·have hne:=jY.1 hk;have hx:=aT (gU.2 hne);have:=aXF (fs:=fs) (p:=p) hn (x:=ofK n 0 k a) (part:=ofK n 0 k (cons l)) (ha.filter _) (oJ hai).t ((eO hl.n).filter _) (oJ hl.cons).t hne (aBX hx) (aBX hx);simp_all
def plG(l:List aC):List aC:=l.flatMap fun d=>List.replicate d.N.toNat d
theorem aEB(fs:List aI)(n:aG)(l:List aC):(plG l).map (gpl fs n)=plA fs n l:=by
 unfold plG plA plD;rw[List.map_flatMap]
 congr 1
 funext d;rw[List.map_replicate]; rfl
theorem aFI(h:d∈plG l):d∈l:=by obtain⟨x,hx,h⟩:=lT.1 h;simp_all
theorem Ns(h:∀ d,d∈l->d.N<=1000):(plG l).length<=l.length*1000:=by
 induction l with
 | nil=>simp[plG]
 | cons d l ih=>have h1:=h d dB;have h2:=ih fun x hx=>h x (cZ _ hx);unfold plG at h2 ⊢;grind
theorem bHT(h:TS l):TS (plG l):=by
 induction l with
 | nil=>exact List.Pairwise.nil
 | cons d l ih=>
  have h':=iZ.1 h;unfold plG;rw[jM];refine Bk.2 ⟨?_,ih h'.2,fun x hx y hy=>?_⟩
  all_goals simp_all
theorem aNQ{fs:List aI}{n:aG}{P:List aC}(hj:j<P.length):
  (sF fs n (P.take (j+1))=0/\pT aX.time_ (nxF n) (kG n) n.Size (jC n 1) ((P.take (j+1)).map (gpl fs n))=none) \/
  (∃ i:Nat,i<=j/\sF fs n (P.take (j+1))=(j:Int)-i+1/\pT aX.time_ (nxF n) (kG n) n.Size (jC n 1) ((P.take (j+1)).map (gpl fs n))=some ((P.getD i default).Time,(j:Int)-i+1)):=by
 have h:=wX aX.time_ (nxF n) (kG n) n.Size (jC n 1) 0 (P.map (gpl fs n)) j (by simp_all);rw[<-List.map_take]at h;unfold sF;rcases h with⟨h,_⟩ | ⟨i,hi,_,h⟩
 ·simp_all
 ·have e:((P.map (gpl fs n)).getD i default).time_=(P.getD i default).Time:=by rw[dF (by grind),Ag,<-dF (show i<P.length by omega)]; rfl
  grind
def BL(K:Nat)(l:List Bool)(S:Nat->Prop):Prop:=l.length=K+1/\∀ p,p<=K->(l.getD p default=true↔S p)
theorem BL.congr{K:Nat}{l:List Bool}(h:BL K l S)(e:∀ p,p<=K->(S p↔T p)):BL K l T:=⟨h.1,fun p hp=>(h.2 p hp).trans (e p hp)⟩
theorem BL.set{K:Nat}{l:List Bool}{S:Nat->Prop}(h:BL K l S)(j:Nat):BL K (l.set j true) (fun p=>S p\/p=j):=by
 refine⟨by rw[List.length_set]; exact h.1,fun p hp=>?_⟩;have hl:=h.1;rw[qB];by_cases e:p=j
 ·grind
 ·rw[aF (fun h'=>e h'.1),h.2 p hp]; simp_all
theorem BL.none(K:Nat):BL K (List.replicate (K+1) (default:Bool)) (fun _=>False):=by refine⟨wF,fun p hp=>⟨fun h=>?_,False.elim⟩⟩;rw[eU,Mc]at h;split at h <;> cases h
abbrev vY (seq:List jZ)(r:Nat):Int:=(seq.getD r default).Rep
theorem aCJ(seq:List jZ)(now:List Bool)(S:Nat->Prop)(h:BL seq.length now S)(hK:seq.length<=8):Sp (Yh seq now) (fun r=>BL seq.length r (fun p=>∃ q,S q/\Skp seq.length (vY seq) q p)):=by
 unfold Yh aAD;simp only[Tr.den];refine Sq.bind (fun z:List Bool⊕List Bool=>∃ b,z = .inl b/\BL seq.length b (fun p=>∃ q,S q/\Skp seq.length (vY seq) q p)) ?_ fun z hz=>?_
 ·refine cG (fun s:List Bool×Int=>s.2) seq.length (by omega) (fun s=>BL seq.length s.1 (fun p=>∃ q,S q/\Skp s.2.toNat (vY seq) q p)) (fun s k hI hk hkN=>?_) ?_ rfl
  ·obtain⟨v1,v2⟩:=s;simp only at hk hI;subst hk;rw[aS]at hI;have hl:=hI.1;unfold Ju;simp only[Tr.den,aS];by_cases hc:k<seq.length
   ·rw[aB (bI (by omega)),aB (by omega),aB (by omega)];have ht:=hI.2 k (by omega);have up:∀ q p,Skp k (vY seq) q p->Skp (k+1) (vY seq) q p:=fun q p hs=>⟨hs.1,fun r h1 h2=>⟨by have:=(hs.2 r h1 h2).1; omega,(hs.2 r h1 h2).2⟩⟩;have dn:∀ q p,Skp (k+1) (vY seq) q p->(p<=k\/q=p)->Skp k (vY seq) q p:=fun q p hs hp=>⟨hs.1,fun r h1 h2=>⟨by rcases hp with hp | hp <;> omega,(hs.2 r h1 h2).2⟩⟩;refine Sq.bind (fun z:List Bool×Bool=>z.1=v1/\(z.2=true↔(v1.getD k default=true/\vY seq k=2))) ?_ fun z hz=>?_
    ·refine aO (fun h1=>?_) fun h1=>aA.2 ⟨rfl,fun h=>(by cases h),fun h=>absurd (h1.symm.trans h.1) (by decide)⟩;rw[aB (by omega)];exact aA.2 ⟨rfl,fun h=>⟨h1,jI.1 h⟩,fun h=>jI.2 h.2⟩
    ·obtain⟨j4,j5⟩:=z;obtain⟨rfl,hj⟩:=hz;simp only at hj hI hl ht;have ew:IntKind.i64.wrap ((k:Int)+1)=((k+1:Nat):Int):=aL (by omega);refine Sq.bind (fun r=>BL seq.length r (fun p=>∃ q,S q/\Skp (k+1) (vY seq) q p)) ?_ fun r hr=>aA.2 ⟨rfl,hc,?_⟩
     ·refine aO (fun h5=>?_) fun h5=>aA.2 ?_
      ·have h5:j5=true:=h5;obtain⟨hb,h2⟩:=hj.1 h5;obtain⟨b,hb1,hb2⟩:=ht.1 hb;rw[ew,aB (by grind),aS,aB (by simp_all),aB (by simp; omega)];refine aA.2 ((hI.set (k+1)).congr fun p hp=>⟨?_,?_⟩)
       ·rintro (⟨q,hq,hs⟩ | rfl)
        ·grind
        ·refine⟨b,hb1,(up b k hb2).trans ⟨by omega,fun r h3 h4=>?_⟩⟩;grind
       ·rintro⟨q,hq,hs⟩;by_cases hp':p<=k\/q=p
        ·grind
        ·have:=hs.1;have h3:=(hs.2 (p-1) (by omega) (by omega)).1;omega
      ·have h5:j5=false:=h5;have hno:¬ (j4.getD k default=true/\vY seq k=2):=fun h=>by grind
       refine hI.congr fun p hp=>⟨fun⟨q,hq,hs⟩=>⟨q,hq,up q p hs⟩,fun⟨q,hq,hs⟩=>?_⟩;by_cases hp':p<=k\/q=p
       ·grind
       ·have h1:=hs.1;have h3:=(hs.2 (p-1) (by omega) (by omega)).1;have h4:=(hs.2 k (by omega) (by omega)).2;exact absurd ⟨ht.2 ⟨q,hq,⟨by omega,fun r h5 h6=>⟨h6,(hs.2 r h5 (by omega)).2⟩⟩⟩,h4⟩ hno
     simp_all
   ·rw[aF (bJ (by omega))];have:k=seq.length:=by omega
    subst this;exact aA.2 ⟨v1,rfl,hI⟩
  ·refine h.congr fun p hp=>⟨fun hp=>⟨p,hp,.refl p⟩,fun⟨q,hq,h1,h2⟩=>?_⟩;rcases Nat.eq_or_lt_of_le h1 with e | e
   ·simp_all
   ·exact absurd (h2 q (dL q) e).1 (sX q)
 ·obtain⟨b,rfl,hb⟩:=hz;exact aA.2 hb
theorem aUW(seq:List jZ)(now good:List Bool)(S ok:Nat->Prop)(h:BL seq.length now S)(hg:good.length=seq.length)(ho:∀ p,p<seq.length->(good.getD p default=true↔ok p))(hK:seq.length<=8):
  Sp (bEG seq now good) (fun r=>BL seq.length r (fun p=>∃ q,(∃ b,S b/\b<seq.length/\ok b/\(q=b+1\/(vY seq b=1/\q=b)))/\Skp seq.length (vY seq) q p)):=by
 have hl:=h.1;have ew:∀ k:Nat,k<=8->IntKind.i64.wrap ((k:Int)+1)=((k+1:Nat):Int):=fun k hk=>aL (by omega);unfold bEG bFF;simp only[Tr.den,ew _ hK,aS];rw[aB ⟨⟨by omega,by omega⟩,by omega⟩];refine Sq.bind (fun z:List Bool⊕List Bool=>∃ b,z = .inl b/\BL seq.length b (fun p=>∃ b,S b/\b<seq.length/\ok b/\(p=b+1\/(vY seq b=1/\p=b)))) ?_ fun z hz=>?_
 ·refine cG (fun s:List Bool×Int=>s.2) seq.length (by omega) (fun s=>BL seq.length s.1 (fun p=>∃ b,S b/\b<s.2.toNat/\ok b/\(p=b+1\/(vY seq b=1/\p=b)))) (fun s k hI hk hkN=>?_)
   ((BL.none _).congr fun p hp=>⟨False.elim,fun⟨b,_,h2,_⟩=>absurd h2 (sX b)⟩) rfl
  obtain⟨v1,v2⟩:=s;simp only at hk hI;subst hk;rw[aS]at hI;have hvl:=hI.1;unfold aEU;simp only[Tr.den,aS];by_cases hc:k<seq.length
  ·rw[aB (bI (by omega)),aB (by omega),ew _ (by omega)];refine Sq.bind (fun z:List Bool×Bool=>z.1=v1/\(z.2=true↔(S k/\ok k))) ?_ fun z hz=>?_
   ·refine aO (fun h1=>?_) fun h1=>aA.2 ⟨rfl,fun h=>(by cases h),fun h'=>absurd (h1.symm.trans ((h.2 k (by omega)).2 h'.1)) (by decide)⟩;rw[aB (by omega)];exact aA.2 ⟨rfl,fun h'=>⟨(h.2 k (by omega)).1 h1,(ho k hc).1 h'⟩,fun h'=>(ho k hc).2 h'.2⟩
   ·obtain⟨j4,j5⟩:=z;obtain⟨rfl,hj⟩:=hz;simp only at hj hI hvl;refine Sq.bind (fun r=>BL seq.length r (fun p=>∃ b,S b/\b<k+1/\ok b/\(p=b+1\/(vY seq b=1/\p=b)))) ?_ fun r hr=>aA.2 ⟨by rw[<-ew k (by omega)],hc,?_⟩
    ·refine aO (fun h5=>?_) fun h5=>aA.2 ?_
     ·have h5:j5=true:=h5;obtain⟨hS,hO⟩:=hj.1 h5;rw[aB (by grind),aS,aB (by simp_all),aB (by simp; omega),aB (by omega)];refine cD.2 (aO (fun h1=>?_) fun h1=>?_)
      ·have h1:=jI.1 h1;rw[aB (by grind),aB (by grind),aB (by simp; omega)];refine aA.2 (aA.2 (((hI.set (k+1)).set k).congr fun p hp=>⟨?_,?_⟩))
       all_goals grind
      ·have h1:¬ vY seq k=1:=rO.1 h1;refine aA.2 (aA.2 ((hI.set (k+1)).congr fun p hp=>⟨?_,?_⟩))
       all_goals grind
     grind
    simp_all
  ·rw[aF (bJ (by omega))];have:k=seq.length:=by omega
   subst this;exact aA.2 ⟨v1,rfl,hI⟩
 ·obtain⟨b,rfl,hb⟩:=hz;simp only[sel];refine Sq.bind _ (aCJ seq b _ hb hK) fun r hr=>aA.2 hr
section
variable {α:Type} {K:Nat} {rep:Nat->Int} {ok:α->Nat->Prop}
theorem Tg:∀ (l:List α) (S:Nat->Prop),Fwd K rep ok S l↔(l.foldl (Nxt K rep ok) S) K
 | [],S=>Iff.rfl
 | x::l,S=>by rw[Fwd,kD]; exact Tg l _
end
def StL(fs:List aI)(n:aG)(l:List aC):Nat->Prop:=l.foldl (Nxt n.Seq.length (oZ n) (okG fs n)) (fun p=>Skp n.Seq.length (oZ n) 0 p)
theorem bAZ(fs:List aI)(n:aG)(l:List aC):StL fs n l n.Seq.length↔zE n.Seq.length (oZ n) (okG fs n) l 0:=(Tg l _).symm.trans (Ku _ _ _ l)
theorem Vn{P:List aC}(hi:i<=j)(hj:j<P.length):(P.take (j+1)).drop i=(P.take j).drop i++[P.getD j default]:=by rw[aQ hj,List.drop_append_of_le_length (by grind)]
theorem Sl{P:List aC}(hi:i<=j)(hj:j<P.length):(P.take (j+1)).drop i=P.getD i default::(P.take (j+1)).drop (i+1):=by
 rw[cP (by grind)]
 congr 1
 rw[eU,eU,wJ,aB (by omega)]
theorem aBI{P:List aC}(h:j<i):(P.take (j+1)).drop i=[]:=gY (by grind)
theorem aFM{fs:List aI}{n:aG}(hK:n.Seq.length<=8){P:List aC}(hi:i<=j)(hj:j<P.length):
  (isM aX.time_ (nxF n) (kG n) n.Size (P.getD i default).Time (jC n 1) (((P.take (j+1)).drop i).map (gpl fs n))=true)↔((P.getD j default).Time-(P.getD i default).Time<n.Size/\StL fs n ((P.take (j+1)).drop i) n.Seq.length):=by
 rw[bJZ hK,bAZ];have:((((P.take (j+1)).drop i).map (gpl fs n)).getLastD default).time_=(P.getD j default).Time:=by rw[Vn hi hj,rN,kL,List.map_nil,Bt]; rfl
 rw[this]
theorem aVO{fs:List aI}{n:aG}(hK:n.Seq.length<=8){P:List aC}(hi:i<=j)(hj:j<P.length)(h:(P.getD j default).Time-(P.getD i default).Time<n.Size)(hS:StL fs n ((P.take (j+1)).drop i) n.Seq.length):
  sF fs n ((P.take (j+1)).drop i)=(j:Int)-i+1:=by
 have hM:=(aFM (fs:=fs) hK hi hj).2 ⟨h,hS⟩;rw[Sl hi hj]at hM ⊢;rw[Mh,aB hM,fB,nV,gO]; omega
theorem aNJ{fs:List aI}{n:aG}(hK:n.Seq.length<=8){P:List aC}(hi:i<=j)(hj:j<P.length)(h:¬ ((P.getD j default).Time-(P.getD i default).Time<n.Size/\StL fs n ((P.take (j+1)).drop i) n.Seq.length)):
  sF fs n ((P.take (j+1)).drop i)=sF fs n ((P.take (j+1)).drop (i+1)):=by
 have hM:¬ _:=fun q=>h ((aFM (fs:=fs) hK hi hj).1 q);rw[Sl hi hj]at hM ⊢;rw[Mh,aF hM]
theorem aNZ{fs:List aI}{n:aG}{P:List aC}{g:List (List Bool)}(a2:cS)(hK:n.Seq.length<=8)(hz:1<=n.Size/\n.Size<=10000)(hg:aWF fs n P g)(hs:TS P)(ht:sW P)(hP:P.length<=1000000000)(hi:i<P.length)
  (long:List Int)(hl:long.length=P.length)(hL:∀ j,j<P.length->long.getD j default=sF fs n ((P.take (j+1)).drop (i+1)))(now:List Bool)(hn:BL n.Seq.length now (fun p=>Skp n.Seq.length (oZ n) 0 p)):
  Sp (cK (fun s=>(Rt n a2 (i:Int) s).den) (P,g,long,now,(i:Int))) (fun z=>∃ lg,z = .inl (P,g,lg)/\lg.length=P.length/\∀ j,j<P.length->lg.getD j default=sF fs n ((P.take (j+1)).drop i)):=by
 refine Sq.while (fun s:List aC×List (List Bool)×List Int×List Bool×Int=>s.1=P/\s.2.1=g/\∃ j:Nat,s.2.2.2.2=(j:Int)/\i<=j/\j<=P.length/\s.2.2.1.length=P.length/\BL n.Seq.length s.2.2.2.1 (StL fs n ((P.take j).drop i)) /\
   ∀ j',j' < P.length->s.2.2.1.getD j' default=if j' < j then sF fs n ((P.take (j'+1)).drop i) else sF fs n ((P.take (j'+1)).drop (i+1)))
  (fun s=>P.length-s.2.2.2.2.toNat) (fun s hI=>?_) ⟨rfl,rfl,i,rfl,dL i,by omega,hl,?_,fun j' hj'=>?_⟩
 ·obtain⟨v27,v28,v29,v30,v31⟩:=s;obtain⟨rfl,rfl,j,hj,hij,hjP,hvl,hvn,hvL⟩:=hI;simp only at hj hvl hvn hvL hij hjP hP hi hl hL ht hs hg;subst hj;unfold Rt;simp only[Tr.den,aS];have t2:=ht _ (aT hi);have fin:(∀ j',j<=j'->j' < v27.length->¬ ((v27.getD j' default).Time-(v27.getD i default).Time<n.Size))->∀ j',j' < v27.length->v29.getD j' default=sF fs n ((v27.take (j'+1)).drop i):=fun hno j' hj'=>by
   rw[hvL j' hj'];by_cases h:j' < j
   ·rw[aB h]
   ·rw[aF h,aNJ hK (by omega) hj' (fun q=>hno j' (by omega) hj' q.1)]
  by_cases hc:j<v27.length
  ·have t1:=ht _ (aT hc);rw[aB (bI (by omega)),aB (by omega),aB (by omega),aB (by omega),aB (by omega)];simp only[aH];have ewr:IntKind.i64.wrap ((v27.getD j default).Time-(v27.getD i default).Time)=(v27.getD j default).Time-(v27.getD i default).Time:=bS (by omega) (by omega);by_cases hT:(v27.getD j default).Time-(v27.getD i default).Time<n.Size
   ·rw[aB (bI (by omega))];have hgl:=hg.len;rw[aB (by omega),aB (by omega)];refine Sq.bind _ (aUW n.Seq v30 (v28.getD j default) _ (okG fs n (v27.getD j default)) hvn (hg.sz j hc) (hg.ok j hc) hK) fun r39 hr=>?_;have hr:BL n.Seq.length r39 (StL fs n ((v27.take (j+1)).drop i)):=by rw[Vn hij hc];unfold StL;rw[lI];exact hr
    have hrl:=hr.1;have hK2:=hr.2 n.Seq.length (dL _);rw[aB (by omega)];have hsg:=aVO (fs:=fs) hK hij hc hT;have hsn:¬ StL fs n ((v27.take (j+1)).drop i) n.Seq.length->_:=fun q=>aNJ (fs:=fs) hK hij hc fun q'=>q q'.2;refine Sq.bind (fun z:List aC×List (List Bool)×List Int=>z.1=v27/\z.2.1=v28/\z.2.2.length=v27.length/\∀ j',j' < v27.length->z.2.2.getD j' default=if j' < j+1 then sF fs n ((v27.take (j'+1)).drop i) else sF fs n ((v27.take (j'+1)).drop (i+1))) ?_ fun z hz=>?_
    ·refine aO (fun h=>?_) fun h=>?_
     ·rw[aB (by omega),aB (by omega),aB (by simp; omega)];refine aA.2 ⟨rfl,rfl,by simp_all,fun j' hj'=>?_⟩;simp only;rw[qB];by_cases e:j'=j
      ·subst e;rw[aB ⟨rfl,by omega⟩,aB (by omega),hsg (hK2.1 h),bS (n:=(j':Int)-(i:Int)) (by omega) (by omega),bS (by omega) (by omega)]
      grind
     ·have hno:¬ StL fs n ((v27.take (j+1)).drop i) n.Seq.length:=fun q=>by simp_all
      refine aA.2 ⟨rfl,rfl,hvl,fun j' hj'=>?_⟩;grind
    ·obtain⟨j40,j41,j42⟩:=z;obtain⟨rfl,rfl,z3,z4⟩:=hz;simp only at z3 z4 hc;refine aA.2 ⟨⟨rfl,rfl,j+1,aL (Nat.lt_of_le_of_lt hjP (by omega)),by omega,Nat.succ_le_of_lt hc,z3,hr,z4⟩,?_⟩;simp only at hjP hP ⊢;rw[aL (by omega),aS]; omega
   ·rw[aF (bJ (by omega))];refine aA.2 ⟨v29,rfl,hvl,fin fun j' h1 h2=>?_⟩;have:=hs.get h1 h2;omega
  ·rw[aF (bJ (by omega))];simp only[aH,cM,cI];exact aA.2 ⟨v29,rfl,hvl,fin fun j' h1 h2=>absurd h2 (by omega)⟩
 ·have e:(P.take i).drop i=[]:=gY (by grind);simp only;rw[e];exact hn
 ·simp only;rw[hL j' hj'];by_cases h:j' < i
  ·rw[aB h,aBI h,aBI (by omega)]
  omega
structure Fp (fs:List aI)(n:aG)(l:List aC):Prop where
 i:okI n 0 l
 ev:∀ d,d∈l->∀ p,p<n.Seq.length->aZK fs (n.Seq.getD p default).Pred d.Time d.Row=some (evV fs (n.Seq.getD p default).Pred d)
 nn:∀ d,d∈l->d.N<=1000
 len:l.length<=1000000
theorem Fp.sub{fs:List aI}{n:aG}{l r:List aC}(h:Fp fs n l)(hs:∀ x,x∈r->x∈l)(hl:r.length<=1000000):Fp fs n r:=⟨h.i.sub hs,fun d hd=>h.ev d (hs d hd),fun d hd=>h.nn d (hs d hd),hl⟩
theorem bFA{fs:List aI}{n:aG}(h:Fp fs n a2.l_)(hK:n.Seq.length<=8)(v1:List aC)(v2:List (List Bool)){k:Nat}(hk:k<a2.l_.length):
  Sp (cK (fun s=>(Pj fs n a2 (k:Int) s).den) (v1,v2,List.replicate n.Seq.length (default:Bool),0))
   (fun z=>∃ g:List Bool,z = .inl (v1,v2,g)/\g.length=n.Seq.length/\∀ p,p<n.Seq.length->(g.getD p default=true↔okG fs n (a2.l_.getD k default) p)):=by
 refine cG (fun s:List aC×List (List Bool)×List Bool×Int=>s.2.2.2) n.Seq.length (by omega) (fun s=>s.1=v1/\s.2.1=v2/\s.2.2.1.length=n.Seq.length/\∀ p:Nat,(p:Int)<s.2.2.2->(s.2.2.1.getD p default=true↔okG fs n (a2.l_.getD k default) p)) (fun s q hI hq hqN=>?_)
  ⟨rfl,rfl,wF,fun p hp=>absurd hp (by grind)⟩ rfl
 obtain⟨v6,v7,v8,v9⟩:=s;obtain⟨rfl,rfl,hl,hg⟩:=hI;simp only at hq hl hg;subst hq;unfold Pj;simp only[Tr.den,aS];by_cases hc:q<n.Seq.length
 ·have hm:=aT hk;rw[aB (bI (by omega)),aB (by omega),aB (by omega),aB (by omega),h.ev _ hm q hc];simp only[aH];rw[aB (by omega),aB (by omega),aB (by simp; omega)];refine aA.2 ⟨rfl,hc,rfl,rfl,by simp_all,fun p hp=>?_⟩;rw[aL (by omega)]at hp;simp only at hp ⊢;rw[qB];by_cases e:p=q
  ·subst e;rw[aB ⟨rfl,by omega⟩,jI];rfl
  grind
 ·rw[aF (bJ (by omega))];exact aA.2 ⟨v8,rfl,hl,fun p hp=>hg p (by omega)⟩
theorem bDP(a2:cS){k:Nat}(hk:k<a2.l_.length)(hN:(a2.l_.getD k default).N<=1000)(v1:List aC)(v2:List (List Bool))(g:List Bool)(h1:v1.length<=1000000000)(h2:v2.length<=1000000000):
  cK (fun s=>(yO a2 (k:Int) s).den) (v1,v2,g,0)=some (.inl (v1++List.replicate (a2.l_.getD k default).N.toNat (a2.l_.getD k default),v2++List.replicate (a2.l_.getD k default).N.toNat g)):=by
 have h3:=bE (bd:=fun s=>(yO a2 (k:Int) s).den) (fun i=>(v1++List.replicate i (a2.l_.getD k default),v2++List.replicate i g,g,(i:Int))) (a2.l_.getD k default).N.toNat (r:=.inl (v1++List.replicate (a2.l_.getD k default).N.toNat (a2.l_.getD k default),v2++List.replicate (a2.l_.getD k default).N.toNat g)) (fun i hi=>?_) ?_
 ·simp_all
 ·unfold yO;simp only[Tr.den,aS];rw[aB (by omega),aB (bI (by omega)),aB (by omega),aB (by grind),aB (by grind),aL (by omega)];rw[cT,cT,<-List.replicate_succ',<-List.replicate_succ']
 ·unfold yO;simp only[Tr.den,aS];rw[aB (by omega),aF (bJ (by omega))]
theorem aHA{fs:List aI}{n:aG}(h:Fp fs n a2.l_)(hK:n.Seq.length<=8):
  Sp (cK (fun s=>(Ro fs n a2 s).den) (([]:List aC),([]:List (List Bool)),0)) (fun z=>∃ g,z = .inl (plG a2.l_,g)/\aWF fs n (plG a2.l_) g):=by
 refine cG (fun s:List aC×List (List Bool)×Int=>s.2.2) a2.l_.length (by have:=h.len; omega) (fun s=>s.1=plG (a2.l_.take s.2.2.toNat)/\aWF fs n s.1 s.2.1) (fun s k hI hk hkN=>?_)
  ⟨by rfl,rfl,fun i hi=>absurd hi (sX i),fun i hi=>absurd hi (sX i)⟩ rfl
 obtain⟨v1,v2,v3⟩:=s;obtain⟨e1,hg⟩:=hI;simp only at hk e1 hg;subst hk;rw[aS]at e1;subst e1;have hlen:=h.len;have hpl:=Ns (l:=a2.l_.take k) fun d hd=>h.nn d (xG hd);rw[gO]at hpl;unfold Ro;simp only[Tr.den,aS];by_cases hc:k<a2.l_.length
 ·have hN:=h.nn _ (aT hc);rw[aB (bI (by omega)),aB ⟨⟨by omega,by omega⟩,by omega⟩];refine Sq.bind _ (Sq.of (bFA h hK (plG (a2.l_.take k)) v2 hc)) fun z hz=>?_;obtain⟨g,rfl,hgl,hgo⟩:=hz;simp only[sel];have hvl:=hg.len;rw[bDP a2 hc hN _ _ g (by omega) (by omega)];simp only[aH,sel];have eP:plG (a2.l_.take (k+1))=plG (a2.l_.take k)++List.replicate (a2.l_.getD k default).N.toNat (a2.l_.getD k default):=by unfold plG;rw[aQ hc,Mx,jM,List.flatMap_nil,eN]
  refine aA.2 ⟨rfl,hc,?_,?_,?_,?_⟩
  ·simp only; rw[aL (by omega),aS,eP]
  ·simp_all
  ·intro i hi;simp only at hi ⊢;rw[cE,wF]at hi;rw[eW];by_cases hik:i<v2.length
   ·rw[aB hik]; exact hg.sz i (by omega)
   grind
  ·intro i hi;simp only at hi ⊢;rw[cE,wF]at hi;rw[eW,eW];by_cases hik:i<v2.length
   ·rw[aB hik,aB (by omega)]; exact hg.ok i (by omega)
   grind
 ·rw[aF (bJ (by omega))];rw[fT (by omega)]at hg ⊢;exact aA.2 ⟨v2,rfl,hg⟩
theorem bBJ{fs:List aI}{n:aG}{P:List aC}{g:List (List Bool)}(a2:cS)(hK:n.Seq.length<=8)(hz:1<=n.Size/\n.Size<=10000)(hg:aWF fs n P g)(hs:TS P)(ht:sW P)(hP:P.length<=1000000000):
  Sp (cK (fun s=>(Nz n a2 s).den) (P,g,List.replicate P.length (default:Int),IntKind.i64.wrap ((P.length:Int)-1))) (fun z=>∃ lg,z = .inl (P,lg)/\lg.length=P.length/\∀ j,j<P.length->lg.getD j default=sF fs n (P.take (j+1))):=by
 refine Sq.while (fun s:List aC×List (List Bool)×List Int×Int=>s.1=P/\s.2.1=g/\∃ k:Nat,s.2.2.2=(k:Int)-1/\k<=P.length/\s.2.2.1.length=P.length/\∀ j,j<P.length->s.2.2.1.getD j default=sF fs n ((P.take (j+1)).drop k)) (fun s=>(s.2.2.2+1).toNat) (fun s hI=>?_)
  ⟨rfl,rfl,P.length,by simp only; rw[bS (by omega) (by omega)],dL _,wF,fun j hj=>?_⟩
 ·obtain⟨v20,v21,v22,v23⟩:=s;obtain⟨e1,e2,k,hk,hkP,hvl,hvL⟩:=hI;simp only at e1 e2 hk hvl hvL;subst e1 e2 hk;unfold Nz;simp only[Tr.den];cases k with
  | zero=>rw[aF (bJ (by omega))];exact aA.2 ⟨v22,rfl,hvl,fun j hj=>by rw[hvL j hj,xL]⟩
  | succ k=>
   have e1:((k+1:Nat):Int)-1=(k:Int):=by omega
   have ew:IntKind.i64.wrap ((n.Seq.length:Int)+1)=((n.Seq.length+1:Nat):Int):=aL (by omega);rw[e1,aB (bI (by omega)),ew];simp only[aS];rw[aB ⟨⟨by omega,by omega⟩,by omega⟩,aB (by simp),aB (by simp),aB (by simp)];refine Sq.bind _ (aCJ n.Seq _ _ ((BL.none n.Seq.length).set 0) hK) fun r hr=>?_;have hr:BL n.Seq.length r (fun p=>Skp n.Seq.length (oZ n) 0 p):=hr.congr fun p hp=>⟨fun⟨q,hq,h⟩=>by simp_all,fun h=>⟨0,.inr rfl,h⟩⟩;refine Sq.bind _ (Sq.of (aNZ a2 hK hz hg hs ht hP (i:=k) (by omega) v22 hvl hvL r hr)) fun z hz'=>?_;obtain⟨lg,rfl,h1,h2⟩:=hz';simp only[sel];have ew2:IntKind.i64.wrap ((k:Int)-1)=(k:Int)-1:=bS (by omega) (by omega);refine aA.2 ⟨⟨rfl,rfl,k,ew2,by omega,h1,h2⟩,?_⟩;simp_all
 ·have e:(P.take (j+1)).drop P.length=[]:=gY (by grind);simp only;rw[e,eU,Mc,aB hj]; rfl
theorem bAI{fs:List aI}{n:aG}(h:Fp fs n a2.l_)(hn:lN n)(hs:TS a2.l_)(hkl:a2.key_.length<=10):aUN fs n a2=some (gX n a2.key_ 0 [] (plA fs n a2.l_)):=by
 have hK:=hn.seq.2;refine Sp.eq ?_;unfold aUN bEB;simp only[Tr.den];refine Sq.bind _ (Sq.of (aHA h hK)) fun z hz=>?_;obtain⟨g,rfl,hg⟩:=hz;simp only[sel];have hlen:=h.len;have hpl:=Ns h.nn;have hts:=bHT hs;have htm:sW (plG a2.l_):=fun d hd=>h.i.t d (aFI hd);rw[aB ⟨⟨by omega,by omega⟩,by omega⟩,aS];refine Sq.bind _ (Sq.of (bBJ a2 hK hn.size hg hts htm (by omega))) fun z hz=>?_;obtain⟨lg,rfl,hll,hlL⟩:=hz;simp only[sel];have out_len:∀ k,(gX n a2.key_ 0 [] (((plG a2.l_).take k).map (gpl fs n))).length<=k:=fun k=>by
  have:∀ (a u:List aX),(gX n a2.key_ 0 u a).length<=a.length:=fun a=>by
   induction a with
   | nil=>intro u; exact dL _
   | cons q a ih=>
    intro u;rw[gX,cE,fB];have h1:=ih (u++[q]);have h2:(if (0:Int)<=q.time_ then Af n a2.key_ (u++[q]) else []).length<=1:=by
     split
     ·unfold Af; split <;> simp
     ·simp
    omega
  grind
 have h1:=bE (bd:=fun s=>(Dj a2 s).den) (fun k=>(gX n a2.key_ 0 [] (((plG a2.l_).take k).map (gpl fs n)),plG a2.l_,lg,(k:Int))) (plG a2.l_).length (r:=.inl (gX n a2.key_ 0 [] (plA fs n a2.l_))) (fun k hk'=>?_) ?_
 ·rw[show (([]:List aC),plG a2.l_,lg,(0:Int))=(fun k:Nat=>(gX n a2.key_ 0 [] (((plG a2.l_).take k).map (gpl fs n)),plG a2.l_,lg,(k:Int))) 0 from rfl,h1];exact aA.2 rfl
 ·unfold Dj;simp only[Tr.den,aS];have hd:=aFI (aT hk');have hol:=out_len k;have ht0:=(h.i.t _ hd).1;have hL:=hlL k hk';rw[aB (bI (by omega)),aB (by omega),aB (by omega)];have eL:((plG a2.l_).take k).map (gpl fs n)++[gpl fs n ((plG a2.l_).getD k default)]=((plG a2.l_).take (k+1)).map (gpl fs n):=by rw[aQ hk',rN]; rfl
  have eS:gX n a2.key_ 0 [] (((plG a2.l_).take (k+1)).map (gpl fs n))=gX n a2.key_ 0 [] (((plG a2.l_).take k).map (gpl fs n))++Af n a2.key_ (((plG a2.l_).take (k+1)).map (gpl fs n)):=by rw[<-eL,tY,kS,gX,gX,eN,aB (show (0:Int)<=(gpl fs n ((plG a2.l_).getD k default)).time_ from ht0)]
  rw[eS];unfold Af;have elast:((((plG a2.l_).take (k+1)).map (gpl fs n)).getLastD default).time_=((plG a2.l_).getD k default).Time:=by rw[<-eL,Bt]; rfl
  rw[elast];rcases aNQ (fs:=fs) (n:=n) hk' with⟨b1,b2⟩ | ⟨i,hi,b1,b2⟩
  ·rw[b2,aF (bJ (by omega))];simp only[aH,eN];rw[aL (by omega)]
  ·have hLk:=hL.trans b1;have ew:IntKind.i64.wrap (IntKind.i64.wrap ((k:Int)+1)-lg.getD k default)=(i:Int):=by rw[hLk,bS (n:=(k:Int)+1) (by omega) (by omega),bS (by omega) (by omega)]; omega
   rw[b2,aB (bI (by omega)),aB (by omega),aB (by omega),aB (by omega),aB (by omega),aB (by omega),aB (by omega),aB (by omega),aB (by omega),aB (by omega),aB (by omega),aB (by grind)];simp only[aH];rw[aL (n:=k) (by omega)];rw[aL (n:=k) (by omega)]at ew;rw[ew,hLk];rfl
 ·unfold Dj;simp only[Tr.den];rw[aF (bJ (by omega)),fW,aEB]
theorem aGD{a:List aC}(ha:Can a)(hl:okN l)(hal:∀ d,d∈l->aft t d=true):PL.cons (a.filter (aft t)++l)=(PL.cons (a++l)).filter (aft t):=by
 have hal':okN (a++l):=fun x hx=>(dC.1 hx).elim (ha.n64 x) (hl x);refine oI ((eO hal').filter _) (fun x hx=>?_) ?_
 ·rcases dC.1 hx with hx | hx
  ·exact ha.n64 x (iB.1 hx).1
  ·exact hl x hx
 ·have h1:=(eY (a++l)).aft t;rw[qP,rW.2 hal]at h1;exact h1
theorem bFL(l:List aC)(t:Int)(ho:okD l)(hn:l.length<=1000000000000):G45 l t=some (PL.cons (l.filter (aft t))):=by
 unfold G45 T45;simp only[Tr.den];have h1:=bE (bd:=fun s=>(Nr l t s).den) (fun i=>((l.take i).filter (aft t),(i:Int))) l.length (r:=.inl (l.filter (aft t))) (fun i hi=>?_) ?_
 ·refine(congrArg (fun x=>Option.bind x _) h1).trans ?_;simp only[aH,sel];have h2:okD (l.filter (aft t)):=ho.sub fun x hx=>(iB.1 hx).1;rw[rA _ h2.r h2.n (by grind)];rfl
 ·unfold Nr;simp only[Tr.den,aS];have hl:=qX (aft t) (l.take i);rw[gO]at hl;rw[aB (bI (by omega)),aB (by omega),aQ hi,qP];by_cases hc:(l.getD i default).Time>t
  ·rw[aB (bI hc),aB (by omega),aB (by grind)];simp only[aH];rw[Tm (show aft t (l.getD i default)=true from bI hc),aL (by omega)];rfl
  ·rw[aF (bJ hc)];simp only[aH];rw[Qo (show ¬ aft t (l.getD i default)=true from bJ hc),aL (by omega)];simp
 ·unfold Nr;simp only[Tr.den];rw[aF (bJ (by omega)),fW]
theorem aTZ(l:List aC)(t:Int)(ho:okD l)(hc:Can l)(hn:l.length<=1000000000000):G45 l t=some (l.filter (aft t)):=by rw[bFL l t ho hn,jS (hc.filter _)]
theorem bCJ(a b:List aC)(ha:okD a)(hb:okD b)(hn:a.length+b.length<=1000000000000):G48 a b=some (PL.cons (a++b.map neg)):=by
 unfold G48 T48;simp only[Tr.den,kS,Ep];rw[aB (by omega)];have h1:=bE (bd:=fun s=>(Rj b s).den) (fun i=>(a++(b.take i).map neg,(i:Int))) b.length (r:=.inl (a++b.map neg)) (fun i hi=>?_) ?_
 ·rw[show (a++(b.take 0).map neg,((0:Nat):Int))=(a,0) by simp]at h1;rw[h1];simp only[aH,sel];have ok:okD (a++b.map neg):=ha.app (aLW hb);rw[rA _ ok.r ok.n (by simp; omega)];rfl
 ·unfold Rj;simp only[Tr.den,aS];rw[aB (bI (by omega)),aB (by omega),aB (by omega),aDK _ _ (hb.r _ (aT hi))];simp only[aH];rw[aB (by simp; omega),aL (by omega),aQ hi,rN,<-cT];rfl
 ·unfold Rj;simp only[Tr.den];rw[aF (bJ (by omega)),fW]
theorem bER(l:List aC)(hn:l.length<=1000000000000):G50 l=some (W (wt fC l)):=by
 unfold G50 T50;simp only[Tr.den];have h1:=bE (bd:=fun s=>(Qu l s).den) (fun i=>(W (wt fC (l.take i)),(i:Int))) l.length (r:=.inl (W (wt fC l))) (fun i hi=>?_) ?_
 ·refine(congrArg (fun x=>Option.bind x _) h1).trans ?_;rfl
 ·unfold Qu;simp only[Tr.den,aS];rw[aB (bI (by omega)),aB (by omega),aL (by omega),aQ hi,eT,show wt fC [l.getD i default]=(l.getD i default).N by simp[wt,fC]];rw[show IntKind.i64.wrap (W (wt fC (l.take i))+(l.getD i default).N)=W (wt fC (l.take i)+(l.getD i default).N) from lJ _ _]
 ·unfold Qu;simp only[Tr.den];rw[aF (bJ (by omega)),fW]
theorem Sw(n:aG)(key:List aE)(lo:Int):∀ (a u:List aX),(gX n key lo u a).length<=a.length
 | [],u=>dL _
 | q::a,u=>by
  rw[gX,cE,fB];have h1:=Sw n key lo a (u++[q]);have h2:(if lo<=q.time_ then Af n key (u++[q]) else []).length<=1:=by
   split
   ·unfold Af; split <;> simp
   ·simp
  omega
theorem Si(n:aG)(key:List aE)(lo:Int)(hk:key.length<=10):∀ (a u:List aX),okD (gX n key lo u a)
 | [],u=>okD.nil
 | q::a,u=>by
  rw[gX];refine okD.app ?_ (Si n key lo hk a _);split
  ·unfold Af;split
   ·refine⟨fun x hx=>?_,fun x hx=>?_⟩
    ·rw[cR.1 hx];unfold okR;grind
    ·rw[cR.1 hx]; exact⟨by simp_all,by simp_all⟩
   ·exact okD.nil
  ·exact okD.nil
noncomputable def mN (fs:List aI)(n:aG)(ks:List ByteArray)(a:List aC):List aC:=ks.flatMap fun k=>yX fs n (ofK n 0 k a)
theorem Vh{fs:List aI}{n:aG}(hn:lN n)(l:List aC):okD (yX fs n l):=Si _ _ _ (by unfold mI; rw[mS]; exact hn.key) _ _
theorem Fl{fs:List aI}{n:aG}(hn:lN n)(ks:List ByteArray)(a:List aC):okD (mN fs n ks a):=⟨fun x hx=>by
  obtain⟨k,hk,hx⟩:=lT.1 hx;exact(Vh hn _).r x hx,fun x hx=>by
  obtain⟨k,hk,hx⟩:=lT.1 hx;exact(Vh hn _).n x hx⟩
theorem Ur{fs:List aI}{n:aG}(h:∀ d,d∈l->d.N<=1000):(yX fs n l).length<=l.length*1000:=by refine gQ (Sw _ _ _ _ _) ?_;rw[<-aEB,mS];exact Ns h
def grp(n:aG)(a:List aC)(k:ByteArray):cS:=⟨mI n ((ofK n 0 k a).getD 0 default).Row,0,0,ofK n 0 k a⟩
structure GI (n:aG)(a:List aC)(ks:List ByteArray):Prop where
 nd:ks.Nodup
 mem:∀ k,k∈ks↔ofK n 0 k a≠[]
theorem GI.nil(n:aG):GI n [] []:=⟨List.nodup_nil,fun k=>by simp[ofK]⟩
theorem aNG(n:aG)(k:ByteArray)(x:aC):ofK n 0 k [x]=if kd n 0 x=k then [x] else []:=by unfold ofK;grind
theorem Vk{a:List aC}(h:a≠[]):a.getD 0 default∈a:=aT (gU.2 h)
theorem aCR{n:aG}{a:List aC}{k:ByteArray}(h:ofK n 0 k a≠[]):iA (grp n a k).key_=k:=(eK.1 (Vk h)).2
theorem Gf{n:aG}{a:List aC}{k:ByteArray}{x:aC}(h:ofK n 0 k a≠[]):grp n (a++[x]) k=⟨(grp n a k).key_,0,0,ofK n 0 k a++ofK n 0 k [x]⟩:=by
 have h0:0<(ofK n 0 k a).length:=gU.2 h;unfold grp;rw[yT]
 congr 3
 rw[eU,eU,pZ h0]
theorem aUX{n:aG}{a:List aC}(h:GI n a ks)(x:aC)(hk:n.Key.length<=10)(hla:a.length<=1000000)(hl:ks.length<=1000000):
  Sp (Wt (mI n x.Row) 0 0 x (ks.map (grp n a))) (fun r=>∃ ks',r=ks'.map (grp n (a++[x]))/\GI n (a++[x]) ks'/\ks'.length<=ks.length+1):=by
 obtain⟨kx,hkx⟩:∃ kx,kd n 0 x=kx:=⟨_,rfl⟩;have ho:∀ k,ofK n 0 k [x]=if kx=k then [x] else []:=fun k=>by rw[aNG,hkx]
 have hgl:∀ k,(grp n a k).key_.length<=10:=fun k=>by show (mI n _).length<=10; rw[pY]; exact hk
 have hof:∀ k,(ofK n 0 k a).length<=a.length:=fun k=>qX _ _;unfold Wt Zw;simp only[Tr.den];refine Sq.bind (fun z:List cS⊕List cS=>match z with | .inl b=>b=ks.map (grp n a)/\kx∉ks | .inr r=>r=ks.map (grp n (a++[x]))/\kx∈ks) ?_ fun z hz=>?_
 ·refine cG (fun s:List cS×Int=>s.2) ks.length (by omega) (fun s=>s.1=ks.map (grp n a)/\∀ j:Nat,(j:Int)<s.2->ks.getD j default≠kx) (fun s q hI hq hqN=>?_) ⟨rfl,fun j hj=>absurd hj (by omega)⟩ rfl;obtain⟨v1,v2⟩:=s;obtain⟨e1,hno⟩:=hI;simp only at hq e1 hno;subst hq;have hvl:v1.length=ks.length:=by rw[e1,mS]
  unfold Kj;simp only[Tr.den,aS];by_cases hc:q<ks.length
  ·have hvq:v1.getD q default=grp n a (ks.getD q default):=by rw[e1,dF (by simp_all),Ag,<-dF hc]
   have hkm:ks.getD q default∈ks:=aT hc;have hne:=(h.mem _).1 hkm;have hb1:((v1.getD q default).begin_==0)=true:=by rw[hvq]; rfl
   have hb2:((v1.getD q default).end_==0)=true:=by rw[hvq]; rfl
   have hb3:(v1.getD q default).key_.length<=1073741824:=by grind
   rw[aB (bI (by omega)),aB (by omega),aB ⟨by omega,trivial⟩,aB hb1,aB (by omega),aB ⟨by omega,trivial⟩,aB hb2,aB (by omega),aB ⟨by omega,trivial⟩];rw[aZZ _ _ hb3 (by rw[pY]; omega)];simp only[aH];have hcmp:Ax (v1.getD q default).key_ (mI n x.Row)=0↔ks.getD q default=kx:=by
    rw[hvq,TO.row.eq];constructor
    ·intro e; rw[<-aCR hne,e,<-hkx]; rfl
    ·intro e; exact Gh (by rw[aCR hne,e,<-hkx]; rfl)
   refine aO (fun he=>?_) fun he=>?_
   ·have he:=hcmp.1 (jI.1 he);have hl2:(v1.getD q default).l_=ofK n 0 (ks.getD q default) a:=by rw[hvq]; rfl
    have hol:=hof (ks.getD q default);have hc1:(((v1.getD q default).l_).length+1)*40<=140737488355328:=by grind
    rw[aB (by omega),aB (by omega),aB ⟨by omega,trivial,trivial⟩,aB hc1,aB (by omega),aB (by omega)];refine aA.2 ⟨?_,he▸hkm⟩;rw[hvq,e1];refine List.ext_getElem (by simp) fun j h1 h2=>?_;rw[mS]at h2;rw[List.getElem_set,Ag,Ag];by_cases hj:q=j
    ·subst hj;rw[aB rfl];rw[dF hc]at hne he ⊢;rw[Gf hne,ho,aB he.symm]; rfl
    ·rw[aF hj];have hne2:=(h.mem _).1 (Wh h2);have hnk:kx≠ks[j]:=fun e=>by rw[dF hc]at he;exact hj ((List.getElem_inj h.nd).1 (he.trans e))
     rw[Gf hne2,ho,aF hnk,eN]; rfl
   ·have he:ks.getD q default≠kx:=fun e=>by simp_all
    rw[aL (by omega)];refine aA.2 ⟨rfl,hc,e1,fun j hj=>?_⟩;grind
  ·rw[aF (bJ (by omega))];refine aA.2 ⟨e1,fun hm=>?_⟩;obtain⟨j,hj,e⟩:=Oy hm;grind
 ·cases z with
  | inr r=>
   obtain⟨hr,hm⟩:=hz;refine aA.2 ⟨ks,hr,⟨h.nd,fun k=>?_⟩,Nat.le_succ _⟩;rw[yT,h.mem k,ho];by_cases e:kx=k
   ·subst e; rw[aB rfl]; simp[(h.mem _).1 hm]
   simp_all
  | inl b=>
   obtain⟨rfl,hm⟩:=hz;simp only[sel];rw[aB (by grind)];have h0:ofK n 0 kx a=[]:=zG fun q=>hm ((h.mem kx).2 q);refine aA.2 ⟨ks++[kx],?_,⟨?_,fun k=>?_⟩,by simp⟩
   ·rw[rN,kL,List.map_nil]
    congr 1
    ·refine List.map_congr_left fun k hk=>?_;have hnk:kx≠k:=fun e=>hm (e▸hk);rw[Gf ((h.mem k).1 hk),ho,aF hnk,eN]; rfl
    ·congr 1
     unfold grp;rw[yT,h0,ho,aB rfl,kS]; rfl
   ·refine Ar.2 ⟨h.nd,by simp,fun x hx y hy=>?_⟩;grind
   ·rw[dC,cR,h.mem k,yT,ho];grind
theorem aWN{fs:List aI}{n:aG}(hn:lN n)(h:Fp fs n l)(hs:TS l)(hl:l.length<=1000):Sp (bHH fs n l) (fun r=>∃ ks,GI n l ks/\ks.length<=l.length/\r=mN fs n ks l):=by
 have hkl:=hn.key;unfold bHH bGN;simp only[Tr.den];refine Sq.bind (fun z:List cS⊕List aC=>∃ ks,z = .inl (ks.map (grp n l))/\GI n l ks/\ks.length<=l.length) ?_ fun z hz=>?_
 ·refine cG (fun s:List cS×Int=>s.2) l.length (by omega) (fun s=>∃ ks,s.1=ks.map (grp n (l.take s.2.toNat))/\GI n (l.take s.2.toNat) ks/\ks.length<=s.2.toNat) (fun s k hI hk hkN=>?_) ⟨[],rfl,GI.nil n,mT _⟩ rfl;obtain⟨v1,v2⟩:=s;obtain⟨ks,e1,hG,hkl2⟩:=hI;simp only at hk e1 hG hkl2;subst hk;rw[aS]at e1 hG hkl2;subst e1;unfold aCW;simp only[Tr.den,aS];by_cases hc:k<l.length
  ·rw[aB (bI (by omega)),aB (by omega),aYE (l.getD k default).Row n.Key (h.i.c _ (aT hc)) (by omega)];simp only[aH];rw[aB (by omega)];refine Sq.bind _ (aUX hG (l.getD k default) hkl (by grind) (by omega)) fun r hr=>?_;obtain⟨ks',rfl,hG',hl'⟩:=hr;rw[aL (by omega)];refine aA.2 ⟨rfl,hc,ks',?_,?_,?_⟩
   ·simp only; rw[aS,aQ hc]
   ·simp_all
   omega
  ·rw[aF (bJ (by omega))];rw[fT (by omega)]at hG ⊢;exact aA.2 ⟨ks,rfl,hG,by omega⟩
 ·obtain⟨ks,rfl,hG,hkl2⟩:=hz;simp only[sel];have hgk:∀ k,k∈ks->aUN fs n (grp n l k)=some (yX fs n (ofK n 0 k l)):=fun k hk=>by have hof:(ofK n 0 k l).length<=l.length:=qX _ _;exact bAI (a2:=grp n l k) (h.sub (fun x hx=>(eK.1 hx).1) (by show (ofK n 0 k l).length<=_; omega)) hn (hs.filter _) (by show (mI n _).length<=10; rw[pY]; exact hkl)
  have hml:∀ k,(yX fs n (ofK n 0 k l)).length<=1000000:=fun k=>by have h1:=Ur (fs:=fs) (n:=n) (l:=ofK n 0 k l) fun d hd=>h.nn d (eK.1 hd).1;have hof:(ofK n 0 k l).length<=l.length:=qX _ _;omega
  have hal:∀ ks:List ByteArray,(mN fs n ks l).length<=ks.length*1000000:=fun ks=>by
   induction ks with
   | nil=>simp[mN]
   | cons k ks ih=>unfold mN at ih ⊢;grind
  have hgl:(ks.map (grp n l)).length=ks.length:=mS _;have h1:=bE (bd:=fun s=>(Dp fs n (ks.map (grp n l)) s).den) (fun k=>(mN fs n (ks.take k) l,(k:Int))) ks.length (r:=.inl (mN fs n ks l)) (fun k hk=>?_) ?_
  ·rw[show (([]:List aC),(0:Int))=(fun k:Nat=>(mN fs n (ks.take k) l,(k:Int))) 0 from rfl,h1];exact aA.2 ⟨ks,hG,hkl2,rfl⟩
  ·have ha:=hal (ks.take k);have hm:=hml (ks.getD k default);rw[gO]at ha;have hvq:(ks.map (grp n l)).getD k default=grp n l (ks.getD k default):=by rw[dF (by omega),Ag,<-dF hk]
   unfold Dp;simp only[Tr.den,aS];rw[aB (bI (by omega)),aB (by omega),hvq,hgk _ (aT hk)];simp only[aH];rw[aB (by omega),aL (by omega)];unfold mN;rw[aQ hk,Mx,jM,List.flatMap_nil,eN]
  ·unfold Dp;simp only[Tr.den];rw[aF (bJ (by omega)),fW]
theorem aLI{fs:List aI}{n:aG}(hn:lN n)(hop:n.Op=8)(h:Fp fs n l)(hs:TS l)(hl:l.length<=1000):
  Sp (G46 fs n [l]) (fun r=>∃ ks,GI n l ks/\r=cons (mN fs n ks l)/\(mN fs n ks l).length<=1000000000):=by
 unfold G46 T46;simp only[Tr.den];rw[aB (bI (by simp)),aB (by simp)];simp only[aH];rw[aF (bJ (by simp))];simp only[aH,hop];simp (decide:=true) only[↓reduceIte];rw[show ([l]:List (List aC)).getD (0:Int).toNat default=l from rfl];refine Sq.bind _ (Sq.bind _ (Sq.bind _ (aWN hn h hs hl) fun r hr=>aA.2 hr) fun r hr=>aA.2 hr) fun r hr=>?_;obtain⟨ks,hG,hkl,rfl⟩:=hr;have hal:∀ ks:List ByteArray,(mN fs n ks l).length<=ks.length*1000000:=fun ks=>by
  induction ks with
  | nil=>simp[mN]
  | cons k ks ih=>unfold mN at ih ⊢;rw[jM,cE,fB];have h1:=Ur (fs:=fs) (n:=n) (l:=ofK n 0 k l) fun d hd=>h.nn d (eK.1 hd).1;have hof:(ofK n 0 k l).length<=l.length:=qX _ _;omega
 have hlen:=hal ks;have:ks.length*1000000<=1000*1000000:=iU _ (by omega);rw[aFK _ (Fl hn ks l) (by omega)];exact aA.2 ⟨ks,hG,rfl,by omega⟩
theorem Tx{fs:List aI}{n:aG}{a:List aC}{ks0:List ByteArray}(h0:GI n a ks0)(hnd:ks.Nodup)(hc:∀ d,d∈a->kd n 0 d∈ks)(p:Pl->Bool):wt p (mN fs n ks0 a)=aPC fs n ks p a:=by
 unfold mN aPC;rw[zP,<-tM];refine Vw hnd h0.nd (fun k hk=>?_) fun k hk=>?_
 ·obtain⟨hx,e⟩:=eK.1 (Vk ((h0.mem k).1 hk));grind
 ·have:ofK n 0 k a=[]:=zG fun q=>hk ((h0.mem k).2 q);rw[this]; rfl
theorem oC(b:Bool):bIL b=some (vB b):=by cases b <;> simp[bIL,bIO,Tr.den,vB]
def Vo(a b:aE):Bool:=if a.Kind=1 then Op.bytesLess a.S.toList b.S.toList else decide (a.N<b.N)
theorem aEY(a b:aE):bEO a b=some (Vo a b):=by
 unfold bEO bCD Vo;by_cases h:a.Kind=1
 ·simp only[Tr.den]; rw[aB (wW h),aB h]
 ·simp only[Tr.den]; rw[aF (kF h),aF h]
theorem aXU(x:Int):fU x 0=x:=by unfold fU; split <;> omega
theorem Uv(a b:ByteArray):Op.bytesLess a.toList b.toList=decide (yI a b<0):=by rw[jP,Lib.toList_data,Lib.toList_data]; rfl
theorem Us{a b:aE}(ha:TyV t a)(hb:TyV t b):Vo a b=decide (zL a b<0):=by
 have hk:oQ a.Kind b.Kind=0:=(TO.int.eq _ _).2 (by rw[ha.1,hb.1]);have e:zL a b=fU (oQ a.N b.N) (yI a.S b.S):=by unfold zL; rw[hk]; rfl
 rw[e];unfold Vo;by_cases h:t=1
 ·have hn:oQ a.N b.N=0:=(TO.int.eq _ _).2 (by rw[ha.2.2 h,hb.2.2 h]);rw[aB (ha.1.trans h),hn,Uv]; rfl
 ·have hs:yI a.S b.S=0:=(TO.str.eq _ _).2 (by have:=(ha.2.1 h).trans (hb.2.1 h).symm;exact iP (yQ (jI.2 this)));rw[aF (fun h'=>h (ha.1▸h')),hs,aXU];unfold oQ;grind
theorem aJM{a b:aE}(ha:TyV t a)(hb:TyV t b):(!Vo b a)=decide (zL a b<=0):=by rw[Us hb ha];have h:=TO.val.sw b a;grind
def opE(fs:List aI)(tm:Int)(row ps:List aE)(e:bB)(l:List aE)(call:List aE->bB->aE):aE:=
 if e.Op=0 then vI e.N else if e.Op=1 then vT e.S else if e.Op=2 then vB (e.N==1) else if e.Op=3 then row.getD e.N.toNat default else if e.Op=4 then ps.getD e.N.toNat default
 else if e.Op=5 then vI tm else if e.Op=6 then vB ((l.getD 0 default).N==0) else if e.Op=7 then vI (IntKind.i64.wrap (0-(l.getD 0 default).N)) else if e.Op=20 then vI ((l.getD 0 default).S.size:Int)
 else if e.Op=22 then call l (fs.getD e.N.toNat default).Body else bop e.Op (l.getD 0 default) (l.getD 1 default)
def evE(fs:List aI)(tm:Int):Nat->List aE->List aE->bB->aE
 | 0,_,_,_=>default
 | h+1,row,ps,e=>if e.Op=21 then (if (evE fs tm h row ps (e.Args.getD 0 default)).N=1 then evE fs tm h row ps (e.Args.getD 1 default) else evE fs tm h row ps (e.Args.getD 2 default))
  else opE fs tm row ps e (e.Args.map (evE fs tm h row ps)) (fun vs b=>evE fs tm h [] vs b)
theorem OkE.up{fs:List aI}{h h':Nat}(he:OkE fs nc np h e)(hh:h<=h'):OkE fs nc np h' e:=by
 cases he with
 | mk k hm hs hl ho hlt hA c3 c4 c1 c2 c21 c22 hb=>exact .mk k hm hs hl ho (fun i=>Ho (hlt i) hh) hA c3 c4 c1 c2 c21 (fun h=>⟨(c22 h).1,(c22 h).2.1,Ho (c22 h).2.2 hh⟩) hb
theorem aPP{l:List bB}{f:bB->aE}(h:i<l.length):(l.map f).getD i default=f (l.getD i default):=by rw[dF (by simp_all),Ag,<-dF h]
theorem aJC(p:cF):Sq false (Vx p) (fun v=>v=bop 19 p.a_ p.b_):=by
 by_cases h:p.a_.S.size+p.b_.S.size<=9223372036854775807
 ·rw[aDI p h]; exact aA.2 rfl
 ·refine sqf.2 fun y hy=>?_;unfold Vx aJJ at hy;simp only[Tr.den]at hy;grind
theorem bAH(f:fD)(e:bB):Sq false (Ny f e) (fun v=>∀ n nc np,OkE f.funcs_ nc np n e->v=evE f.funcs_ f.time_ n f.row_ f.params_ e):=by
 refine Kr (C:=fun (a:fD×bB) (x:Option (aE))=>Con Proofs.Tryz.prog 171 [.t (iQ a.1),.t (cQ a.2)] x (fun (y:aE)=>.t (cH y))) (fun a=>⟨bL Proofs.Tryz.func171 (by rfl),fun _ h=>nomatch h⟩) (fun rec a=>zY rec a.1 a.2) (fun rec a=>yL rec a.1 a.2)
  (fun a v=>∀ n nc np,OkE a.1.funcs_ nc np n a.2->v=evE a.1.funcs_ a.1.time_ n a.1.row_ a.1.params_ a.2) (fun r a hrec=>?_) (f,e)
 clear f e;obtain⟨f,e⟩:=a;simp only at hrec ⊢;refine sqf.2 fun y hy n nc np he=>?_;revert y;refine sqf.1 ?_;cases he with
 | mk k' hm hs hl ho hlt hA c3 c4 c1 c2 c21 c22 hb=>
 obtain⟨m,rfl⟩:∃ m,n=m+1:=⟨n-1,by grind⟩;have hr:∀ i,i<e.Args.length->Sq false (r.1 (f,e.Args.getD i default)) (fun v=>v=evE f.funcs_ f.time_ m f.row_ f.params_ (e.Args.getD i default)):=fun i hi=>
  (hrec (f,e.Args.getD i default)).imp fun v hv=>hv m nc np ((hA i hi).up (by grind))
 unfold zY;by_cases h21:e.Op=21
 ·have hl3:=c21 h21;rw[evE,aB h21];simp only[h21,Tr.den];rw[aB (by decide),aB (by omega)];refine Sq.bind _ (hr 0 (by omega)) fun v1 h1=>?_;grind
 ·have eE:evE f.funcs_ f.time_ (m+1) f.row_ f.params_ e=opE f.funcs_ f.time_ f.row_ f.params_ e (e.Args.map (evE f.funcs_ f.time_ m f.row_ f.params_)) (fun vs b=>evE f.funcs_ f.time_ m [] vs b):=by rw[evE,aF h21]
  rw[eE];simp only[Tr.den];rw[aF (by simp_all)];refine cD.2 (jN (fun s:List aE×Int=>s.2) e.Args.length (by omega) (fun s=>s.1=(e.Args.take s.2.toNat).map (evE f.funcs_ f.time_ m f.row_ f.params_)) (fun s k hI hk hkN=>?_) rfl rfl);obtain⟨b6,v5⟩:=s;simp only at hk hI;subst hk;rw[aS]at hI;subst hI;unfold zS;simp only[Tr.den,aS];by_cases hc:k<e.Args.length
  ·rw[aB (bI (by omega)),aB (by omega)];refine Sq.bind _ (hr k hc) fun v hv=>?_;refine dQ fun _=>?_;refine aA.2 ⟨rfl,hc,?_⟩;simp only;rw[aL (by omega),aS,aQ hc,rN,hv]; rfl
  ·rw[aF (bJ (by omega)),fT (by omega)];refine aA.2 ?_;generalize hb6:e.Args.map (evE f.funcs_ f.time_ m f.row_ f.params_)=b6;show Sq false _ _;simp only[sel];have z0:(0:Int).toNat=0:=rfl;have z1:(1:Int).toNat=1:=rfl;have hbe:b6.length=e.Args.length:=by rw[<-hb6,mS]
   have hop:e.Op=0\/e.Op=1\/e.Op=2\/e.Op=3\/e.Op=4\/e.Op=5\/e.Op=6\/e.Op=7\/e.Op=20\/e.Op=22\/(8<=e.Op/\e.Op<=19):=by omega
   unfold opE;rcases hop with h | h | h | h | h | h | h | h | h | h | h
   ·simp (decide:=true) only[h,↓reduceIte,gK]; exact aA.2 rfl
   ·simp (decide:=true) only[h,↓reduceIte];exact aA.2 rfl
   ·simp (decide:=true) only[h,↓reduceIte,iS];exact aA.2 rfl
   ·simp (decide:=true) only[h,↓reduceIte];exact dQ fun _=>aA.2 rfl
   ·simp (decide:=true) only[h,↓reduceIte];exact dQ fun _=>aA.2 rfl
   ·simp (decide:=true) only[h,↓reduceIte,gK];exact aA.2 rfl
   ·simp (decide:=true) only[h,↓reduceIte,iS];exact dQ fun _=>dQ fun _=>aA.2 rfl
   ·simp (decide:=true) only[h,↓reduceIte,gK];exact dQ fun _=>dQ fun _=>aA.2 rfl
   ·simp (decide:=true) only[h,↓reduceIte,gK];exact dQ fun _=>dQ fun _=>aA.2 rfl
   ·have h3:=c22 h;simp (decide:=true) only[h,↓reduceIte];refine dQ fun _=>?_;exact Sq.bind _ (hrec (_,_)) fun v hv=>aA.2 (hv m 0 e.Args.length ((hb h).up (by omega)))
   ·have l2:=c2 h;have d2:0<b6.length:=by omega
    have d3:1<b6.length:=by omega
    have hop:e.Op=8\/e.Op=9\/e.Op=10\/e.Op=11\/e.Op=12\/e.Op=13\/e.Op=14\/e.Op=15\/e.Op=16\/e.Op=17\/e.Op=18\/e.Op=19:=by omega
    rcases hop with h | h | h | h | h | h | h | h | h | h | h | h
    ·simp (decide:=true) only[h,↓reduceIte];change Sq false (((some 225:Option Nat).bind _).bind _) _;simp only[aH,Tr.den,z0,z1];rw[aB ⟨trivial,by omega⟩,aB d2,aB ⟨trivial,by omega⟩,aB d3,Qz];exact aA.2 rfl
    ·simp (decide:=true) only[h,↓reduceIte];change Sq false (((some 226:Option Nat).bind _).bind _) _;simp only[aH,Tr.den,z0,z1];rw[aB ⟨trivial,by omega⟩,aB d2,aB ⟨trivial,by omega⟩,aB d3,Ps];exact aA.2 rfl
    ·simp (decide:=true) only[h,↓reduceIte];change Sq false (((some 227:Option Nat).bind _).bind _) _;simp only[aH,Tr.den,z0,z1];rw[aB ⟨trivial,by omega⟩,aB d2,aB ⟨trivial,by omega⟩,aB d3,Qx];exact aA.2 rfl
    ·simp (decide:=true) only[h,↓reduceIte];change Sq false (((some 228:Option Nat).bind _).bind _) _;simp only[aH,Tr.den,z0,z1];rw[aB ⟨trivial,by omega⟩,aB d2,aB ⟨trivial,by omega⟩,aB d3,Qh];exact aA.2 rfl
    ·simp (decide:=true) only[h,↓reduceIte];change Sq false (((some 229:Option Nat).bind _).bind _) _;simp only[aH,Tr.den,z0,z1];rw[aB ⟨trivial,by omega⟩,aB d2,aB ⟨trivial,by omega⟩,aB d3,Ru];exact aA.2 rfl
    ·simp (decide:=true) only[h,↓reduceIte];change Sq false (((some 230:Option Nat).bind _).bind _) _;simp only[aH,Tr.den,z0,z1];rw[aB ⟨trivial,by omega⟩,aB d2,aB ⟨trivial,by omega⟩,aB d3,Dy];exact aA.2 rfl
    ·simp (decide:=true) only[h,↓reduceIte];change Sq false (((some 231:Option Nat).bind _).bind _) _;simp only[aH,Tr.den,z0,z1];rw[aB ⟨trivial,by omega⟩,aB d2,aB ⟨trivial,by omega⟩,aB d3,No];exact aA.2 rfl
    ·simp (decide:=true) only[h,↓reduceIte];change Sq false (((some 232:Option Nat).bind _).bind _) _;simp only[aH,Tr.den,z0,z1];rw[aB ⟨trivial,by omega⟩,aB d2,aB ⟨trivial,by omega⟩,aB d3,Oz];exact aA.2 rfl
    ·simp (decide:=true) only[h,↓reduceIte];change Sq false (((some 233:Option Nat).bind _).bind _) _;simp only[aH,Tr.den,z0,z1];rw[aB ⟨trivial,by omega⟩,aB d2,aB ⟨trivial,by omega⟩,aB d3,Rx];exact aA.2 rfl
    ·simp (decide:=true) only[h,↓reduceIte];change Sq false (((some 234:Option Nat).bind _).bind _) _;simp only[aH,Tr.den,z0,z1];rw[aB ⟨trivial,by omega⟩,aB d2,aB ⟨trivial,by omega⟩,aB d3,Rw];exact aA.2 rfl
    ·simp (decide:=true) only[h,↓reduceIte];change Sq false (((some 235:Option Nat).bind _).bind _) _;simp only[aH,Tr.den,z0,z1];rw[aB ⟨trivial,by omega⟩,aB d2,aB ⟨trivial,by omega⟩,aB d3,Oe];exact aA.2 rfl
    ·simp (decide:=true) only[h,↓reduceIte];change Sq false (((some 236:Option Nat).bind _).bind _) _;simp only[aH,Tr.den,z0,z1];rw[aB ⟨trivial,by omega⟩,aB d2,aB ⟨trivial,by omega⟩,aB d3];exact Sq.bind (fun v:Int×Int×ByteArray=>(⟨v.1,v.2.1,v.2.2⟩:aE)=bop 19 (b6.getD 0 default) (b6.getD 1 default)) (Sq.bind _ (aJC _) fun v hv=>aA.2 hv) fun v hv=>aA.2 hv
theorem bBY{fs:List aI}{tm:Int}{n:Nat}{pts:List Int}(h1:row.length=nc)(h2:ps.length=np)(h3:∀ v,v∈row->Sm v)(h4:∀ v,v∈ps->Sm v)(he:OkE fs nc np n e)
  (hr:TyR cs row)(hp:TyR pts ps)(hf:aNT fs)(ht:TyE fs cs pts e t):TyV t (evE fs tm n row ps e)/\Sm (evE fs tm n row ps e)/\Ny ⟨fs,tm,row,ps⟩ e=some (evE fs tm n row ps e):=by
 obtain⟨v,hv,hs⟩:=(aCM fs nc np n ⟨fs,tm,row,ps⟩ e ⟨rfl,h1,h2,h3,h4⟩ he).get;have e1:=(bAH ⟨fs,tm,row,ps⟩ e).1 v hv n nc np he;have e2:=(aUJ ⟨fs,tm,row,ps⟩ e).1 v hv cs pts t hr hp hf ht;simp_all
theorem aWY{fs:List aI}{tm:Int}{l:List aE}{call:List aE->bB->aE}(ho:e.Op=0\/e.Op=1\/e.Op=2\/e.Op=6\/e.Op=7\/e.Op=20\/(8<=e.Op/\e.Op<=19))
  (h1:e.Op=6\/e.Op=7\/e.Op=20->1<=l.length)(h2:8<=e.Op/\e.Op<=19->2<=l.length)(hs:e.Op=19->(l.getD 0 default).S.size+(l.getD 1 default).S.size<=9223372036854775807)
  (hk:13<=e.Op/\e.Op<=16->∃ t,TyV t (l.getD 0 default)/\TyV t (l.getD 1 default)):bFR e l=some (opE fs tm row ps e l call):=by
 have z0:(0:Int).toNat=0:=rfl;have z1:(1:Int).toNat=1:=rfl;unfold bFR bFS opE;simp only[Tr.den,z0,z1];rcases ho with h | h | h | h | h | h | ho
 ·simp (decide:=true) only[h,↓reduceIte]; rfl
 ·simp (decide:=true) only[h,↓reduceIte]; rfl
 ·simp (decide:=true) only[h,↓reduceIte,oC,aH]
 ·have:=h1 (by omega);simp (decide:=true) only[h,↓reduceIte];rw[aB ⟨trivial,by omega⟩,oC,aH]
 ·have:=h1 (by omega);simp (decide:=true) only[h,↓reduceIte];rw[aB ⟨trivial,by omega⟩]; rfl
 ·have:=h1 (by omega);simp (decide:=true) only[h,↓reduceIte];rw[aB ⟨trivial,by omega⟩]; rfl
 ·have hl:=h2 ho;have g0:True/\(0:Int)<(l.length:Int):=⟨trivial,by omega⟩;have g1:True/\(1:Int)<(l.length:Int):=⟨trivial,by omega⟩;have hop:e.Op=8\/e.Op=9\/e.Op=10\/e.Op=11\/e.Op=12\/e.Op=13\/e.Op=14\/e.Op=15\/e.Op=16\/e.Op=17\/e.Op=18\/e.Op=19:=by omega
  unfold bop;rcases hop with h | h | h | h | h | h | h | h | h | h | h | h
  ·simp (decide:=true) only[h,↓reduceIte];rw[aB g0,aB g1]; rfl
  ·simp (decide:=true) only[h,↓reduceIte];rw[aB g0,aB g1]; rfl
  ·simp (decide:=true) only[h,↓reduceIte];rw[aB g0,aB g1]; rfl
  ·simp (decide:=true) only[h,↓reduceIte];rw[aB g0,aB g1];by_cases hz:(l.getD 1 default).N=0
   ·rw[aB (wW hz),aB hz]; rfl
   ·rw[aF (kF hz),aF hz,aB hz]; rfl
  ·simp (decide:=true) only[h,↓reduceIte];rw[aB g0,aB g1];by_cases hz:(l.getD 1 default).N=0
   ·rw[aB (wW hz),aB hz]; rfl
   ·rw[aF (kF hz),aF hz,aB hz]; rfl
  ·simp (decide:=true) only[h,↓reduceIte,oC,aH,Bool.and_true];rw[aB g0,aB g1]
  ·simp (decide:=true) only[h,↓reduceIte,oC,aH,Bool.and_true];rw[aB g0,aB g1]
  ·obtain⟨t,ha,hb⟩:=hk (by omega);simp (decide:=true) only[h,↓reduceIte,oC,aEY,aH];rw[aB g0,aB g1,Us ha hb]
  ·obtain⟨t,ha,hb⟩:=hk (by omega);simp (decide:=true) only[h,↓reduceIte,oC,aEY,aH];rw[aB g0,aB g1,aJM ha hb]
  ·simp (decide:=true) only[h,↓reduceIte,oC,aH];rw[aB g0,aB g1];by_cases hz:(l.getD 0 default).N=1
   ·simp_all
   ·rw[aF (kF hz),rO.2 hz]; rfl
  ·simp (decide:=true) only[h,↓reduceIte,oC,aH];rw[aB g0,aB g1];by_cases hz:(l.getD 0 default).N=1
   ·simp_all
   ·rw[aF (kF hz),rO.2 hz]; rfl
  ·have hsz:=hs h;have hS:((l.getD 0 default).S++(l.getD 1 default).S).size=(l.getD 0 default).S.size+(l.getD 1 default).S.size:=eX;simp (decide:=true) only[h,↓reduceIte];rw[aB g0,aB g1,hS];by_cases hc:(200:Int)<(((l.getD 0 default).S.size+(l.getD 1 default).S.size:Nat):Int)
   ·have em:min 200 ((l.getD 0 default).S.size+(l.getD 1 default).S.size)=200:=by omega
    rw[aB hc,aB (by omega),aB ⟨trivial,by omega,by omega⟩,em]; rfl
   ·have em:min 200 ((l.getD 0 default).S.size+(l.getD 1 default).S.size)=(l.getD 0 default).S.size+(l.getD 1 default).S.size:=by omega
    rw[aF hc,aB (by omega),aB ⟨trivial,by omega,by omega⟩,em]; rfl
structure EvI (fs:List aI)(tm:Int)(n:Nat)(row ps:List aE)(e:bB)(cs pts:List Int)(t:Int)(nc np:Nat):Prop where
 h1:row.length=nc
 h2:ps.length=np
 h3:∀ v,v∈row->Sm v
 h4:∀ v,v∈ps->Sm v
 ok:OkE fs nc np n e
 hr:TyR cs row
 hp:TyR pts ps
 hf:aNT fs
 ty:TyE fs cs pts e t
theorem EvI.val{fs:List aI}{tm:Int}{n:Nat}{pts:List Int}(h:EvI fs tm n row ps e cs pts t nc np):
  TyV t (evE fs tm n row ps e)/\Sm (evE fs tm n row ps e)/\Ny ⟨fs,tm,row,ps⟩ e=some (evE fs tm n row ps e):=bBY h.h1 h.h2 h.h3 h.h4 h.ok h.hr h.hp h.hf h.ty
theorem aXR{fs:List aI}{tm:Int}{n:Nat}{row ps:List aE}{e:bB}{cs pts:List Int}{t:Int}{nc np:Nat}(h:EvI fs tm n row ps e cs pts t nc np):Sp (bGT fs e tm row ps) (fun r=>r.V=evE fs tm n row ps e):=by
 have key:Sp (bGT fs e tm row ps) (fun r=>r.V=(Ny ⟨fs,tm,row,ps⟩ e).getD default):=by
  refine Hm (C:=fun (a:(List aI)×bB×Int×(List aE)×(List aE)) (x:Option fQ)=>Con Proofs.Tryz.prog 185 [.t (eL aV (a.1)),.t (cQ a.2.1),tI a.2.2.1,tV a.2.2.2.1,tV a.2.2.2.2] x (fun (y:fQ)=>.t (rQ y))) (fun a=>⟨bL Proofs.Tryz.func185 (by rfl),fun _ h=>nomatch h⟩)
   (fun rec a=>aOH rec a.1 a.2.1 a.2.2.1 a.2.2.2.1 a.2.2.2.2) (fun rec a=>aFG rec a.1 a.2.1 a.2.2.1 a.2.2.2.1 a.2.2.2.2)
   (fun n a=>∃ cs pts t nc np,EvI a.1 a.2.2.1 n a.2.2.2.1 a.2.2.2.2 a.2.1 cs pts t nc np) (fun a r=>r.V=(Ny ⟨a.1,a.2.2.1,a.2.2.2.1,a.2.2.2.2⟩ a.2.1).getD default) (fun b r n1 a ha hrec=>?_) true n (fs,e,tm,row,ps) ⟨cs,pts,t,nc,np,h⟩
  clear h fs tm n row ps e cs pts t nc np;obtain⟨fs,e,tm,row,ps⟩:=a;obtain⟨cs,pts,t,nc,np,h⟩:=ha;simp only at h ⊢;have hval:=h.val;have hh:=h.ok;have hty:=h.ty;cases hh with
  | mk k' hm hs hl ho hlt hA c3 c4 c1 c2 c21 c22 hb=>
  cases hty with
  | mk ts tl tb to tA o0 o1 o2 ob o3 o4 o21 o22 oc=>
  obtain⟨m,rfl⟩:∃ m,n1=m+1:=⟨n1-1,by grind⟩;have hsub:∀ i,i<e.Args.length->EvI fs tm m row ps (e.Args.getD i default) cs pts (ts.getD i default) nc np:=fun i hi=>
   ⟨h.h1,h.h2,h.h3,h.h4,(hA i hi).up (by grind),h.hr,h.hp,h.hf,tA i hi⟩
  have hr:∀ i,i<e.Args.length->Sq b (r.1 (fs,e.Args.getD i default,tm,row,ps)) (fun x=>x.V=evE fs tm m row ps (e.Args.getD i default)):=fun i hi=>by have q:=hrec m (fs,e.Args.getD i default,tm,row,ps) (Nat.lt_succ_self m) ⟨cs,pts,_,nc,np,hsub i hi⟩;refine q.imp fun x hx=>?_;rw[hx];simp only;rw[(hsub i hi).val.2.2]; rfl
  rw[hval.2.2];show Sq b _ fun x:fQ=>x.V=evE fs tm (m+1) row ps e;unfold aOH;by_cases h21:e.Op=21
  ·have hl3:=c21 h21;rw[evE,aB h21];simp only[h21,Tr.den];rw[aB (by decide),aB (by omega)];refine Sq.bind _ (hr 0 (by omega)) fun v1 h1=>?_;rw[<-h1];by_cases hz:v1.V.N=1
   ·rw[aB (wW hz),aB hz];simp only[aH];rw[aB (by omega)];refine Sq.bind _ (hr 1 (by omega)) fun v2 h2=>aA.2 h2
   ·rw[aF (kF hz),aF hz];simp only[aH];rw[aB (by omega)];refine Sq.bind _ (hr 2 (by omega)) fun v2 h2=>aA.2 h2
  ·have eE:evE fs tm (m+1) row ps e=opE fs tm row ps e (e.Args.map (evE fs tm m row ps)) (fun vs b=>evE fs tm m [] vs b):=by rw[evE,aF h21]
   rw[eE];simp only[Tr.den];rw[aF (by simp_all)];refine cD.2 (jN (fun s:Int×List aE×Int=>s.2.2) e.Args.length (by omega) (fun s=>s.2.1=(e.Args.take s.2.2.toNat).map (evE fs tm m row ps)) (fun s k hI hk hkN=>?_) rfl rfl);obtain⟨v4,b6,v5⟩:=s;simp only at hk hI;subst hk;rw[aS]at hI;subst hI;unfold aEC;simp only[Tr.den,aS];by_cases hc:k<e.Args.length
   ·rw[aB (bI (by omega)),aB (by omega)];refine Sq.bind _ (hr k hc) fun v hv=>?_;rw[aB (by grind)];refine aA.2 ⟨rfl,hc,?_⟩;simp only;rw[aL (by omega),aS,aQ hc,rN,hv]; rfl
   ·rw[aF (bJ (by omega)),fT (by omega)];refine aA.2 ?_;have hel:∀ i,i<e.Args.length->(e.Args.map (evE fs tm m row ps)).getD i default=evE fs tm m row ps (e.Args.getD i default):=fun i hi=>aPP hi;have hml:(e.Args.map (evE fs tm m row ps)).length=e.Args.length:=mS _;have hmS:∀ v,v∈e.Args.map (evE fs tm m row ps)->Sm v:=fun v hv=>by obtain⟨i,hi,rfl⟩:=Oy hv;rw[<-dF hi,hel i (by omega)];exact(hsub i (by omega)).val.2.1
    have hmT:TyR ts (e.Args.map (evE fs tm m row ps)):=fun i hi=>by rw[hel i (by omega)];exact(hsub i (by omega)).val.1
    generalize e.Args.map (evE fs tm m row ps)=b6 at hel hml hmS hmT;show Sq b _ _;simp only[sel];have h1:=h.h1;have h2:=h.h2;have hop:e.Op=3\/e.Op=4\/e.Op=5\/e.Op=22\/(e.Op=0\/e.Op=1\/e.Op=2\/e.Op=6\/e.Op=7\/e.Op=20\/(8<=e.Op/\e.Op<=19)):=by omega
    rcases hop with g | g | g | g | g
    ·have:=c3 g;simp (decide:=true) only[g,↓reduceIte];rw[aB (by omega)];refine aA.2 ?_;unfold opE;simp_all
    ·have:=c4 g;simp (decide:=true) only[g,↓reduceIte];rw[aB (by omega)];refine aA.2 ?_;unfold opE;simp_all
    ·simp (decide:=true) only[g,↓reduceIte];refine aA.2 ?_;unfold opE;simp (decide:=true) only[g,↓reduceIte];rfl
    ·obtain⟨q1,q2,q3⟩:=c22 g;obtain⟨p1,p2,p3⟩:=o22 g;simp (decide:=true) only[g,↓reduceIte];rw[aB (by omega)];have hI:EvI fs tm m [] b6 (fs.getD e.N.toNat default).Body [] (fs.getD e.N.toNat default).Params (fs.getD e.N.toNat default).Result 0 e.Args.length:=
      ⟨rfl,hml,fun v hv=>by grind,hmS,(hb g).up (by omega),fun i hi=>by grind,p2▸hmT,h.hf,h.hf _ (by omega)⟩
     refine Sq.bind _ (hrec m (fs,(fs.getD e.N.toNat default).Body,tm,[],b6) (Nat.lt_succ_self m) ⟨_,_,_,_,_,hI⟩) fun x hx=>aA.2 ?_;simp only at hx ⊢;rw[hx,hI.val.2.2];unfold opE;simp_all
    ·have n3:e.Op≠3:=by omega
     have n4:e.Op≠4:=by omega
     have n5:e.Op≠5:=by omega
     have n22:e.Op≠22:=by omega
     rw[aF (kF n3),aF (kF n4),aF (kF n5),aF (kF n22)];rw[aWY (fs:=fs) (tm:=tm) (row:=row) (ps:=ps) (call:=fun vs b=>evE fs tm m [] vs b) g (fun q=>by simp_all) (fun q=>by omega) (fun q=>?_) (fun q=>?_)]
     ·exact aA.2 rfl
     ·have:=c2 (by omega);have s0:Sm (b6.getD 0 default):=vN hmS (by omega);have s1:Sm (b6.getD 1 default):=vN hmS (by omega);unfold Sm at s0 s1;omega
     ·have:=c2 (by omega);refine⟨ts.getD 0 default,hmT 0 (by omega),?_⟩;rw[oc (by omega)];exact hmT 1 (by omega)
 rw[h.val.2.2]at key;exact key
theorem AOk.filter{n:aG}{ta:List Int}{a:List aC}(h:AOk n ta a)(p:aC->Bool):AOk n ta (a.filter p):=
 ⟨h.can.filter p,h.ok.sub fun x hx=>(iB.1 hx).1,gQ (qX _ _) h.len,fun d hd=>h.pos d (iB.1 hd).1,fun d hd=>h.row d (iB.1 hd).1⟩
theorem Ko(n:aG)(l:List aC):MP (dM n 0 l):=⟨qH n 0 l,fun k r h=>by rw[mE]at h;grind⟩
theorem lM.map_eq{n:aG}{a:List aC}{m:KP}(h:lM n a t m):m=dM n 0 (a.filter (aft t)):=
 h.mp.ext (Ko n _) fun k=>by rw[h.val]; exact(wP n 0 k _).symm
theorem bKV{n:aG}{ta:List Int}{a:List aC}{m:KP}(fs:List aI)(cl:Int)(h:lM n a t m)(ha:AOk n ta a):Rq fs n cl m=some (a.filter (aft t),m):=by have hl:=h.allLen;have:=ha.len;rw[Jw fs n cl m h.mp (fun k=>by rw[h.val]; exact ha.ok.okD.sub vK) (by omega),h.kept ha.can]
theorem aXB{ta:List Int}(hla:ta.length<=12)(h:okL 40 jQ l)(hr:∀ d,d∈l->d.Row.length=ta.length):okZ l:=fun d hd=>by have h1:=(h.2 d hd).2.1.2;refine⟨by simp_all,fun v hv=>?_,fun v hv=>(h1 v hv).2.2⟩;have:=h1 v hv;exact⟨this.1,this.2.1,gQ this.2.2 (by omega)⟩
theorem aYT{fs:List aI}{m:Nat}(hf:okL m fJ fs)(h:G82 fs=some true)(he:eH e)(ht:De fs cs [] e=some (t,true))
  (tm:Int)(hr:row.length=cs.length)(hs:∀ v,v∈row->Sm v)(hT:TyR cs row):aZK fs e tm row=some ((sQ fs e tm row).getD default):=by
 obtain⟨hl,hb⟩:=Dt hf;obtain⟨k,hk⟩:=Kt hl hb h he.bnd ht;have h1:=(bGD fs hl hb).1 _ h rfl;have h2:=(aBV fs cs [] e he.bnd).1 _ ht rfl;have hI:EvI fs tm k row [] e cs [] t cs.length 0:=⟨hr,rfl,hs,fun v hv=>by (cases hv),hk,hT,fun i hi=>absurd hi (sX i),h1,h2⟩;obtain⟨r,hr1,hr2⟩:=(aXR hI).get;have e1:sQ fs e tm row=some (evE fs tm k row [] e):=by unfold sQ aOJ;simp only[Tr.den];rw[hI.val.2.2]; rfl
 unfold aZK bHN;simp only[Tr.den];simp_all
theorem AOk.gr{fs:List aI}{n:aG}{ta:List Int}{a:List aC}(h:AOk n ta a)(hR:rL fs n ta)(hl:okL 104 fJ fs)(hn:iR n)(hT:∀ d,d∈a->TyR ta d.Row):Fp fs n a:=by have hS:=hn.2.2.2.2.2.2.2.2.2.2.2.2.2.2.1;refine⟨h.ok,fun d hd p hp=>?_,fun d hd=>by have:=(h.pos d hd).2; omega,by have:=h.len; omega⟩;exact aYT hl hR.fr (hS.2 _ (aT hp)).1 (hR.ty p hp) d.Time (h.sm d hd).1 (h.sm d hd).2 (hT d hd)
theorem Rb{n:aG}(hn:lN n):G44 n=some (n.Size-1,0):=by
 have hz:=hn.size;have hq:=hn.seq;have h83:G83 n=some true:=by unfold G83 T83;simp only[Tr.den,hn.op,aEF];grind
 unfold G44 T44;simp only[Tr.den,h83,hn.op];simp (decide:=true) only[↓reduceIte,aH];rw[bS (by omega) (by omega)]
theorem Ad(fs:List aI){n:aG}(hf:fs.length<=1048576)(hn:iR n):Zh fs n=some ⟨fs,n,[],-1⟩:=by have hK:=hn.2.2.2.2.2.2.2.2.1.1;have hS:=hn.2.2.2.2.2.2.2.2.2.2.2.2.2.2.1.1;unfold Zh aAQ;simp only[Tr.den,kS,Ep];rw[aB (by omega),aB (by omega),aB (by omega)]
theorem AOk.okY{n:aG}{ta:List Int}{a:List aC}(h:AOk n ta a)(hz:okZ a):okY a:=⟨h.ok.okD,hz,h.ok.t,by have:=h.len; omega⟩
theorem Ug{n:aG}{ta:List Int}{a:List aC}{c:Int}{m:KP}(fs:List aI)(h:lM n a t m)(ha:AOk n ta a)(hz:okZ a)(hc:fF c):Nu fs n c m=some (dU c++eJ (a.filter (aft t)),m):=by have hf:=ha.filter (aft t);have hy:=hf.okY (hz.sub fun x hx=>(iB.1 hx).1);have hs:=bY hc;have hb:=Eo hy;unfold Nu Xl;simp only[Tr.den];rw[oX hc];simp only[aH];rw[bKV fs c h ha];simp only[aH];rw[bED hy,jS hf.can];simp only[aH];rw[aB (by omega)]
theorem Ti{n:aG}{ta:List Int}{a:List aC}{c:Int}(fs:List aI)(N:aG)(ha:AOk n ta a)(hz:okZ a)(hc:fF c):Rr ⟨fs,N,a,c⟩=some (dU c++eJ a):=by have hy:=ha.okY hz;have hs:=bY hc;have hb:=Eo hy;unfold Rr aAN;simp only[Tr.den];rw[kY hc];simp only[aH];rw[bDD hy,jS ha.can];simp only[aH];rw[aB (by omega)]
theorem aSO(c:Int)(fs:List aI)(n:aG)(L:List aC)(cl:Int)(h:c<=cl):Az c ⟨fs,n,L,cl⟩=some (L,cl):=by unfold Az Ou;simp only[Tr.den];rw[aB (bI h)]
theorem aYO(c:Int)(fs:List aI){n:aG}{ta:List Int}(hP:lN n){L:List aC}(hA:AOk n ta L)(cl:Int)(h:cl<c)(h0:0<=c)(h1:c<=2199023255552):Az c ⟨fs,n,L,cl⟩=some (L.filter (aft (c-(n.Size-1))),c):=by have hz:=hP.size;have hl:=hA.len;unfold Az Ou;simp only[Tr.den];rw[aF (bJ (by omega)),Rb hP];simp only[aH];rw[bS (by omega) (by omega),aTZ L _ hA.ok.okD hA.can (by omega)];rfl
theorem Wb{ta:List Int}{a:List aC}(h:∀ d,d∈a->TyR ta d.Row)(h':∀ d,d∈l->TyR ta d.Row):∀ d,d∈cons (a++l)->TyR ta d.Row:=fun d hd=>by obtain⟨z,hz,e⟩:=jD hd;have e2:d.Row=z.Row:=congrArg Prod.snd e;grind
theorem aZY{fs:List aI}{n:aG}{ta:List Int}{L:List aC}(c:Int)(hP:lN n)(hA:AOk n ta L)(hA':AOk n ta (cons (L++l)))(hG:Fp fs n L)(hG':Fp fs n (cons (L++l)))(hl:okI n 0 l)(hlen:l.length<=1000):
  Nc l ⟨fs,n,L,c⟩=some (uC fs n L l,cons (L++l)):=by
 have h1:=hA.len;have h2:=hA'.len;refine Sp.eq ?_;unfold Nc Xg;simp only[Tr.den];rw[bCK L l hA.ok.okD hl.okD (by omega)];simp only[aH];refine Sq.bind _ (aLI hP hP.op hG hA.can.ts (by omega)) fun x hx=>?_;refine Sq.bind _ (aLI hP hP.op hG' hA'.can.ts (by omega)) fun y hy=>?_;obtain⟨kx,gx,rfl,lx⟩:=hx;obtain⟨ky,gy,rfl,ly⟩:=hy;have dx:=Fl (fs:=fs) hP kx L;have dy:=Fl (fs:=fs) hP ky (cons (L++l));have cx:=fG (mN fs n kx L);have cy:=fG (mN fs n ky (cons (L++l)));rw[bCJ _ _ dy.cons dx.cons (by omega)];refine aA.2 ?_
 congr 1
 have hN:okN (cons (mN fs n ky (cons (L++l)))++(cons (mN fs n kx L)).map neg):=fun z hz=>by
  rcases dC.1 hz with hz | hz
  ·exact dy.cons.n z hz
  ·obtain⟨w,hw,rfl⟩:=dZ.1 hz;exact qZ _
 refine(eO hN).ext (eO ?_) fun p=>?_
 ·have o:=Sn (fs:=fs) hP hA hl hlen hA';intro d hd;obtain⟨k,hk,hd⟩:=lT.1 hd;exact(Qb hP (oJ hA.ok).t (oJ hl.cons).t).n d hd
 ·have hall:∀ d,d∈L\/d∈l->kd n 0 d∈cU (dM n 0 (L++l)):=fun d hd=>jY.2 fun h0=>by have:d∈ofK n 0 (kd n 0 d) (L++l):=eK.2 ⟨dC.2 hd,rfl⟩;simp_all
  have hnd:(cU (dM n 0 (L++l))).Nodup:=(qH n 0 _).nodup LO.bytes;have hphi:=aRC (fs:=fs) hP hA.can hA.ok hl hnd (fun d hd=>hall d (.inr hd)) p;have e1:=Tx (fs:=fs) gx hnd (fun d hd=>hall d (.inl hd)) p;have e2:=Tx (fs:=fs) gy hnd (fun d hd=>by obtain⟨z,hz,e⟩:=jD hd;have e3:d.Row=z.Row:=congrArg Prod.snd e;grind) p;rw[eY _ p];refine Eq.trans ?_ hphi.symm;rw[eT,<-e1,<-e2];have s1:=eY (mN fs n ky (cons (L++l))) p;have s2:=eY (mN fs n kx L) p;have s3:=Oj p (cons (mN fs n kx L));have s4:W (- wt p (cons (mN fs n kx L)))=W (- wt p (mN fs n kx L)):=by
   have:=bJY (rfl:W 0=W 0) s2
   rwa [Int.zero_sub,Int.zero_sub]at this
  have:=mG s1 (s3.trans s4);rw[this]; rfl
structure TI (n:aG)(ta:List Int)(rest:List aW)(k:Nat)(m:KP)(c:Int)(L a:List aC):Prop where
 c1:-1<=c
 c2:c<=2199023255552
 A:AOk n ta a
 len:a.length<=8*k
 z:okZ a
 T:∀ d,d∈a->TyR ta d.Row
 e:L=a.filter (aft (c-(n.Size-1)))
 q:lM n L (c-(n.Size-1)) m
 f:sR ta rest a c
theorem TI.start{n:aG}{ta:List Int}{rest:List aW}(h:sR ta rest [] (-1)):TI n ta rest 0 [] (-1) [] []:=
 ⟨by omega,by omega,.nil n ta,by simp,fun d hd=>(by cases hd),fun d hd=>(by cases hd),rfl,.init n _,h⟩
theorem lM.cut{n:aG}{a:List aC}{t:Int}{m:KP}(h:lM n a t m):lM n (a.filter (aft t)) t m:=⟨h.mp,fun k=>by rw[h.val];unfold ofK;rw[rE,rE,rE];refine List.filter_congr fun d _=>?_;cases aft t d <;> simp⟩
section
variable {fs:List aI} {n:aG} {ta:List Int} {x:aW} {rest:List aW} {k:Nat} {m:KP} {c:Int} {L a:List aC}
theorem TI.AL(h:TI n ta rest k m c L a):AOk n ta L:=by rw[h.e]; exact h.A.filter _
theorem TI.ZL(h:TI n ta rest k m c L a):okZ L:=by rw[h.e]; exact h.z.sub fun x hx=>(iB.1 hx).1
theorem TI.TL(h:TI n ta rest k m c L a):∀ d,d∈L->TyR ta d.Row:=by rw[h.e]; exact fun d hd=>h.T d (iB.1 hd).1
theorem TI.LL(h:TI n ta rest k m c L a):L.filter (aft (c-(n.Size-1)))=L:=by rw[h.e]; simp_all
theorem TI.okv(h:TI n ta (x::rest) k m c L a):∀ q,okD (dV m q)/\Can (dV m q)/\(dV m q).length<=1000000:=fun q=>by rw[h.q.val];exact⟨h.AL.ok.okD.sub vK,(h.AL.can.filter _).filter _,by have:=Hw n q L (c-(n.Size-1)); have:=h.AL.len; omega⟩
theorem TI.close(hP:lN n)(h:TI n ta (x::rest) k m c L a)(hx:aUQ x=true):∃ m2 c2 L2,Ab x.C fs n c m=some (m2,c2)/\Az x.C ⟨fs,n,L,c⟩=some (L2,c2)/\TI n ta rest (k+1) m2 c2 L2 a:=by
 obtain⟨hC,hF'⟩:=h.f.1 hx;have hc1:=h.c1;have hc2:=h.c2;have hal:=h.len;by_cases hle:x.C>c
 ·rw[aB hle]at hF';refine⟨_,_,_,Ki _ fs n c m hP h.q.mp h.okv (by omega) (by omega) hC,aYO x.C fs hP h.AL c (by omega) (by omega) hC,by omega,hC,h.A,by omega,h.z,h.T,?_,(h.q.close (by omega)).cut,hF'⟩;rw[h.e]; exact aDM (by omega) a
 ·rw[aF hle]at hF';exact⟨_,_,_,Zb _ fs n c m (by omega),aSO _ fs n L c (by omega),hc1,hc2,h.A,by omega,h.z,h.T,h.e,h.q,hF'⟩
theorem TI.push(i:Int)(hR:rL fs n ta)(hl:okL 104 fJ fs)(hn:iR n)(h:TI n ta (x::rest) k m c L a)(hk:k<=100)(hx:aUQ x=false)(hok:okL 40 jQ x.L):
  ∃ r m2 L2,Ap i x.L fs n c m=some (r,m2)/\Nc x.L ⟨fs,n,L,c⟩=some (r,L2)/\okD r/\r.length<=3000000000/\TI n ta rest (k+1) m2 c L2 (cons (a++x.L)):=by
 obtain⟨hL,hD,hPs,hF'⟩:=h.f.2 hx;have hP:=hR.pn;have hz:=hP.size;have hc1:=h.c1;have hal:=h.len;have hA:=h.A;have hAL:=h.AL;have hIL:okI n 0 x.L:=bAC hR hok (fun d hd=>(hD d hd).2.2.2.1) (fun d hd=>⟨(hD d hd).2.1,(hD d hd).2.2.1⟩);have hA':AOk n ta (cons (a++x.L)):=hA.push hIL (fun d hd=>(hD d hd).2.2.2.1) (by omega) hPs;have hT':=Wb h.T (fun d hd=>(hD d hd).2.2.2.2.2:∀ d,d∈x.L->TyR ta d.Row);have hcl:=fG (a++x.L);rw[cE]at hcl;have hlen2:(cons (a++x.L)).length<=8*(k+1):=by omega
 have hft:∀ d,d∈x.L->aft (c-(n.Size-1)) d=true:=fun d hd=>bI (by grind);have eL:cons (L++x.L)=(cons (a++x.L)).filter (aft (c-(n.Size-1))):=by rw[h.e]; exact aGD hA.can hIL.n hft
 have hAL':AOk n ta (cons (L++x.L)):=by rw[eL]; exact hA'.filter _
 have hTL':∀ d,d∈cons (L++x.L)->TyR ta d.Row:=Wb h.TL (fun d hd=>(hD d hd).2.2.2.2.2:∀ d,d∈x.L->TyR ta d.Row);obtain⟨o1,o2⟩:=Sn (fs:=fs) hP hAL hIL (by omega) hAL';refine⟨_,_,_,aDB (fs:=fs) i c hP hAL (hR.ev hl hn hAL.sm) hIL (by omega) (fun d hd=>(hD d hd).1) hc1 hAL' (hR.ev hl hn hAL'.sm) h.q,
  aZY c hP hAL hAL' (hAL.gr hR hl hn h.TL) (hAL'.gr hR hl hn hTL') hIL (by omega),o1,o2,hc1,h.c2,hA',hlen2,
  (h.z.app (aXB hR.la hok fun d hd=>(hD d hd).2.2.2.1)).cons,hT',eL,h.q.push hAL.can hIL.n hft,hF'⟩
theorem TI.rows(h:TI n ta rest k m c L a)(cl:Int):Ek fs n cl m=some (W (wt fC L),m):=by have:=Oo fs cl h.q h.AL;rw[h.LL]at this; omega
theorem TI.empty(h:TI n ta rest k m c L a)(cl:Int):Iq fs n cl m=some ((L.length:Int)==0):=by
 have e:=h.q.map_eq;rw[h.LL]at e;unfold Iq Se;simp only[Tr.den]
 congr 1
 rw[e];cases hL:L with
 | nil=>rfl
 | cons d r=>
  have:kd n 0 d∈cU (dM n 0 (d::r)):=jY.2 fun h0=>by have:d∈ofK n 0 (kd n 0 d) (d::r):=eK.2 ⟨dB,rfl⟩;simp_all
  have hpos:0<(dM n 0 (d::r)).length:=by have:=List.length_pos_of_mem this;unfold cU at this; rwa [mS]at this
  rw[rO.2 (by omega),rO.2 (by grind)]
theorem TI.bytes(h:TI n ta rest k m c L a):Nu fs n c m=some (dU c++eJ L,m):=by have:=Ug fs h.q h.AL h.ZL (c:=c) ⟨by have:=h.c1; omega,by have:=h.c2; omega⟩;rw[h.LL]at this; omega
theorem TI.bytesR(h:TI n ta rest k m c L a):Rr ⟨fs,n,L,c⟩=some (dU c++eJ L):=Ti fs n h.AL h.ZL ⟨by have:=h.c1; omega,by have:=h.c2; omega⟩
end
structure RdR (n:aG)(s:ByteArray)(c:Int)(A:List aC):Prop where
 s:s=dU c++eJ A
 c1:-1<=c
 c2:c<=4398046511104
 can:Can A
 u:okU A
 nn:∀ d,d∈A->0<=d.N
 t:∀ d,d∈A->0<=d.Time/\d.Time<=2199023255552/\(0<=c->c-(n.Size-1)<d.Time)
theorem aTV{fs:List aI}{n:aG}(hf:fs.length<=1048576)(hn:iR n)(hP:lN n)(s:ByteArray)(hs:s.size<=800):
  Sp (Gu fs n s) (fun z=>∀ op,z = .inr op->∃ A,op=⟨fs,n,A,op.Closed⟩/\RdR n s op.Closed A):=by
 have h72:Ig s=some ⟨s,false⟩:=rfl;have hz:=hP.size;unfold Gu Qd;simp only[Tr.den,h72,aH];refine Sq.bind _ (Id ⟨s,false⟩ (by grind)) fun r2 hr2=>?_;have q2:r2.2.1.size<=s.size:=hr2.2.1;have h354:Yo ⟨r2.2.1,r2.2.2⟩=some (r2.2.1,⟨#[]⟩):=rfl;simp only[h354,aH];refine Sq.bind _ (bFJ r2.2.1 (by omega)) fun r4 hr4=>?_;refine Sq.bind (fun j:Bool=>j=false->r4.2=true /\ -1<=r2.1/\r2.1<=4398046511104/\(∀ d,d∈r4.1->0<=d.N)/\s=dU r2.1++r2.2.1) ?_ fun j hj=>?_
 ·refine aO (fun _=>aA.2 fun h=>by cases h) fun e1=>?_;have e1:r4.2=true:=by simp_all
  refine aO (fun _=>aA.2 fun h=>by cases h) fun e2=>?_;have e2:=fE e2;refine aO (fun _=>aA.2 fun h=>by cases h) fun e3=>?_;have e3:=fE e3;obtain⟨cA,uA,sA⟩:=hr4 e1;refine Sq.bind _ (bBX cA uA.d (by have:=uA.n; omega)) fun r6 hr6=>?_;refine aO (fun _=>aA.2 fun h=>by cases h) fun e4=>?_;have e4:=hr6 (by simp_all);have hb:=bY hr2.1;rw[kY hr2.1];simp only[aH];rw[aB (by omega)];exact aA.2 fun h=>⟨e1,by omega,by omega,e4,(iP (yQ (by simpa using h))).symm⟩
 refine aO (fun _=>aA.2 fun op h=>by cases h) fun hjf=>?_;obtain⟨e1,c1,c2,nn,hsq⟩:=hj hjf;obtain⟨cA,uA,sA⟩:=hr4 e1;rw[Rb hP];simp only[aH];have hn':=uA.n;have hW:IntKind.i64.wrap (r2.1-(n.Size-1))=r2.1-(n.Size-1):=bS (by omega) (by omega);refine Sq.bind (fun z:Unit⊕(Unit⊕bU)=>z = .inr (.inl ())\/(z = .inl ()/\∀ d,d∈r4.1->0<=d.Time/\d.Time<=2199023255552/\(0<=r2.1->r2.1-(n.Size-1)<d.Time))) ?_ fun z hz'=>?_
 ·refine cG (fun s:Int=>s) r4.1.length (by omega) (fun s=>∀ j,j<s.toNat->0<=(r4.1.getD j default).Time/\(r4.1.getD j default).Time<=2199023255552/\(0<=r2.1->r2.1-(n.Size-1)<(r4.1.getD j default).Time)) (fun s k hI hk hkN=>?_) (fun j hj=>by simp at hj) rfl;subst hk;rw[aS]at hI;unfold qE;simp only[Tr.den,aS];by_cases hc:k<r4.1.length
  ·rw[aB (bI (by omega)),aB (by omega)];refine Sq.bind (fun j:Bool=>j=false->0<=(r4.1.getD k default).Time/\(r4.1.getD k default).Time<=2199023255552/\(0<=r2.1->r2.1-(n.Size-1)<(r4.1.getD k default).Time)) ?_ fun j hj=>?_
   ·refine aO (fun _=>aA.2 fun h=>by cases h) fun g1=>?_;have g1:=fE g1;rw[aB (by omega)];refine aO (fun _=>aA.2 fun h=>by cases h) fun g2=>?_;have g2:=fE g2;refine aO (fun g3=>?_) fun g3=>aA.2 fun _=>⟨by omega,by omega,fun h=>absurd (fE g3) (by omega)⟩;rw[hW,aB (by omega)];exact aA.2 fun h=>⟨by omega,by omega,fun _=>by simp_all⟩
   ·refine aO (fun _=>aA.2 (.inl rfl)) fun h=>?_;have h:=hj h;rw[aL (by omega)];refine aA.2 ⟨rfl,hc,fun j hj=>?_⟩;grind
  ·rw[aF (bJ (by omega))];refine aA.2 (.inr ⟨rfl,fun x hx=>?_⟩);obtain⟨j,hj,rfl⟩:=sS.1 hx;grind
 ·rcases hz' with rfl | ⟨rfl,ht⟩
  ·exact aA.2 fun op h=>by cases h
  ·simp only[sel];rw[Ad fs hf hn];simp only[aH];refine aA.2 fun op h=>?_;cases h;exact⟨r4.1,rfl,by simp_all,c1,c2,cA,uA,nn,ht⟩
theorem bAQ(hc:Can l)(ho:okD l)(hn:l.length<=1000000)(hp:∀ d,d∈l->0<=d.N):G77 l=some true:=by
 unfold G77 T77;simp only[Tr.den];rw[rA l ho.r ho.n (by omega),jS hc];simp only[aH];have h1:=bE (bd:=fun s=>(Hk l s).den) (fun k=>(k:Int)) l.length (r:=.inl ()) (fun k hk=>?_) ?_
 ·refine(congrArg (fun x=>Option.bind x _) h1).trans ?_;rfl
 ·have:=hp _ (aT hk);unfold Hk;simp only[Tr.den,aS];rw[aB (bI (by omega)),aB (by omega),aF (bJ (by omega)),aL (by omega)]
 ·unfold Hk;simp only[Tr.den];rw[aF (bJ (by omega))]
theorem aGY{fs:List aI}{n:aG}(hf:fs.length<=1048576)(hn:iR n)(hP:lN n){s:ByteArray}(hs:s.size<=800){c:Int}{A:List aC}(h:RdR n s c A):Gu fs n s=some (.inr ⟨fs,n,A,c⟩):=by
 have h72:Ig s=some ⟨s,false⟩:=rfl;have hz:=hP.size;have hc1:=h.c1;have hc2:=h.c2;have hin:fF c:=⟨by omega,by omega⟩;have hA:=h.u.n;have hbs:=yZ A;have hsb:bl s=bl (dU c)++bl (eJ A):=by rw[h.s,eI]
 have h73:=sY (b:=false) hin hsb (by omega);have hmk:mkB (bl (eJ A))=eJ A:=iP (fO _);rw[hmk]at h73;have h354:Yo ⟨eJ A,false⟩=some (eJ A,⟨#[]⟩):=rfl;have hW:IntKind.i64.wrap (c-(n.Size-1))=c-(n.Size-1):=bS (by omega) (by omega);have hnb:=bY hin;have hlb:=oM h.u;unfold Gu Qd;simp only[Tr.den,h72,aH,h73,h354,aOY h.u h.can,kU,cM,cI];rw[aF (bJ (by omega)),aF (bJ (by omega)),bAQ h.can h.u.d (by omega) h.nn];simp only[aH,kU,cM,cI,kY hin];rw[aB (by omega),<-h.s];simp only[Dm,aH,cM,cI];rw[Rb hP];simp only[aH];have h1:=bE (bd:=fun s=>(qE fs n (c,eJ A,false) (A,true) (n.Size-1,0) s).den) (fun k=>(k:Int)) A.length (r:=.inl ()) (fun k hk=>?_) ?_
 ·refine(congrArg (fun x=>Option.bind x _) h1).trans ?_;simp only[aH,sel];rw[Ad fs hf hn];rfl
 ·obtain⟨t1,t2,t3⟩:=h.t _ (aT hk);unfold qE;simp only[Tr.den,aS];rw[aB (bI (by omega)),aB (by omega),aF (bJ (by omega)),aB (by omega),aF (bJ (by omega)),hW];by_cases h0:0<=c
  ·rw[aB (bI h0),aB (by omega),kN (by omega)];simp only[aH,cM,cI];rw[aL (by omega)]
  ·rw[aF (bJ h0)];simp only[aH,cM,cI];rw[aL (by omega)]
 ·unfold qE;simp only[Tr.den];rw[aF (bJ (by omega))]
theorem aGW(l:List aC)(hn:l.length<=1000000):Sp (Zg l) (fun r=>(r<0->∀ d,d∈l->0<=d.N)/\((∀ d,d∈l->0<=d.N)->r = -1)):=by
 unfold Zg Yy;simp only[Tr.den];refine Sq.bind (fun z:Unit⊕Int=>(z = .inl ()/\∀ d,d∈l->0<=d.N)\/(∃ k:Nat,z = .inr k/\¬ ∀ d,d∈l->0<=d.N)) ?_ fun z hz=>?_
 ·refine cG (fun s:Int=>s) l.length (by omega) (fun s=>∀ j,j<s.toNat->0<=(l.getD j default).N) (fun s k hI hk hkN=>?_) (fun j hj=>by simp at hj) rfl;subst hk;rw[aS]at hI;unfold Lp;simp only[Tr.den,aS];by_cases hc:k<l.length
  ·have e:bJL (l.getD k default)=some (decide ((l.getD k default).N<0)):=rfl;rw[aB (bI (by omega)),aB (by omega),e];simp only[aH];refine aO (fun h=>aA.2 (.inr ⟨k,rfl,fun q=>?_⟩)) fun h=>?_
   ·grind
   ·have h:=fE h;rw[aL (by omega)];refine aA.2 ⟨rfl,hc,fun j hj=>?_⟩;grind
  ·rw[aF (bJ (by omega))];refine aA.2 (.inl ⟨rfl,fun x hx=>?_⟩);obtain⟨j,hj,rfl⟩:=sS.1 hx;grind
 ·rcases hz with⟨rfl,hz⟩ | ⟨k,rfl,hz⟩
  ·exact aA.2 ⟨fun _=>hz,fun _=>rfl⟩
  ·exact aA.2 ⟨fun h=>absurd h (by omega),fun h=>absurd h hz⟩
theorem aRX(hc:Can l)(ho:okD l)(hn:l.length<=1000000):Sp (G69 l) (fun r=>r=true↔∀ d,d∈l->0<=d.N):=by
 unfold G69 T69;simp only[Tr.den];rw[sV l ho.r ho.n (by omega),jS hc];simp only[aH];unfold aKH Wn;simp only[Tr.den];refine Sq.bind (fun r:Bool=>r=true↔¬ ∀ d,d∈l->0<=d.N) (Sq.bind _ (aGW l hn) fun r hr=>aA.2 ?_) fun r hr=>aA.2 ?_
 all_goals grind
theorem aUT(d:aC)(b c:Int)(fs:List aI)(n:aG)(m:KP)(hb:-1<=b/\b<=100000)(hc:-1<=c/\c<=4398046511104):Sp (Fv d b fs n c m) (fun r=>r=false->0<=d.Time/\d.Time<=2199023255552/\(0<=c->c-b<d.Time)):=by have hW:IntKind.i64.wrap (c-b)=c-b:=bS (by omega) (by omega);unfold Fv Of;simp only[Tr.den];refine Sq.bind (fun r:Bool=>r=false->0<=d.Time/\d.Time<=2199023255552/\(0<=c->c-b<d.Time)) ?_ fun r hr=>aA.2 hr;refine aO (fun _=>aA.2 fun h=>by cases h) fun g1=>?_;have g1:=fE g1;refine aO (fun _=>aA.2 fun h=>by cases h) fun g2=>?_;have g2:=fE g2;refine aO (fun g3=>?_) fun g3=>aA.2 fun _=>⟨by omega,by omega,fun h=>absurd (fE g3) (by omega)⟩;rw[hW];exact aA.2 fun h=>⟨by omega,by omega,fun _=>by simp_all⟩
theorem aIS(l:List aC)(b c:Int)(fs:List aI)(n:aG)(m:KP)(hb:-1<=b/\b<=100000)(hc:-1<=c/\c<=4398046511104)(hn:l.length<=1000000):Sp (Ev l b fs n c m) (fun r=>r=false->∀ d,d∈l->0<=d.Time/\d.Time<=2199023255552/\(0<=c->c-b<d.Time)):=by
 unfold Ev Ox;simp only[Tr.den];refine Sq.bind (fun r:Int=>r<0->∀ d,d∈l->0<=d.Time/\d.Time<=2199023255552/\(0<=c->c-b<d.Time)) ?_ fun r hr=>aA.2 fun h=>hr (by simp_all);unfold Qw Sb;simp only[Tr.den];refine Sq.bind (fun z:Unit⊕Int=>(z = .inl ()/\∀ d,d∈l->0<=d.Time/\d.Time<=2199023255552/\(0<=c->c-b<d.Time))\/(∃ k:Nat,z = .inr k)) ?_ fun z hz=>?_
 ·refine cG (fun s:Int=>s) l.length (by omega) (fun s=>∀ j,j<s.toNat->0<=(l.getD j default).Time/\(l.getD j default).Time<=2199023255552/\(0<=c->c-b<(l.getD j default).Time)) (fun s k hI hk hkN=>?_) (fun j hj=>by simp at hj) rfl;subst hk;rw[aS]at hI;unfold qC;simp only[Tr.den,aS];by_cases hc':k<l.length
  ·rw[aB (bI (by omega)),aB (by omega)];refine Sq.bind _ (aUT (l.getD k default) b c fs n m hb hc) fun r hr=>?_;refine aO (fun _=>aA.2 (.inr ⟨k,rfl⟩)) fun h=>?_;have h:=hr h;rw[aL (by omega)];refine aA.2 ⟨rfl,hc',fun j hj=>?_⟩;grind
  ·rw[aF (bJ (by omega))];refine aA.2 (.inl ⟨rfl,fun x hx=>?_⟩);obtain⟨j,hj,rfl⟩:=sS.1 hx;grind
 ·rcases hz with⟨rfl,hz⟩ | ⟨k,rfl⟩
  ·exact aA.2 fun _=>hz
  ·exact aA.2 fun h=>absurd h (by omega)
theorem bAY{fs:List aI}{n:aG}(hP:lN n)(s:ByteArray)(hs:s.size<=800)(hno:¬ ∃ c A,RdR n s c A):Hq fs n s=some (.inl ()):=by
 have h65:Gx s=some ⟨s,false⟩:=rfl;have hz:=hP.size;refine Sp.eq ?_;unfold Hq Pg;simp only[Tr.den];rw[uJ];simp only[aH,h65];refine Sq.bind _ (Gs ⟨s,false⟩ (by grind)) fun r3 hr3=>?_;have q3:r3.2.1.size<=s.size:=hr3.2.1;have h355:Yj ⟨r3.2.1,r3.2.2⟩=some (r3.2.1,⟨#[]⟩):=rfl;simp only[h355,aH];refine Sq.bind _ (bHK r3.2.1 (by omega)) fun r5 hr5=>?_;have hb:=bY hr3.1;refine Sq.bind (fun j:Bool=>j=false->r5.2=true /\ -1<=r3.1/\r3.1<=4398046511104/\(∀ d,d∈r5.1->0<=d.N)/\s=dU r3.1++r3.2.1) ?_ fun j hj=>?_
 ·refine aO (fun _=>aA.2 fun h=>by cases h) fun e1=>?_;have e1:r5.2=true:=by simp_all
  rw[oX hr3.1];simp only[aH];rw[aB (by omega)];refine aO (fun _=>aA.2 fun h=>by cases h) fun e4=>?_;have e4:s=dU r3.1++r3.2.1:=(iP (yQ (by simp_all))).symm;refine aO (fun _=>aA.2 fun h=>by cases h) fun e2=>?_;have e2:=fE e2;refine aO (fun _=>aA.2 fun h=>by cases h) fun e3=>?_;have e3:=fE e3;obtain⟨cA,uA,sA⟩:=hr5 e1;refine Sq.bind _ (aRX cA uA.d (by have:=uA.n; omega)) fun r8 hr8=>aA.2 fun h=>⟨e1,by omega,by omega,hr8.1 (by simpa using h),e4⟩
 refine aO (fun _=>aA.2 rfl) fun hjf=>?_;obtain⟨e1,c1,c2,nn,hsq⟩:=hj hjf;obtain⟨cA,uA,sA⟩:=hr5 e1;rw[Mz hP];simp only[aH];refine Sq.bind _ (aIS r5.1 (n.Size-1) r3.1 fs n [] (by omega) ⟨c1,c2⟩ (by have:=uA.n; omega)) fun r10 hr10=>?_;refine aO (fun _=>aA.2 rfl) fun h=>?_;exact absurd ⟨r3.1,r5.1,⟨by simp_all,c1,c2,cA,uA,nn,hr10 h⟩⟩ hno
theorem aZB{c:Int}(fs:List aI)(n:aG)(m:KP)(h0:0<=d.Time)(h1:d.Time<=2199023255552)(h:0<=c->IntKind.i64.wrap (c-b)<d.Time):Fv d b fs n c m=some false:=by unfold Fv Of;simp only[Tr.den];grind
theorem aHG(l:List aC){c:Int}(fs:List aI)(n:aG)(m:KP)(h:∀ d,d∈l->0<=d.Time/\d.Time<=2199023255552/\(0<=c->IntKind.i64.wrap (c-b)<d.Time))(hn:l.length<=1000000000000):Ev l b fs n c m=some false:=by
 have e:Qw l b fs n c m=some (-1):=by
  unfold Qw Sb;simp only[Tr.den];have h1:=bE (bd:=fun s=>(qC l b fs n c m s).den) (fun k=>(k:Int)) l.length (r:=.inl ()) (fun k hk=>?_) ?_
  ·refine(congrArg (fun x=>Option.bind x _) h1).trans ?_;rfl
  ·obtain⟨q1,q2,q3⟩:=h _ (aT hk);unfold qC;simp only[Tr.den,aS];rw[aB (bI (by omega)),aB (by omega),aZB fs n m q1 q2 q3];simp only[aH,cM,cI];rw[aL (by omega)]
  ·unfold qC;simp only[Tr.den];rw[aF (bJ (by omega))]
 unfold Ev Ox;simp only[Tr.den];rw[e];rfl
theorem bIH(l:List aC)(fs:List aI)(n:aG)(c:Int)(m:KP):aLX l fs n c m=Rz l fs n c m:=by
 have e:∀ s,(Kl l fs n c m s).den=(pN l fs n c m s).den:=by rintro⟨x,y⟩;rfl
 rfl
theorem aJI{fs:List aI}{n:aG}(hP:lN n){s:ByteArray}(hs:s.size<=800){c:Int}{A:List aC}(h:RdR n s c A)(hi:okI n 0 A):Hq fs n s=some (.inr (fs,n,c,dM n 0 A)):=by
 have h65:Gx s=some ⟨s,false⟩:=rfl;have hz:=hP.size;have hk:=hP.key;have hc1:=h.c1;have hc2:=h.c2;have hin:fF c:=⟨by omega,by omega⟩;have hA:=h.u.n;have hsb:bl s=bl (dU c)++bl (eJ A):=by rw[h.s,eI]
 have h66:=uF (b:=false) hin hsb (by omega);have hmk:mkB (bl (eJ A))=eJ A:=iP (fO _);rw[hmk]at h66;have h355:Yj ⟨eJ A,false⟩=some (eJ A,⟨#[]⟩):=rfl;have hW:IntKind.i64.wrap (c-(n.Size-1))=c-(n.Size-1):=bS (by omega) (by omega);have hnb:=bY hin;have hlb:=oM h.u;have h69:G69 A=some true:=by obtain⟨r,hr,hr2⟩:=(aRX h.can h.u.d (by omega)).get;rw[hr,hr2.2 h.nn]
 unfold Hq Pg;simp only[Tr.den];rw[uJ];simp only[aH,h65,h66,h355,aOB h.u h.can,kU,cM,cI,oX hin];rw[aB (by omega),<-h.s];simp only[Dm,cM,cI];rw[aF (bJ (by omega)),aF (bJ (by omega)),h69];simp only[aH,kU,cM,cI];rw[Mz hP];simp only[aH];rw[aHG A fs n [] (fun d hd=>⟨(h.t d hd).1,(h.t d hd).2.1,fun q=>by rw[hW]; exact(h.t d hd).2.2 q⟩) (by omega)];simp only[aH,cM,cI];rw[bIH,Kv A fs n c [] hi (by omega) (by omega)];rfl
theorem aWH(l:List aC)(types:List Int)(hl:l.length<=1000)(hr:∀ d,d∈l->d.Row.length<=1048576)(ht:types.length<=1048576):
  Sp (G30 l types 1000) (fun r=>r=true->∀ d,d∈l->(0<=d.Time/\d.Time<=2199023255552)/\(1<=d.N/\d.N<=5)/\d.Row.length=types.length/\TyR types d.Row):=by
 unfold G30 T30;simp only[Tr.den,cD];refine cG (fun s:Int=>s) l.length (by omega) (fun s=>∀ j,j<s.toNat->(0<=(l.getD j default).Time/\(l.getD j default).Time<=2199023255552)/\(1<=(l.getD j default).N/\(l.getD j default).N<=5)/\(l.getD j default).Row.length=types.length/\TyR types (l.getD j default).Row) (fun s k hI hk hkN=>?_) (fun j hj=>by simp at hj) rfl;subst hk;rw[aS]at hI;unfold Sa;simp only[Tr.den,aS];by_cases hc:k<l.length
 ·have hm:=aT hc;have hrl:=hr _ hm;rw[aB (bI (by omega)),rM (by omega)];simp only[aH,fZ];rw[aB (by omega)];refine Sq.bind (fun j:Bool=>j=false->((0<=(l.getD k default).Time/\(l.getD k default).Time<=2199023255552)/\(1<=(l.getD k default).N/\(l.getD k default).N<=5)/\(l.getD k default).Row.length=types.length)/\∀ i,i<(l.getD k default).Row.length->TyV ((l.getD k default).Row.getD i default).Kind ((l.getD k default).Row.getD i default)) ?_ (fun j hj=>?_)
  ·refine aO (fun _=>aA.2 fun h=>by cases h) fun q1=>?_;have q1:=fE q1;rw[aB (by omega)];refine aO (fun _=>aA.2 fun h=>by cases h) fun q2=>?_;have q2:=fE q2;rw[aB (by omega)];refine aO (fun _=>aA.2 fun h=>by cases h) fun q3=>?_;have q3:=fE q3;rw[aB (by omega)];refine aO (fun _=>aA.2 fun h=>by cases h) fun q4=>?_;have q4:=fE q4;rw[aB (by omega)];refine aO (fun _=>aA.2 fun h=>by cases h) fun q5=>?_;rw[bne_eq_false_iff_eq]at q5;rw[aB (by omega)];refine Sq.bind _ (aOL _ hrl) fun r hr=>aA.2 fun hq=>⟨⟨by omega,by omega,by omega⟩,hr (by simp_all)⟩
  ·cases j with
   | true=>exact aA.2 (aA.2 fun h=>by cases h)
   | false=>
    obtain⟨⟨p1,p2,hlen⟩,hty⟩:=hj rfl;simp only[cM,cI];refine cD.2 ?_;refine cG (fun s:Int=>s) types.length (by omega) (fun s=>∀ i:Nat,(i:Int)<s->((l.getD k default).Row.getD i default).Kind=types.getD i default) (fun s q hI2 hq hqN=>?_) (fun i hi=>absurd hi (by omega)) rfl;subst hq;unfold Ie;simp only[Tr.den,aS];by_cases hc2:q<types.length
    ·rw[aB (bI (by omega)),aB (by omega),aB (by omega),aB (by omega)];refine aO (fun _=>aA.2 (aA.2 (aA.2 fun h=>by cases h))) fun hne=>?_;rw[bne_eq_false_iff_eq]at hne;refine aA.2 ⟨rfl,hc2,fun i hi=>?_⟩;rw[aL (by omega)]at hi;grind
    ·rw[aF (bJ (by omega))];refine aA.2 (aA.2 ?_);rw[aL (by omega)];refine⟨rfl,hc,fun j hj=>?_⟩;rw[aS]at hj;by_cases hjk:j=k
     ·subst hjk;refine⟨p1,p2,hlen,fun i hi=>?_⟩;have h1:=hty i (by omega)
      rwa [hI2 i (by omega)]at h1
     grind
 ·rw[aF (bJ (by omega))];simp only[aH,cM,cI];refine aA.2 (aA.2 fun _ x hx=>?_);obtain⟨j,hj,rfl⟩:=sS.1 hx;grind
theorem RdR.fit{fs:List aI}{n:aG}{ta:List Int}{s:ByteArray}{c:Int}{A:List aC}(h:RdR n s c A)(hs:s.size<=800)(hR:rL fs n ta)
  (hF:∀ d,d∈A->(0<=d.Time/\d.Time<=2199023255552)/\(1<=d.N/\d.N<=5)/\d.Row.length=ta.length/\TyR ta d.Row):AOk n ta A/\okZ A:=by
 have hla:=hR.la;have hlen:A.length<=800:=by have h1:=congrArg ByteArray.size h.s;rw[eX]at h1;have h2:=congrArg List.length (yZ A);unfold aMX at h2;rw[bZ,cE]at h2;have:=Yi A;omega
 refine⟨⟨h.can,⟨fun d hd v hv=>?_,fun d hd q hq=>?_,fun d hd=>?_,fun d hd=>(hF d hd).1,h.u.d.n⟩,by omega,fun d hd=>?_,fun d hd=>(hF d hd).2.2.1⟩,fun d hd=>⟨by simp_all,h.u.vs hd,fun v hv=>by have:=(h.u.v d hd v hv).s; omega⟩⟩
 ·exact h.u.vs hd v hv
 ·have:=hR.key q hq;simp_all
 all_goals grind
theorem aHX(fs:List aI)(n:aG)(ta:List Int)(acts:List aW)(s:ByteArray)(hl:okL 104 fJ fs)(hn:iR n)(ht:okL 8 eZ ta)(hok:okL 40 dK acts)(hss:nH s):aFS fs n ta acts s=some true:=by
 unfold aFS bDM;simp only[Tr.den];rw[aXP];simp only[aH];refine Sp.eq ?_;refine Sq.bind _ (Sq.of (bAK fs n ta acts 25 (by omega) hl hn ht hok)) fun r hr=>?_;cases r with
 | false=>exact aA.2 rfl
 | true=>
  obtain⟨hR,hlen,hF⟩:=hr rfl;have hP:=hR.pn;have hz:=hP.size;simp only[kU,cM,cI,aH];refine aO (fun _=>aA.2 rfl) fun hs=>?_;have hs:=fE hs;have hs:s.size<=800:=by omega
  rw[uJ,Ad fs hl.1 hn];simp only[aH];refine Sq.bind (fun z:Unit⊕Bool=>z = .inl ()) ?_ fun z hz'=>?_
  ·refine cG (fun s:KP×Int×List aC×Int×Int=>s.2.2.2.2) acts.length (by omega) (fun s=>s.2.2.2.1=s.2.1/\∃ a,TI n ta (acts.drop s.2.2.2.2.toNat) s.2.2.2.2.toNat s.1 s.2.1 s.2.2.1 a) (fun s k hI hk hkN=>?_) ⟨rfl,[],by simpa using TI.start hF⟩ rfl;obtain⟨m,c,L,c9,v⟩:=s;obtain⟨ec,a,hT⟩:=hI;simp only at hk ec hT;subst hk ec;rw[aS]at hT;unfold aCN;simp only[Tr.den,aS];by_cases hc:k<acts.length
   ·have hok':=hok.2 _ (aT hc);rw[cP hc]at hT;rw[aB (bI (by omega)),aB (by omega)];refine Sq.bind (fun z:(KP×Int×List aC×Int)⊕((KP×Int×List aC×Int×Int)⊕(Unit⊕Bool))=>∃ m2 c2 L2 a2,z = .inl (m2,c2,L2,c2)/\TI n ta (acts.drop (k+1)) (k+1) m2 c2 L2 a2) ?_ fun z hz'=>?_
    ·refine aO (fun h3=>?_) (fun h3=>?_)
     ·obtain⟨m2,c2,L2,e1,e2,hT2⟩:=hT.close (fs:=fs) hP h3;rw[aB (by omega),e1];simp only[aH];rw[aB (by omega),e2];exact aA.2 ⟨_,_,_,_,rfl,hT2⟩
     ·obtain⟨r,m2,L2,e1,e2,o1,o2,hT2⟩:=hT.push (acts.getD k default).C hR hl hn (by omega) h3 hok'.2.2;rw[aB (by omega),aB (by omega),e1];simp only[aH];rw[aB (by omega),e2];simp only[aH];rw[Hl r o1.r (by omega)];exact aA.2 ⟨_,_,_,_,rfl,hT2⟩
    ·obtain⟨m2,c2,L2,a2,rfl,hT2⟩:=hz';simp only[sel];have hLl:=hT2.AL.len;rw[hT2.rows (fs:=fs) c2];simp only[aH];rw[bER L2 (by omega)];simp only[aH,bne_self_eq_false,cM,cI];rw[hT2.empty (fs:=fs) c2];simp only[aH,beq_self_eq_true,kU,cM,cI];rw[hT2.bytes (fs:=fs)];simp only[aH];rw[hT2.bytesR (fs:=fs)];simp only[aH,Dm,cM,cI];rw[aL (by omega)];exact aA.2 ⟨rfl,hc,rfl,a2,by simp_all⟩
   ·rw[aF (bJ (by omega))];exact aA.2 rfl
  ·subst hz';simp only[sel];obtain⟨z,hz1,hz2⟩:=(aTV (fs:=fs) hl.1 hn hP s hs).get;rw[hz1];cases z with
   | inl u=>
    have hno:¬ ∃ c A,RdR n s c A:=by rintro⟨c,A,h⟩;have:=aGY (fs:=fs) hl.1 hn hP hs h;simp_all
    simp only[aH,sel,Tr.den];rw[bAY (fs:=fs) hP s hs hno];exact aA.2 rfl
   | inr op=>
    obtain⟨A,e,hRd⟩:=hz2 op rfl;obtain⟨c,hc⟩:∃ c,op.Closed=c:=⟨_,rfl⟩;rw[hc]at e hRd;subst e;simp only[aH,sel,Tr.den];refine Sq.bind _ (aWH A ta hRd.u.n (fun d hd=>by have:=hRd.u.r d hd; omega) ht.1) fun r34 h34=>?_;cases r34 with
    | false=>exact aA.2 rfl
    | true=>
     have hFit:=h34 rfl;obtain⟨hA,hZ⟩:=hRd.fit hs hR hFit;simp only[kU,cM,cI];rw[aJI (fs:=fs) hP hs hRd hA.ok];simp only[aH,sel,Tr.den];have hc1:=hRd.c1;have hc2:=hRd.c2;have hin:fF c:=⟨by omega,by omega⟩;have hall:A.filter (aft (c-(n.Size-1)))=A:=rW.2 fun d hd=>bI (by
      have h1:=(hRd.t d hd).1;by_cases h0:0<=c
      ·exact(hRd.t d hd).2.2 h0
      ·omega)
     have hQ:lM n A (c-(n.Size-1)) (dM n 0 A):=⟨Ko n A,fun k=>by rw[hall]; exact wP n 0 k A⟩;have h320:=Ug fs hQ hA hZ hin;rw[hall]at h320;rw[h320,aH,Ti fs n hA hZ hin];simp only[aH,yF];exact aA.2 rfl
end Go.PL
