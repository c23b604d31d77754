/-
  Parts: Functions as trees: functions of the program, from their trees. Own work.
-/
import Derived.Test.YtabcengbnoidlaaGreatDoorMd
import Derived.KernelRfl
set_option maxHeartbeats 4000000
namespace Go.PL
open Go
variable {H:Hp} {N:List Nat}
def gU(fn:Func):Code:=match fn.body with | some c=>c | none=>.skip
def zF{Y:Type}(b:Bool)(I:Inf)(rs:List ResultVar)(ret:Y->PV)(Ht:Y->Hp)(y:Y)(e:Exit)(s:St):VT:=
 match e with
 | .normal=>.and (vt b (yC I rs s) (some (ret y))) (vt b (iO s.hp (dK (Ht y))) (some (Ht y)))
 | .ret=>.and (vt b (yC I rs s) (some (ret y))) (vt b (iO s.hp (dK (Ht y))) (some (Ht y)))
 | _=>bad b
section
variable {P:Program} {ti:Nat->Option eG} {k:FuncId} {fn:Func} {args:List PV} {Y:Type}
theorem tQ{ret:Y->PV}{Ht:Y->Hp}(hf:P.funcs[k]? = some fn)(hI:kL P ti)(t:Tr P Y)(h1:(fn.body.isSome,Nat.ble args.length fn.ntmps)=(true,true))
  (h2:chk P ⟨ti,N,fn.ntmps,fx0,true⟩ true t (zF true ⟨ti,N,fn.ntmps,fx0,true⟩ fn.results.toList ret Ht) kR (.c (gU fn) []) ⟨fL args 0,H⟩=chk P ⟨ti,N,fn.ntmps,fx0,true⟩ false t (zF false ⟨ti,N,fn.ntmps,fx0,true⟩ fn.results.toList ret Ht) kR (.c (gU fn) []) ⟨fL args 0,H⟩)
  {y:Y}(hy:t.wpT (·=y)):fV P k args H N (pY (ret y) (Ht y)):=by
 injection h1 with h3 h4;obtain⟨c,hc⟩:=vJ.1 h3;have hb:gU fn=c:=by unfold gU; rw[hc]
 rw[hb]at h2;refine aDJ (I:=⟨ti,N,fn.ntmps,fx0,true⟩) hf hc hI rfl (fun _ _ _ _=>trivial) (fH h4) fun E hG _=>?_;refine vA (t.sound hG ⟨.nil,.nil,.nil⟩ h2 hy (Q:=aVX ⟨ti,N,fn.ntmps,fx0,true⟩ fn.results.toList (pY (ret y) (Ht y))) fun y' e s hy' he=>?_) fun e s he=>⟨s,.refl,he⟩;subst hy';refine⟨s,.refl,?_⟩;unfold zF at he;cases e with
 | normal=>obtain⟨h5,h6⟩:=aO he; exact⟨.inl rfl,_,_,_,bH h5,bH h6,rfl,rfl⟩
 | ret=>obtain⟨h5,h6⟩:=aO he; exact⟨.inr rfl,_,_,_,bH h5,bH h6,rfl,rfl⟩
 | _=>exact(aP he).elim
theorem fV.noH{H N:_}{ret:PV}{Ht:Hp}(h:fV P k args H N (pY ret Ht)):fV P k args H N (Ret ret):=h.mono fun _ _ hr=>hr.1
theorem dS{ret:Y->PV}{Ht:Y->Hp}(hf:P.funcs[k]? = some fn)(hI:kL P ti)(t:Tr P Y)
  (h1:(fn.body.isSome,Nat.ble args.length fn.ntmps)=(true,true):=by kernel_rfl)(h3:(fn.body.isNone,fn.name == "runtime.NumGoroutine")=(false,false):=by kernel_rfl)
  (h2:chk P ⟨ti,N,fn.ntmps,fx0,true⟩ true t (zF true ⟨ti,N,fn.ntmps,fx0,true⟩ fn.results.toList ret Ht) kR (.c (gU fn) []) ⟨fL args 0,H⟩=chk P ⟨ti,N,fn.ntmps,fx0,true⟩ false t (zF false ⟨ti,N,fn.ntmps,fx0,true⟩ fn.results.toList ret Ht) kR (.c (gU fn) []) ⟨fL args 0,H⟩:=by kernel_rfl):
  cO P k args H N t.den ret Ht:=⟨bL hf h3,fun _ hy=>tQ hf hI t h1 h2 (t.of_den hy rfl)⟩
theorem zW{ret:Y->PV}{Ht:Y->Hp}(hf:P.funcs[k]? = some fn)(hI:kL P ti)(t:Tr P Y)
  (h1:(fn.body.isSome,Nat.ble args.length fn.ntmps)=(true,true):=by kernel_rfl)(h3:(fn.body.isNone,fn.name == "runtime.NumGoroutine")=(false,false):=by kernel_rfl)
  (h2:chk P ⟨ti,N,fn.ntmps,fx0,true⟩ true t (zF true ⟨ti,N,fn.ntmps,fx0,true⟩ fn.results.toList ret Ht) kR (.c (gU fn) []) ⟨fL args 0,H⟩=chk P ⟨ti,N,fn.ntmps,fx0,true⟩ false t (zF false ⟨ti,N,fn.ntmps,fx0,true⟩ fn.results.toList ret Ht) kR (.c (gU fn) []) ⟨fL args 0,H⟩:=by kernel_rfl):
  cO P k args H N (Det t) ret Ht:=⟨bL hf h3,fun _ hy=>tQ hf hI t h1 h2 (Det.ok hy)⟩
def Il{Y:Type}(b:Bool)(I:Inf)(rs:List ResultVar)(ret:Y->PV)(Ht:Y->Hp)(tr:TypeId)(y:Option Y)(e:Exit)(s:St):VT:=
 match y,e with
 | some y,.normal=>.and (vt b (yC I rs s) (some (ret y))) (vt b (iO s.hp (dK (Ht y))) (some (Ht y)))
 | some y,.ret=>.and (vt b (yC I rs s) (some (ret y))) (vt b (iO s.hp (dK (Ht y))) (some (Ht y)))
 | none,.panic ch=>vt b ch (vV tr)
 | _,_=>bad b
theorem Zf{ret:Y->PV}{Ht:Y->Hp}{tr:TypeId}(hf:P.funcs[k]? = some fn)(hI:kL P ti)(t:Tr P (Option Y))(h1:(fn.body.isSome,Nat.ble args.length fn.ntmps)=(true,true))
  (h2:chk P ⟨ti,N,fn.ntmps,fx0,false⟩ true t (Il true ⟨ti,N,fn.ntmps,fx0,false⟩ fn.results.toList ret Ht tr) kR (.c (gU fn) []) ⟨fL args 0,H⟩=chk P ⟨ti,N,fn.ntmps,fx0,false⟩ false t (Il false ⟨ti,N,fn.ntmps,fx0,false⟩ fn.results.toList ret Ht tr) kR (.c (gU fn) []) ⟨fL args 0,H⟩)
  {y:Option Y}(hy:t.wpT (·=y)):zC P k args H N (fun r H'=>∃ z,y=some z/\r=ret z/\H'=Ht z) tr (y=none):=by
 injection h1 with h3 h4;obtain⟨c,hc⟩:=vJ.1 h3;have hb:gU fn=c:=by unfold gU; rw[hc]
 rw[hb]at h2;refine Zp (I:=⟨ti,N,fn.ntmps,fx0,false⟩) hf hc hI rfl rfl (fun _ _ _ _=>trivial) (fH h4) fun E hG=>?_;refine vA (t.sound hG ⟨.nil,.nil,.nil⟩ h2 hy (Q:=bAF ⟨ti,N,fn.ntmps,fx0,false⟩ fn.results.toList (fun r H'=>∃ z,y=some z/\r=ret z/\H'=Ht z) tr (y=none)) fun y' e s hy' he=>?_) fun e s he=>⟨s,.refl,he⟩;subst hy';refine⟨s,.refl,?_⟩;unfold Il at he;cases y' with
 | none=>
  cases e with
  | panic ch=>exact .inr ⟨rfl,by rw[bH he]⟩
  | _=>exact(aP he).elim
 | some z=>
  cases e with
  | normal=>obtain⟨h5,h6⟩:=aO he; exact .inl ⟨.inl rfl,_,_,_,bH h5,bH h6,z,rfl,rfl,rfl⟩
  | ret=>obtain⟨h5,h6⟩:=aO he; exact .inl ⟨.inr rfl,_,_,_,bH h5,bH h6,z,rfl,rfl,rfl⟩
  | _=>exact(aP he).elim
theorem rZ{ret:Y->PV}{Ht:Y->Hp}{tr:TypeId}(hf:P.funcs[k]? = some fn)(hI:kL P ti)(t:Tr P (Option Y))
  (h1:(fn.body.isSome,Nat.ble args.length fn.ntmps)=(true,true):=by kernel_rfl)(h3:(fn.body.isNone,fn.name == "runtime.NumGoroutine")=(false,false):=by kernel_rfl)
  (h2:chk P ⟨ti,N,fn.ntmps,fx0,false⟩ true t (Il true ⟨ti,N,fn.ntmps,fx0,false⟩ fn.results.toList ret Ht tr) kR (.c (gU fn) []) ⟨fL args 0,H⟩=chk P ⟨ti,N,fn.ntmps,fx0,false⟩ false t (Il false ⟨ti,N,fn.ntmps,fx0,false⟩ fn.results.toList ret Ht tr) kR (.c (gU fn) []) ⟨fL args 0,H⟩:=by kernel_rfl):
  oL P k args H N t.den ret Ht tr:=⟨bL hf h3,fun _ hy=>Zf hf hI t h1 h2 (t.of_den hy rfl)⟩
theorem con{ret:Y->PV}(hf:P.funcs[k]? = some fn)(hI:kL P ti)(t:Tr P Y)
  (h1:(fn.body.isSome,Nat.ble args.length fn.ntmps)=(true,true):=by kernel_rfl)(h3:(fn.body.isNone,fn.name == "runtime.NumGoroutine")=(false,false):=by kernel_rfl)
  (h2:chk P ⟨ti,[],fn.ntmps,fx0,true⟩ true t (zF true ⟨ti,[],fn.ntmps,fx0,true⟩ fn.results.toList ret (fun _=>[])) kR (.c (gU fn) []) ⟨fL args 0,[]⟩=chk P ⟨ti,[],fn.ntmps,fx0,true⟩ false t (zF false ⟨ti,[],fn.ntmps,fx0,true⟩ fn.results.toList ret (fun _=>[])) kR (.c (gU fn) []) ⟨fL args 0,[]⟩:=by kernel_rfl):
  Con P k args t.den ret:=⟨bL hf h3,fun _ hy=>(tQ hf hI t h1 h2 (t.of_den hy rfl)).noH⟩
theorem bAS{ret:Y->PV}(hf:P.funcs[k]? = some fn)(hI:kL P ti)(t:Tr P Y)
  (h1:(fn.body.isSome,Nat.ble args.length fn.ntmps)=(true,true):=by kernel_rfl)(h3:(fn.body.isNone,fn.name == "runtime.NumGoroutine")=(false,false):=by kernel_rfl)
  (h2:chk P ⟨ti,[],fn.ntmps,fx0,true⟩ true t (zF true ⟨ti,[],fn.ntmps,fx0,true⟩ fn.results.toList ret (fun _=>[])) kR (.c (gU fn) []) ⟨fL args 0,[]⟩=chk P ⟨ti,[],fn.ntmps,fx0,true⟩ false t (zF false ⟨ti,[],fn.ntmps,fx0,true⟩ fn.results.toList ret (fun _=>[])) kR (.c (gU fn) []) ⟨fL args 0,[]⟩:=by kernel_rfl):
  Con P k args (Det t) ret:=⟨bL hf h3,fun _ hy=>(tQ hf hI t h1 h2 (Det.ok hy)).noH⟩
theorem bBY{α R:Type}[Inhabited α](l1:List PV)(c:α->List T)(xs:List α)(lo hi:Int)(l2:List PV){x:Option R}{ret:R->PV}(h:Con P k (l1 ++ .t (eL c ((xs.drop lo.toNat).take (hi-lo).toNat))::l2) x ret):
  Con P k (l1 ++ .t (.sl (hi-lo).toNat (fun q=>eF c xs (lo.toNat+q)))::l2) (if 0<=lo/\lo<=hi/\hi<=(xs.length:Int) then x else none) ret:=by
 refine⟨h.c,fun y hy=>?_⟩;split at hy
 case isFalse=>cases hy
 rename_i hc;intro F g w vs hs hv;refine h.h y hy F g w vs (by simpa using hs) fun j p v hj hvj=>?_;by_cases hj1:j=l1.length
 ·subst hj1;have hj:PV.t (eL c ((xs.drop lo.toNat).take (hi-lo).toNat))=p:=by simpa using hj
  subst hj;exact Am hc rfl F g w v (hv l1.length _ v (by simp) hvj)
 ·refine hv j p v ?_ hvj;rw[List.getElem?_append]at hj ⊢;split at hj
  ·rename_i hlt; rw[aA hlt]; exact hj
  ·rename_i hlt;rw[aF hlt];obtain⟨m,hm⟩:∃ m,j-l1.length=m+1:=⟨j-l1.length-1,by omega⟩;rw[hm]at hj ⊢;simpa using hj
theorem aWX{n:Nat}{f:Nat->List T}{l:List aE}(h:∀ F g w v,VR F g w (.t (.sl n f)) v->VR F g w (.t (eL aH l)) v):∀ F g w v,VR F g w (.t (.sl n f)) v->VR F g w (.t (.lz (.exprs l))) v:=
 fun F g w v hv=>sE (x:=.lz (.exprs l)) rfl rfl (fun _ _=>rfl) F g w v (h F g w v hv)
theorem aRY{α:Type}[Inhabited α](c:α->List T)(xs ys:List α)(m:Nat)(f2:Nat->List T)(hm:m=ys.length)(hf:(List.range m).map f2=(List.range m).map (eF c ys)):
  ∀ F g w v,VR F g w (.t (.sl (xs.length+m) (pD xs.length (eF c xs) f2))) v->VR F g w (.t (eL c (xs++ys))) v:=by
 subst hm;refine sE (x:=eL c (xs++ys)) rfl cZ (fun i hi=>?_);unfold pD;split
 ·rename_i h; simp only[eF,cI,eT h]
 ·rename_i h;rw[iI hf _ (by omega)];simp only[eF,cI,eH (Nat.le_of_not_lt h)]
variable {A R:Type}
noncomputable def Jc {C:A->Option R->Prop}(c0:∀ a,C a none)(B:{f:A->Option R // ∀ a,C a (f a)}->A->Tr P R)(ok:∀ f a,C a (B f a).den):Nat->{f:A->Option R // ∀ a,C a (f a)}
 | 0=>⟨fun _=>none,c0⟩
 | n+1=>⟨fun a=>(B (Jc c0 B ok n) a).den,ok _⟩
noncomputable def lA {C:A->Option R->Prop}(c0:∀ a,C a none)(B:{f:A->Option R // ∀ a,C a (f a)}->A->Tr P R)(ok:∀ f a,C a (B f a).den)(a:A):Option R:=Lim fun n=>(Jc c0 B ok n).1 a
theorem fN{C:A->Option R->Prop}(c0:∀ a,C a none)(B:{f:A->Option R // ∀ a,C a (f a)}->A->Tr P R)(ok:∀ f a,C a (B f a).den)(a:A):C a (lA c0 B ok a):=by
 unfold lA;rcases Lim.or (fun n=>(Jc c0 B ok n).1 a) with⟨y,n,hn,hl⟩ | ⟨hl,_⟩
 ·rw[hl,<-hn];exact(Jc c0 B ok n).2 a
 ·rw[hl];exact c0 a
end
end Go.PL
