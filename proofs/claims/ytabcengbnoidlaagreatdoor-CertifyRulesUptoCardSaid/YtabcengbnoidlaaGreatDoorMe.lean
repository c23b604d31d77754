/-
  Parts: Functions as trees: functions of the program, from their trees. Own work.
-/
import Derived.Test.YtabcengbnoidlaaGreatDoorMd
import Derived.KernelRfl
set_option maxHeartbeats 4000000
namespace Go.PL
open Go
variable {H:Hp} {N:List Nat}
def gQ(fn:Func):Code:=match fn.body with | some c=>c | none=>.skip
def Aa{Y:Type}(b:Bool)(I:Inf)(rs:List ResultVar)(ret:Y->PV)(Ht:Y->Hp)(y:Y)(e:Exit)(s:St):VT:=
 match e with
 | .normal=>.and (vt b (xQ I rs s) (some (ret y))) (vt b (iK s.hp (dF (Ht y))) (some (Ht y)))
 | .ret=>.and (vt b (xQ I rs s) (some (ret y))) (vt b (iK s.hp (dF (Ht y))) (some (Ht y)))
 | _=>bad b
section
variable {P:Program} {ti:Nat->Option eE} {k:FuncId} {fn:Func} {args:List PV} {Y:Type}
theorem uP{ret:Y->PV}{Ht:Y->Hp}(hf:P.funcs[k]? = some fn)(hI:kK P ti)(t:Tr P Y)(h1:(fn.body.isSome,Nat.ble args.length fn.ntmps)=(true,true))
  (h2:chk P ⟨ti,N,fn.ntmps,fx0,true⟩ true t (Aa true ⟨ti,N,fn.ntmps,fx0,true⟩ fn.results.toList ret Ht) kI (.c (gQ fn) []) ⟨fK args 0,H⟩=chk P ⟨ti,N,fn.ntmps,fx0,true⟩ false t (Aa false ⟨ti,N,fn.ntmps,fx0,true⟩ fn.results.toList ret Ht) kI (.c (gQ fn) []) ⟨fK args 0,H⟩)
  {y:Y}(hy:t.wpT (·=y)):fS P k args H N (pV (ret y) (Ht y)):=by
 injection h1 with h3 h4;obtain⟨c,hc⟩:=wT.1 h3;have hb:gQ fn=c:=by unfold gQ; rw[hc]
 rw[hb]at h2;refine aHI (I:=⟨ti,N,fn.ntmps,fx0,true⟩) hf hc hI rfl (fun _ _ _ _=>trivial) (fH h4) fun E hG _=>?_;refine uW (t.sound hG ⟨.nil,.nil,.nil⟩ h2 hy (Q:=aVF ⟨ti,N,fn.ntmps,fx0,true⟩ fn.results.toList (pV (ret y) (Ht y))) fun y' e s hy' he=>?_) fun e s he=>⟨s,.refl,he⟩;subst hy';refine⟨s,.refl,?_⟩;unfold Aa at he;cases e with
 | normal=>obtain⟨h5,h6⟩:=aO he; exact⟨.inl rfl,_,_,_,bE h5,bE h6,rfl,rfl⟩
 | ret=>obtain⟨h5,h6⟩:=aO he; exact⟨.inr rfl,_,_,_,bE h5,bE h6,rfl,rfl⟩
 | _=>exact(aP he).elim
theorem fS.noH{H N:_}{ret:PV}{Ht:Hp}(h:fS P k args H N (pV ret Ht)):fS P k args H N (Ret ret):=h.mono fun _ _ hr=>hr.1
theorem dR{ret:Y->PV}{Ht:Y->Hp}(hf:P.funcs[k]? = some fn)(hI:kK P ti)(t:Tr P Y)
  (h1:(fn.body.isSome,Nat.ble args.length fn.ntmps)=(true,true):=by kernel_rfl)(h3:(fn.body.isNone,fn.name == "runtime.NumGoroutine")=(false,false):=by kernel_rfl)
  (h2:chk P ⟨ti,N,fn.ntmps,fx0,true⟩ true t (Aa true ⟨ti,N,fn.ntmps,fx0,true⟩ fn.results.toList ret Ht) kI (.c (gQ fn) []) ⟨fK args 0,H⟩=chk P ⟨ti,N,fn.ntmps,fx0,true⟩ false t (Aa false ⟨ti,N,fn.ntmps,fx0,true⟩ fn.results.toList ret Ht) kI (.c (gQ fn) []) ⟨fK args 0,H⟩:=by kernel_rfl):
  cL P k args H N t.den ret Ht:=⟨bJ hf h3,fun _ hy=>uP hf hI t h1 h2 (t.of_den hy rfl)⟩
theorem zI{ret:Y->PV}{Ht:Y->Hp}(hf:P.funcs[k]? = some fn)(hI:kK P ti)(t:Tr P Y)
  (h1:(fn.body.isSome,Nat.ble args.length fn.ntmps)=(true,true):=by kernel_rfl)(h3:(fn.body.isNone,fn.name == "runtime.NumGoroutine")=(false,false):=by kernel_rfl)
  (h2:chk P ⟨ti,N,fn.ntmps,fx0,true⟩ true t (Aa true ⟨ti,N,fn.ntmps,fx0,true⟩ fn.results.toList ret Ht) kI (.c (gQ fn) []) ⟨fK args 0,H⟩=chk P ⟨ti,N,fn.ntmps,fx0,true⟩ false t (Aa false ⟨ti,N,fn.ntmps,fx0,true⟩ fn.results.toList ret Ht) kI (.c (gQ fn) []) ⟨fK args 0,H⟩:=by kernel_rfl):
  cL P k args H N (Det t) ret Ht:=⟨bJ hf h3,fun _ hy=>uP hf hI t h1 h2 (Det.ok hy)⟩
def Jo{Y:Type}(b:Bool)(I:Inf)(rs:List ResultVar)(ret:Y->PV)(Ht:Y->Hp)(tr:TypeId)(y:Option Y)(e:Exit)(s:St):VT:=
 match y,e with
 | some y,.normal=>.and (vt b (xQ I rs s) (some (ret y))) (vt b (iK s.hp (dF (Ht y))) (some (Ht y)))
 | some y,.ret=>.and (vt b (xQ I rs s) (some (ret y))) (vt b (iK s.hp (dF (Ht y))) (some (Ht y)))
 | none,.panic ch=>vt b ch (vU tr)
 | _,_=>bad b
theorem aAG{ret:Y->PV}{Ht:Y->Hp}{tr:TypeId}(hf:P.funcs[k]? = some fn)(hI:kK P ti)(t:Tr P (Option Y))(h1:(fn.body.isSome,Nat.ble args.length fn.ntmps)=(true,true))
  (h2:chk P ⟨ti,N,fn.ntmps,fx0,false⟩ true t (Jo true ⟨ti,N,fn.ntmps,fx0,false⟩ fn.results.toList ret Ht tr) kI (.c (gQ fn) []) ⟨fK args 0,H⟩=chk P ⟨ti,N,fn.ntmps,fx0,false⟩ false t (Jo false ⟨ti,N,fn.ntmps,fx0,false⟩ fn.results.toList ret Ht tr) kI (.c (gQ fn) []) ⟨fK args 0,H⟩)
  {y:Option Y}(hy:t.wpT (·=y)):Av P k args H N (fun r H'=>∃ z,y=some z/\r=ret z/\H'=Ht z) tr (y=none):=by
 injection h1 with h3 h4;obtain⟨c,hc⟩:=wT.1 h3;have hb:gQ fn=c:=by unfold gQ; rw[hc]
 rw[hb]at h2;refine Zd (I:=⟨ti,N,fn.ntmps,fx0,false⟩) hf hc hI rfl rfl (fun _ _ _ _=>trivial) (fH h4) fun E hG=>?_;refine uW (t.sound hG ⟨.nil,.nil,.nil⟩ h2 hy (Q:=aZH ⟨ti,N,fn.ntmps,fx0,false⟩ fn.results.toList (fun r H'=>∃ z,y=some z/\r=ret z/\H'=Ht z) tr (y=none)) fun y' e s hy' he=>?_) fun e s he=>⟨s,.refl,he⟩;subst hy';refine⟨s,.refl,?_⟩;unfold Jo at he;cases y' with
 | none=>
  cases e with
  | panic ch=>exact .inr ⟨rfl,by rw[bE he]⟩
  | _=>exact(aP he).elim
 | some z=>
  cases e with
  | normal=>obtain⟨h5,h6⟩:=aO he; exact .inl ⟨.inl rfl,_,_,_,bE h5,bE h6,z,rfl,rfl,rfl⟩
  | ret=>obtain⟨h5,h6⟩:=aO he; exact .inl ⟨.inr rfl,_,_,_,bE h5,bE h6,z,rfl,rfl,rfl⟩
  | _=>exact(aP he).elim
theorem rV{ret:Y->PV}{Ht:Y->Hp}{tr:TypeId}(hf:P.funcs[k]? = some fn)(hI:kK P ti)(t:Tr P (Option Y))
  (h1:(fn.body.isSome,Nat.ble args.length fn.ntmps)=(true,true):=by kernel_rfl)(h3:(fn.body.isNone,fn.name == "runtime.NumGoroutine")=(false,false):=by kernel_rfl)
  (h2:chk P ⟨ti,N,fn.ntmps,fx0,false⟩ true t (Jo true ⟨ti,N,fn.ntmps,fx0,false⟩ fn.results.toList ret Ht tr) kI (.c (gQ fn) []) ⟨fK args 0,H⟩=chk P ⟨ti,N,fn.ntmps,fx0,false⟩ false t (Jo false ⟨ti,N,fn.ntmps,fx0,false⟩ fn.results.toList ret Ht tr) kI (.c (gQ fn) []) ⟨fK args 0,H⟩:=by kernel_rfl):
  pD P k args H N t.den ret Ht tr:=⟨bJ hf h3,fun _ hy=>aAG hf hI t h1 h2 (t.of_den hy rfl)⟩
theorem con{ret:Y->PV}(hf:P.funcs[k]? = some fn)(hI:kK P ti)(t:Tr P Y)
  (h1:(fn.body.isSome,Nat.ble args.length fn.ntmps)=(true,true):=by kernel_rfl)(h3:(fn.body.isNone,fn.name == "runtime.NumGoroutine")=(false,false):=by kernel_rfl)
  (h2:chk P ⟨ti,[],fn.ntmps,fx0,true⟩ true t (Aa true ⟨ti,[],fn.ntmps,fx0,true⟩ fn.results.toList ret (fun _=>[])) kI (.c (gQ fn) []) ⟨fK args 0,[]⟩=chk P ⟨ti,[],fn.ntmps,fx0,true⟩ false t (Aa false ⟨ti,[],fn.ntmps,fx0,true⟩ fn.results.toList ret (fun _=>[])) kI (.c (gQ fn) []) ⟨fK args 0,[]⟩:=by kernel_rfl):
  Con P k args t.den ret:=⟨bJ hf h3,fun _ hy=>(uP hf hI t h1 h2 (t.of_den hy rfl)).noH⟩
theorem aYT{ret:Y->PV}(hf:P.funcs[k]? = some fn)(hI:kK P ti)(t:Tr P Y)
  (h1:(fn.body.isSome,Nat.ble args.length fn.ntmps)=(true,true):=by kernel_rfl)(h3:(fn.body.isNone,fn.name == "runtime.NumGoroutine")=(false,false):=by kernel_rfl)
  (h2:chk P ⟨ti,[],fn.ntmps,fx0,true⟩ true t (Aa true ⟨ti,[],fn.ntmps,fx0,true⟩ fn.results.toList ret (fun _=>[])) kI (.c (gQ fn) []) ⟨fK args 0,[]⟩=chk P ⟨ti,[],fn.ntmps,fx0,true⟩ false t (Aa false ⟨ti,[],fn.ntmps,fx0,true⟩ fn.results.toList ret (fun _=>[])) kI (.c (gQ fn) []) ⟨fK args 0,[]⟩:=by kernel_rfl):
  Con P k args (Det t) ret:=⟨bJ hf h3,fun _ hy=>(uP hf hI t h1 h2 (Det.ok hy)).noH⟩
theorem aZJ{α R:Type}[Inhabited α](l1:List PV)(c:α->List T)(xs:List α)(lo hi:Int)(l2:List PV){x:Option R}{ret:R->PV}(h:Con P k (l1 ++ .t (eL c ((xs.drop lo.toNat).take (hi-lo).toNat))::l2) x ret):
  Con P k (l1 ++ .t (.sl (hi-lo).toNat (fun q=>eF c xs (lo.toNat+q)))::l2) (if 0<=lo/\lo<=hi/\hi<=(xs.length:Int) then x else none) ret:=by
 refine⟨h.c,fun y hy=>?_⟩;split at hy
 case isFalse=>cases hy
 rename_i hc;intro F g w vs hs hv;refine h.h y hy F g w vs (by simpa using hs) fun j p v hj hvj=>?_;by_cases hj1:j=l1.length
 ·subst hj1;have hj:PV.t (eL c ((xs.drop lo.toNat).take (hi-lo).toNat))=p:=by simpa using hj
  subst hj;exact zS hc rfl F g w v (hv l1.length _ v (by simp) hvj)
 ·refine hv j p v ?_ hvj;rw[List.getElem?_append]at hj ⊢;split at hj
  ·rename_i hlt; rw[aA hlt]; exact hj
  ·rename_i hlt;rw[aF hlt];obtain⟨m,hm⟩:∃ m,j-l1.length=m+1:=⟨j-l1.length-1,by omega⟩;rw[hm]at hj ⊢;simpa using hj
theorem aUH{n:Nat}{f:Nat->List T}{l:List aD}(h:∀ F g w v,VR F g w (.t (.sl n f)) v->VR F g w (.t (eL aH l)) v):∀ F g w v,VR F g w (.t (.sl n f)) v->VR F g w (.t (.lz (.exprs l))) v:=
 fun F g w v hv=>sF (x:=.lz (.exprs l)) rfl rfl (fun _ _=>rfl) F g w v (h F g w v hv)
theorem aWI{α:Type}[Inhabited α](c:α->List T)(xs ys:List α)(m:Nat)(f2:Nat->List T)(hm:m=ys.length)(hf:(List.range m).map f2=(List.range m).map (eF c ys)):
  ∀ F g w v,VR F g w (.t (.sl (xs.length+m) (oL xs.length (eF c xs) f2))) v->VR F g w (.t (eL c (xs++ys))) v:=by
 subst hm;refine sF (x:=eL c (xs++ys)) rfl cY (fun i hi=>?_);unfold oL;split
 ·rename_i h; simp only[eF,cG,eU h]
 ·rename_i h;rw[iH hf _ (by omega)];simp only[eF,cG,eG (Nat.le_of_not_lt h)]
variable {A R:Type}
noncomputable def Jh {C:A->Option R->Prop}(c0:∀ a,C a none)(B:{f:A->Option R // ∀ a,C a (f a)}->A->Tr P R)(ok:∀ f a,C a (B f a).den):Nat->{f:A->Option R // ∀ a,C a (f a)}
 | 0=>⟨fun _=>none,c0⟩
 | n+1=>⟨fun a=>(B (Jh c0 B ok n) a).den,ok _⟩
noncomputable def kZ {C:A->Option R->Prop}(c0:∀ a,C a none)(B:{f:A->Option R // ∀ a,C a (f a)}->A->Tr P R)(ok:∀ f a,C a (B f a).den)(a:A):Option R:=Lim fun n=>(Jh c0 B ok n).1 a
theorem fP{C:A->Option R->Prop}(c0:∀ a,C a none)(B:{f:A->Option R // ∀ a,C a (f a)}->A->Tr P R)(ok:∀ f a,C a (B f a).den)(a:A):C a (kZ c0 B ok a):=by
 unfold kZ;rcases Lim.or (fun n=>(Jh c0 B ok n).1 a) with⟨y,n,hn,hl⟩ | ⟨hl,_⟩
 ·rw[hl,<-hn];exact(Jh c0 B ok n).2 a
 ·rw[hl];exact c0 a
end
end Go.PL
