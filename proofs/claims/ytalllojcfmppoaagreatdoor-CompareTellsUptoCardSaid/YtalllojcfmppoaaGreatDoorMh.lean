/-
  Parts: The checks on programs: that they come to something, and what they tell. Own work. Fair plans: what the check tells. Own work. Carrying states over: reading what was written. Own work. Carrying states over: both ways give the same. Own work. The example of the documentation: its plans are fit. Own work. The example of the documentation: its plans are fit (printed by gen_gn.py). Own work. The law holds. Own work.
-/
import Derived.Test.YtalllojcfmppoaaGreatDoorMg
import Derived.KernelRfl
set_option maxHeartbeats 4000000
namespace Go.PL
open Go
set_option maxRecDepth 20000
variable {A B p:aD} {a b init s:ByteArray} {c:Int} {e:aE} {fs:List aO} {i k n:Nat} {l r:List Int} {ms:List aV} {ps:List ByteArray} {q:aF} {α:Type}
theorem OkI.calls{ar:Nat->Nat}{nc np:Nat}(h:OkI ar n nc np e):cH n e:=by
 induction h with
 | mk hs hl ho hA c3 c4 c1 c2 c21 c22 ih=>exact .mk (fun h=>⟨(c22 h).1,(c22 h).2.1⟩) ih
theorem Af(hl:okL 104 iQ fs)(cs ps:List Int)(he:dN e):Sp (G86 fs cs ps e) (fun r=>r.2=true->cH fs.length e):=by unfold G86 T86;simp only[Tr.den];refine Sq.bind _ (aKM fs hl) fun r _=>?_;refine aU (fun _=>aB.2 fun h=>by cases h) fun _=>?_;exact Sq.bind _ (Hc fs cs ps e he.bnd) fun y hy=>aB.2 fun h=>(hy h).calls
theorem xS(hl:okL 104 iQ fs)(cs:List Int)(he:dN e):Sp (Vp fs cs e) (fun r=>r=true->cH fs.length e):=by unfold Vp aJE;simp only[Tr.den];refine Sq.bind _ (Af hl cs [] he) fun r hr=>?_;exact Sq.bind (fun j:Bool=>j=true->cH fs.length e) (aU (fun h=>aB.2 fun _=>hr h) fun _=>aB.2 fun h=>by cases h) fun j hj=>aB.2 hj
theorem Ut(hl:okL 104 iQ fs):Sp (G82 fs) (fun r=>r=true->eI fs):=
 (Ys fs (sB hl).1 (sB hl).2).imp fun r hr h=>⟨fun i hi=>((sB hl).2 i hi).1,fun i hi=>by
  have:=((hr h).2 i hi).calls
  rwa [dC,Nat.min_eq_left (by omega)]at this,by have:=(hr h).1; omega⟩
theorem yL(hl:l.length<=1000000000):Sp (Fd l r) (fun _=>True):=by
 unfold Fd Sw;simp only[Tr.den];refine Sp.iteN (fun _=>Sp.triv) (fun h=>?_);refine Sq.bind (fun _=>True) (cB (fun s:Int=>s) l.length (by omega) (fun _=>True) (fun s k hI hk hkN=>?_) trivial rfl) fun z _=>by cases z <;> exact Sp.triv
 subst hk;unfold Px;simp only[Tr.den,aP];by_cases hc:k<l.length
 ·rw[aA (bT (by omega)),aA (by omega),aA (by omega)];exact Sp.iteN (fun _=>aB.2 trivial) (fun _=>aB.2 ⟨rfl,hc,trivial⟩)
 ·rw[aC (bW (by omega))]; exact aB.2 trivial
theorem yG{l:List cU}(hl:l.length<=1048576):Sp (rE l) (fun r=>r.length=l.length):=by
 unfold rE Ul;simp only[Tr.den];refine Sq.bind (sel (fun r=>r.length=l.length) (fun _=>False)) (cB (fun s=>s.2) l.length (by omega) (fun s=>(s.1.length:Int)=s.2) (fun s k hI hk hkN=>?_) rfl rfl) fun z hz=>?_
 ·obtain⟨v1,v2⟩:=s;simp only at hI hk;subst hk;unfold Rh;simp only[Tr.den,aP];by_cases hc:k<l.length
  ·rw[aA (bT (by omega)),aA (by omega),aA (by simp only[eJ]; omega)];refine aB.2 ⟨rfl,hc,?_⟩;simp only;rw[bF (by omega)]; simp; omega
  ·rw[aC (bW (by omega))]; exact aB.2 (by show v1.length=l.length; omega)
 ·cases z with
  | inl r=>exact aB.2 hz
  | inr y=>exact hz.elim
theorem Ih(n:Int):Sp (Ce n) (fun _=>True):=by
 unfold Ce Vv;simp only[Tr.den]
 (repeat' (first | with_reducible exact Sp.triv | with_reducible refine Sp.guard (by omega) ?_ | with_reducible refine Sp.iteD (fun _=>?_) (fun _=>?_) | with_reducible refine Sp.iteN (fun _=>?_) (fun _=>?_) | with_reducible refine Sp.iteE (fun _=>?_) (fun _=>?_) | with_reducible refine Sp.iteB (fun _=>?_) (fun _=>?_) | with_reducible refine Sp.bind (fun _=>True) ?_ (fun _ _=>?_)))
theorem aDM(s:ByteArray):Sp (aCS s) (fun _=>True):=by
 unfold aCS aJA;simp only[Tr.den];refine Sq.bind (fun _=>True) (cB (fun s:Int=>s) 3 (by omega) (fun _=>True) (fun s k hI hk hkN=>?_) trivial rfl) fun z _=>by cases z <;> exact Sp.triv
 subst hk;unfold gK;simp only[Tr.den];by_cases hc:k<3
 ·rw[aA (bT (by omega))];refine Sq.bind _ (Ih _) fun r _=>?_;exact aU (fun _=>aB.2 trivial) (fun _=>aB.2 ⟨rfl,hc,trivial⟩)
 ·rw[aC (bW (by omega))]; exact aB.2 trivial
theorem zR(h:s.size=0):s=⟨#[]⟩:=by cases s with | mk a=>cases a with | mk l=>simp[ByteArray.size]at h; subst h; rfl
theorem Hh(hs:jB s):Sp (Fy s) (fun _=>True):=by
 have hs':s.size<=1048576:=hs;unfold Fy aAV;simp only[Tr.den];refine Sq.bind (fun _=>True) ?_ (fun _ _=>?_)
 ·refine aU (fun _=>Sp.triv) (fun hz=>?_);have hpos:0<s.size:=by
   rcases Nat.eq_zero_or_pos s.size with h | h
   ·rw[zR h]at hz; simp at hz
   ·exact h
  (repeat' (first | with_reducible exact Sp.triv | with_reducible refine Sp.guard (by omega) ?_ | with_reducible refine Sp.iteD (fun _=>?_) (fun _=>?_) | with_reducible refine Sp.iteN (fun _=>?_) (fun _=>?_) | with_reducible refine Sp.iteE (fun _=>?_) (fun _=>?_) | with_reducible refine Sp.iteB (fun _=>?_) (fun _=>?_) | with_reducible refine Sp.bind (fun _=>True) ?_ (fun _ _=>?_)))
 ·refine aU (fun _=>Sp.triv) (fun _=>?_);refine Sq.bind (fun _=>True) (cB (fun s:Int=>s) s.size (by omega) (fun _=>True) (fun s' k hI hk hkN=>?_) trivial rfl) fun z _=>by cases z <;> exact Sp.triv
  subst hk;unfold Og;simp only[Tr.den];by_cases hc:k<s.size
  ·rw[aA (bT (by omega)),aA (by omega)];refine Sq.bind (fun _=>True) ?_ (fun _ _=>aU (fun _=>aB.2 trivial) (fun _=>aB.2 ⟨rfl,hc,trivial⟩))
   (repeat' (first | with_reducible exact Sp.triv | with_reducible refine Sp.guard (by omega) ?_ | with_reducible refine Sp.iteD (fun _=>?_) (fun _=>?_) | with_reducible refine Sp.iteN (fun _=>?_) (fun _=>?_) | with_reducible refine Sp.iteE (fun _=>?_) (fun _=>?_) | with_reducible refine Sp.iteB (fun _=>?_) (fun _=>?_) | with_reducible refine Sp.bind (fun _=>True) ?_ (fun _ _=>?_)))
  ·rw[aC (bW (by omega))]; exact aB.2 trivial
theorem Gr(hs:jB s):Sp (Xz s) (fun _=>True):=by
 unfold Xz aEO;simp only[Tr.den];refine Sq.bind _ (aDM s) fun _ _=>Sq.bind _ (Hh hs) fun _ _=>?_
 (repeat' (first | with_reducible exact Sp.triv | with_reducible refine Sp.guard (by omega) ?_ | with_reducible refine Sp.iteD (fun _=>?_) (fun _=>?_) | with_reducible refine Sp.iteN (fun _=>?_) (fun _=>?_) | with_reducible refine Sp.iteE (fun _=>?_) (fun _=>?_) | with_reducible refine Sp.iteB (fun _=>?_) (fun _=>?_) | with_reducible refine Sp.bind (fun _=>True) ?_ (fun _ _=>?_)))
theorem Xi{l:List cU}(hl:l.length<=1048576)(s:ByteArray):Sp (Zd l s) (fun _=>True):=by
 unfold Zd aIU;simp only[Tr.den];refine Sq.bind (fun _=>True) (cB (fun s:Int=>s) l.length (by omega) (fun _=>True) (fun s k hI hk hkN=>?_) trivial rfl) fun z _=>by cases z <;> exact Sp.triv
 subst hk;unfold sL;simp only[Tr.den];by_cases hc:k<l.length
 ·rw[aA (bT (by omega)),aA (by omega)];exact aU (fun _=>aB.2 trivial) (fun _=>aB.2 ⟨rfl,hc,trivial⟩)
 ·rw[aC (bW (by omega))]; exact aB.2 trivial
theorem aDP{l:List cU}(h:okL 40 xM l):Sp (Ta l) (fun _=>True):=by
 have hl:=h.1;unfold Ta aGX;simp only[Tr.den];refine Sq.bind (fun _=>True) (cB (fun s:Int=>s) l.length (by omega) (fun _=>True) (fun s k hI hk hkN=>?_) trivial rfl) fun z _=>by
  cases z with
  | inl r=>simp only[sel]; (repeat' (first | with_reducible exact Sp.triv | with_reducible refine Sp.guard (by omega) ?_ | with_reducible refine Sp.iteD (fun _=>?_) (fun _=>?_) | with_reducible refine Sp.iteN (fun _=>?_) (fun _=>?_) | with_reducible refine Sp.iteE (fun _=>?_) (fun _=>?_) | with_reducible refine Sp.iteB (fun _=>?_) (fun _=>?_) | with_reducible refine Sp.bind (fun _=>True) ?_ (fun _ _=>?_)))
  | inr y=>exact Sp.triv
 subst hk;unfold lN;simp only[Tr.den,aP];by_cases hc:k<l.length
 ·rw[aA (bT (by omega)),aA (by omega)];have hcl:=h.2 _ (bS hc);refine Sq.bind _ (Gr hcl.1) fun _ _=>?_;refine Sq.bind (fun _=>True) ?_ fun _ _=>aU (fun _=>aB.2 trivial) fun _=>?_
  ·refine aU (fun _=>Sp.triv) fun _=>?_;refine Sq.bind _ (Xi hl _) fun _ _=>Sp.iteN (fun _=>Sp.triv) fun _=>?_;exact Sq.bind _ (Ih _) fun _ _=>Sp.triv
  ·refine Sq.bind (fun _=>True) ?_ fun _ _=>aU (fun _=>aB.2 trivial) fun _=>aB.2 ⟨rfl,hc,trivial⟩;refine aU (fun _=>?_) fun _=>Sp.triv;refine Sp.iteN (fun _=>Sp.triv) fun _=>?_;exact Sq.bind _ (Gr hcl.2.2) fun _ _=>Sp.triv
 ·rw[aC (bW (by omega))]; exact aB.2 trivial
abbrev InN (l:List Int)(n:Nat):Prop:=∀ i,i<l.length->0<=l.getD i default/\l.getD i default<(n:Int)
theorem Ec(hl:l.length<=1048576):Sp (Ci l r) (fun b=>b=true->InN l r.length):=by
 unfold Ci aEN;simp only[Tr.den];refine Sq.bind (sel (fun _=>InN l r.length) (fun y=>y=false)) (cB (fun s:Int=>s) l.length (by omega) (fun s=>∀ i:Nat,(i:Int)<s->0<=l.getD i default/\l.getD i default<(r.length:Int)) (fun s k hI hk hkN=>?_) (fun i hi=>by omega) rfl) fun z hz=>?_
 ·subst hk;unfold Rw;simp only[Tr.den,aP];by_cases hc:k<l.length
  ·rw[aA (bT (by omega)),aA (by omega)];refine Sq.bind (fun j=>j=false->0<=l.getD k default/\l.getD k default<(r.length:Int)) ?_ fun j hj=>aU (fun _=>aB.2 rfl) fun hf=>aB.2 ⟨rfl,hc,fun i hi=>?_⟩
   ·refine Sp.iteD (fun _=>aB.2 fun h=>by cases h) fun _=>?_;rw[aA (by omega)];exact aB.2 fun hd=>by have:=jH hd; omega
   ·rw[bF (by omega)]at hi;by_cases hik:i=k
    ·subst hik; exact hj hf
    ·exact hI i (by omega)
  ·rw[aC (bW (by omega))]; exact aB.2 fun i hi=>hI i (by omega)
 ·cases z with
  | inl _=>exact aB.2 fun _=>hz
  | inr y=>exact aB.2 fun h=>by rw[show y=false from hz]at h; cases h
theorem aAY(hl:r.length<=1048576)(hr:InN r l.length):Sp (aQO l r) (fun x=>x.length=r.length):=by
 unfold aQO aMP;simp only[Tr.den];refine Sq.bind (sel (fun x=>x.length=r.length) (fun _=>False)) (cB (fun s=>s.2) r.length (by omega) (fun s=>(s.1.length:Int)=s.2) (fun s k hI hk hkN=>?_) rfl rfl) fun z hz=>?_
 ·obtain⟨v1,v2⟩:=s;simp only at hI hk;subst hk;unfold Qg;simp only[Tr.den,aP];by_cases hc:k<r.length
  ·rw[aA (bT (by omega)),aA (by omega),aA (hr k hc),aA (by simp only[eJ]; omega)];refine aB.2 ⟨rfl,hc,?_⟩;simp only;rw[bF (by omega)]; simp; omega
  ·rw[aC (bW (by omega))]; exact aB.2 (by show v1.length=r.length; omega)
 ·cases z with
  | inl r=>exact aB.2 hz
  | inr y=>exact hz.elim
theorem Kc(hl:r.length<=1048576)(hr:InN r l.length):Sp (rM l r) (fun x=>x.length=r.length):=by
 unfold rM Dm;simp only[Tr.den];refine Sq.bind (sel (fun x=>x.length=r.length) (fun _=>False)) (cB (fun s=>s.2) r.length (by omega) (fun s=>(s.1.length:Int)=s.2) (fun s k hI hk hkN=>?_) rfl rfl) fun z hz=>?_
 ·obtain⟨v1,v2⟩:=s;simp only at hI hk;subst hk;unfold Ax;simp only[Tr.den,aP];by_cases hc:k<r.length
  ·rw[aA (bT (by omega)),aA (by omega),aA (hr k hc),aA (by simp only[eJ]; omega)];refine aB.2 ⟨rfl,hc,?_⟩;simp only;rw[bF (by omega)]; simp; omega
  ·rw[aC (bW (by omega))]; exact aB.2 (by show v1.length=r.length; omega)
 ·cases z with
  | inl r=>exact aB.2 hz
  | inr y=>exact hz.elim
theorem aIL(b:Bool){n:Int}(h:0<=n/\n<100):Sq b (vM n) (fun r=>r.size<=2):=by
 unfold vM Vk;refine dL _ _ _ (fun n:Int=>0<=n/\n<100) (fun n=>n.toNat) (fun n (r:ByteArray)=>r.size<=2/\(n<10->r.size<=1)) (fun b f n hn hrec=>?_) b n h |>.imp fun _ h=>h.1;unfold Ji;simp only[Tr.den];rw[aA (bT (by omega))];simp only[aI];by_cases h10:n<10
 ·rw[aA (bT h10)];exact aB.2 ⟨by simp[zY,ByteArray.size],fun _=>by simp[zY,ByteArray.size]⟩
 ·rw[aC (bW h10),aA (bT (by omega))];have e1:Int.tdiv n 10=n / 10:=Int.tdiv_eq_ediv_of_nonneg hn.1;have e2:Int.tmod n 10=n % 10:=Int.tmod_eq_emod_of_nonneg hn.1;rw[e1,e2,fE (by omega) (by omega)];refine Sq.bind _ (hrec _ (by omega) (by omega)) fun a ha=>?_;refine Sq.bind _ (hrec _ (by omega) (by omega)) fun c hc=>?_;have h1:=ha.2 (by omega);have h2:=hc.2 (by omega);rw[aA (by omega)];exact aB.2 ⟨by rw[jT]; omega,fun h=>by omega⟩
def Gm(op:Int):Nat:=if op=0 then 0 else if op=3\/op=6\/op=7 then 2 else 1
theorem qA(op:Int):aNZ op=some (Gm op:Int):=by
 unfold aNZ aQA Gm;simp only[Tr.den];by_cases h0:op=0
 ·subst h0; rfl
 by_cases h3:op=3
 ·subst h3; rfl
 by_cases h6:op=6
 ·subst h6; rfl
 by_cases h7:op=7
 ·subst h7; rfl
 simp[h0,h3,h6,h7]
theorem Sx(a:aG):Sp (qO a) (fun r=>r=true->(a.Op≠1->a.Op≠2->a.Exprs.length=0)/\(a.Op≠8->a.Seq.length=0)):=by
 unfold qO Kv;simp only[Tr.den];refine Sp.bind (fun _=>True) (by (repeat' (first | with_reducible exact Sp.triv | with_reducible refine Sp.guard (by omega) ?_ | with_reducible refine Sp.iteD (fun _=>?_) (fun _=>?_) | with_reducible refine Sp.iteN (fun _=>?_) (fun _=>?_) | with_reducible refine Sp.iteE (fun _=>?_) (fun _=>?_) | with_reducible refine Sp.iteB (fun _=>?_) (fun _=>?_) | with_reducible refine Sp.bind (fun _=>True) ?_ (fun _ _=>?_)))) (fun j1 _=>?_);refine Sp.bind (fun _=>True) (by (repeat' (first | with_reducible exact Sp.triv | with_reducible refine Sp.guard (by omega) ?_ | with_reducible refine Sp.iteD (fun _=>?_) (fun _=>?_) | with_reducible refine Sp.iteN (fun _=>?_) (fun _=>?_) | with_reducible refine Sp.iteE (fun _=>?_) (fun _=>?_) | with_reducible refine Sp.iteB (fun _=>?_) (fun _=>?_) | with_reducible refine Sp.bind (fun _=>True) ?_ (fun _ _=>?_)))) (fun j8 _=>?_);refine Sp.bind (fun _=>True) (by (repeat' (first | with_reducible exact Sp.triv | with_reducible refine Sp.guard (by omega) ?_ | with_reducible refine Sp.iteD (fun _=>?_) (fun _=>?_) | with_reducible refine Sp.iteN (fun _=>?_) (fun _=>?_) | with_reducible refine Sp.iteE (fun _=>?_) (fun _=>?_) | with_reducible refine Sp.iteB (fun _=>?_) (fun _=>?_) | with_reducible refine Sp.bind (fun _=>True) ?_ (fun _ _=>?_)))) (fun j12 _=>?_);refine Sp.bind (fun _=>True) (by (repeat' (first | with_reducible exact Sp.triv | with_reducible refine Sp.guard (by omega) ?_ | with_reducible refine Sp.iteD (fun _=>?_) (fun _=>?_) | with_reducible refine Sp.iteN (fun _=>?_) (fun _=>?_) | with_reducible refine Sp.iteE (fun _=>?_) (fun _=>?_) | with_reducible refine Sp.iteB (fun _=>?_) (fun _=>?_) | with_reducible refine Sp.bind (fun _=>True) ?_ (fun _ _=>?_)))) (fun j17 _=>?_);refine Sp.bind (fun _=>True) (by (repeat' (first | with_reducible exact Sp.triv | with_reducible refine Sp.guard (by omega) ?_ | with_reducible refine Sp.iteD (fun _=>?_) (fun _=>?_) | with_reducible refine Sp.iteN (fun _=>?_) (fun _=>?_) | with_reducible refine Sp.iteE (fun _=>?_) (fun _=>?_) | with_reducible refine Sp.iteB (fun _=>?_) (fun _=>?_) | with_reducible refine Sp.bind (fun _=>True) ?_ (fun _ _=>?_)))) (fun j22 _=>?_);refine Sp.iteB (fun _=>Sp.ret (by simp)) (fun _=>?_);refine Sp.bind (fun j=>j=false->a.Op≠1->a.Op≠2->a.Exprs.length=0) ?_ (fun j28 h28=>?_)
 ·repeat' (first | with_reducible refine Sp.iteD (fun _=>?_) (fun _=>?_) | with_reducible refine Sp.iteN (fun _=>?_) (fun _=>?_) | (refine Sp.ret (fun hd h1 h2=>?_); first | omega | (exfalso; cases hd)))
 refine Sp.iteB (fun _=>Sp.ret (by simp)) (fun hf28=>?_);refine Sp.bind (fun _=>True) (by (repeat' (first | with_reducible exact Sp.triv | with_reducible refine Sp.guard (by omega) ?_ | with_reducible refine Sp.iteD (fun _=>?_) (fun _=>?_) | with_reducible refine Sp.iteN (fun _=>?_) (fun _=>?_) | with_reducible refine Sp.iteE (fun _=>?_) (fun _=>?_) | with_reducible refine Sp.iteB (fun _=>?_) (fun _=>?_) | with_reducible refine Sp.bind (fun _=>True) ?_ (fun _ _=>?_)))) (fun j41 _=>?_);refine Sp.iteB (fun _=>Sp.ret (by simp)) (fun _=>?_);refine Sp.bind (fun _=>True) (by (repeat' (first | with_reducible exact Sp.triv | with_reducible refine Sp.guard (by omega) ?_ | with_reducible refine Sp.iteD (fun _=>?_) (fun _=>?_) | with_reducible refine Sp.iteN (fun _=>?_) (fun _=>?_) | with_reducible refine Sp.iteE (fun _=>?_) (fun _=>?_) | with_reducible refine Sp.iteB (fun _=>?_) (fun _=>?_) | with_reducible refine Sp.bind (fun _=>True) ?_ (fun _ _=>?_)))) (fun j67 _=>?_);refine Sp.iteB (fun _=>Sp.ret (by simp)) (fun _=>?_);refine Sp.bind (fun j=>j=true->a.Op≠8->a.Seq.length=0) ?_ (fun j78 h78=>Sp.ret (fun h=>⟨h28 hf28,h78 h⟩));refine Sp.iteE (fun _=>Sp.ret (by intros; omega)) (fun _=>Sp.ret (fun hd _=>?_));have:(a.Seq.length:Int)=0:=by simpa using hd
 omega
theorem Lr(h:okL 104 iQ fs){a:aG}(ha:jJ a)(c d:List Int)(hc:c.length<=12)(hd:d.length<=12):
  Sp (qP fs a c d) (fun r=>r.2=true->(a.Op=1\/a.Op=2->∀ e,e∈a.Exprs->cH fs.length e)/\(a.Op=8->∀ p,p∈a.Seq->cH fs.length p.Pred)):=by
 obtain⟨_,_,oSource,_,oExprs,_,_,_,oKey,oKey2,_,_,_,oAggs,oSeq,oCols⟩:=ha;have nE:=oExprs.1; have nK:=oKey.1; have nK2:=oKey2.1; have nA:=oAggs.1; have nS:=oSeq.1; have nC:=oCols.1;unfold qP Nb;simp only[Tr.den];refine Sp.iteE (fun h0=>?_) (fun h0=>?_)
 ·refine(Sp.imp' (P:=fun _=>True) ?_ (fun r _ _=>⟨fun h=>by omega,fun h=>by omega⟩));refine Sp.bind (fun _=>True) ?_ (fun R _=>Sp.triv);refine Sp.bind _ (yG nC) (fun x _=>Sp.bind _ (Hh oSource) fun _ _=>?_);refine aU (fun _=>?_) (fun _=>Sp.triv);refine aU (fun _=>?_) (fun _=>Sp.triv);refine aU (fun _=>?_) (fun _=>Sp.triv);exact Sp.bind _ (aDP oCols) fun _ _=>Sp.triv
 refine Sp.iteE (fun h1=>?_) (fun h1=>?_)
 ·refine Sp.iteN (fun _=>Sp.ret (by simp)) (fun hn=>?_);refine Sp.guard (by omega) ?_;have hm:a.Exprs.getD (0:Int).toNat default∈a.Exprs:=bS (by simp; omega);refine Sp.bind _ (xS h c (oExprs.2 _ hm)) (fun r hr=>Sp.ret (fun hrt=>⟨fun _ e he=>?_,fun h=>by omega⟩));have:e=a.Exprs.getD (0:Int).toNat default:=by
   obtain⟨i,hi,rfl⟩:=tQ he;have:i=0:=by omega
   subst this;rw[Int.toNat_zero,iO hi]
  rw[this]; exact hr hrt
 refine Sp.iteE (fun h2=>?_) (fun h2=>?_)
 ·refine Sp.bind (sel (fun _=>∀ e,e∈a.Exprs->cH fs.length e) (fun y=>y.2=false)) ?_ (fun R hR=>?_)
  ·refine cB (fun s=>s.2) a.Exprs.length (by omega) (fun s=>(s.1.length:Int)=s.2/\∀ i:Nat,(i:Int)<s.2->cH fs.length (a.Exprs.getD i default)) (fun s k hI hk hkN=>?_) ⟨rfl,fun i hi=>by simp at hi; omega⟩ rfl;obtain⟨v1,v2⟩:=s;simp only at hI hk;subst hk;obtain⟨hs1,hs2⟩:=hI;unfold Sf;simp only[Tr.den,aP];by_cases hlt:k<a.Exprs.length
   ·rw[aA (bT (by omega)),aA (by omega)];refine Sp.bind _ (Af h c [] (oExprs.2 _ (bS hlt))) (fun r hr=>?_);refine Sp.iteB (fun _=>Sp.ret rfl) (fun hrf=>?_);rw[aA (by simp only[eJ]; omega)];refine Sp.ret ⟨rfl,hlt,?_,fun i hi=>?_⟩
    ·simp only; rw[bF (by omega)]; simp; omega
    ·simp only at hi;rw[bF (by omega)]at hi;by_cases hik:i=k
     ·subst hik; exact hr (by simpa using hrf)
     ·exact hs2 i (by omega)
   ·rw[aC (bW (by omega))];refine Sp.ret (fun e he=>?_);obtain⟨i,hi,rfl⟩:=tQ he;have:=hs2 i (by omega)
    rwa [iO hi]at this
  ·cases R with
   | inl b=>exact Sp.ret (fun _=>⟨fun _=>hR,fun h=>by omega⟩)
   | inr y=>exact Sp.ret (fun h=>by rw[show y.2=false from hR]at h; cases h)
 refine Sp.iteE (fun h3=>?_) (fun h3=>?_)
 ·exact Sp.bind _ (yL (by omega)) fun _ _=>Sp.ret (fun _=>⟨fun h=>by omega,fun h=>by omega⟩)
 refine Sp.iteE (fun h5=>?_) (fun h5=>?_)
 ·refine(Sp.imp' (P:=fun _=>True) ?_ (fun r _ _=>⟨fun h=>by omega,fun h=>by omega⟩));refine Sp.bind (fun _=>True) ?_ (fun R _=>Sp.triv);refine Sp.bind _ (Ec (by omega)) (fun r _=>?_)
  (repeat' (first | with_reducible exact Sp.triv | with_reducible refine Sp.guard (by omega) ?_ | with_reducible refine Sp.iteD (fun _=>?_) (fun _=>?_) | with_reducible refine Sp.iteN (fun _=>?_) (fun _=>?_) | with_reducible refine Sp.iteE (fun _=>?_) (fun _=>?_) | with_reducible refine Sp.iteB (fun _=>?_) (fun _=>?_) | with_reducible refine Sp.bind (fun _=>True) ?_ (fun _ _=>?_)))
 refine Sp.bind _ (Ec (by omega)) (fun r hr=>?_);refine Sp.bind (fun j=>j=false->InN a.Key c.length/\InN a.Key2 d.length) ?_ (fun j44 h44=>?_)
 ·refine Sp.iteB (fun _=>Sp.ret (by simp)) (fun hrt=>?_);exact Sp.bind _ (Ec (by omega)) (fun r' hr'=>Sp.ret (fun hf=>⟨hr (by simpa using hrt),hr' (by simpa using hf)⟩))
 refine Sp.iteB (fun _=>Sp.ret (by simp)) (fun hf44=>?_);obtain⟨hk,hk2⟩:=h44 hf44;refine Sp.bind _ (Kc (by omega) hk) (fun r53 h53=>?_);refine Sp.bind (fun J=>J.1.length=a.Key.length/\(J.2=true->a.Op=6\/a.Op=7)) ?_ (fun J hJ=>?_)
 ·refine Sp.iteE (fun h6=>Sp.ret ⟨h53,fun _=>.inl h6⟩) (fun h6=>Sp.ret ⟨h53,fun h=>.inr (by simpa using h)⟩)
 obtain⟨j55,j56⟩:=J;obtain⟨hJ1,hJ2⟩:=hJ;simp only at hJ1 hJ2;refine Sp.iteB (fun h67=>?_) (fun _=>?_)
 ·refine Sp.guard (by omega) (Sp.guard (by omega) ?_);refine Sp.bind _ (aAY (by omega) hk2) (fun r63 h63=>?_);exact Sp.bind _ (yL (show j55.length<=1000000000 by omega)) fun _ _=>Sp.ret (fun _=>⟨fun h=>by omega,fun h=>by have:=hJ2 h67; omega⟩)
 refine Sp.iteE (fun h8=>?_) (fun h8=>?_)
 ·refine Sp.bind (sel (fun b=>b.length=a.Key.length/\∀ p,p∈a.Seq->cH fs.length p.Pred) (fun y=>y.2=false)) ?_ (fun R hR=>?_)
  ·refine cB (fun s=>s.2) a.Seq.length (by omega) (fun s=>s.1.length=a.Key.length/\∀ i:Nat,(i:Int)<s.2->cH fs.length (a.Seq.getD i default).Pred) (fun s k hI hk hkN=>?_) ⟨hJ1,fun i hi=>by simp at hi; omega⟩ rfl;obtain⟨v1,v2⟩:=s;simp only at hI hk;subst hk;obtain⟨hs1,hs2⟩:=hI;unfold Ob;simp only[Tr.den,aP];by_cases hlt:k<a.Seq.length
   ·rw[aA (bT (by omega)),aA (by omega)];have hg:=oSeq.2 _ (bS hlt);refine Sp.bind (fun J=>J.1.length=a.Key.length/\(J.2=false->cH fs.length (a.Seq.getD k default).Pred)) ?_ (fun J hJ=>?_)
    ·refine Sp.iteD (fun _=>Sp.ret ⟨hs1,by simp⟩) (fun _=>Sp.guard (by omega) (Sp.iteD (fun _=>Sp.ret ⟨hs1,by simp⟩) (fun _=>Sp.guard (by omega) ?_)));exact Sp.bind _ (xS h c hg.1) (fun r hr=>Sp.ret ⟨hs1,fun hf=>hr (by simpa using hf)⟩)
    ·obtain⟨j1,j2⟩:=J;refine Sp.iteB (fun _=>Sp.ret rfl) (fun hf=>Sp.ret ⟨rfl,hlt,hJ.1,fun i hi=>?_⟩);simp only at hi;rw[bF (by omega)]at hi;by_cases hik:i=k
     ·subst hik; exact hJ.2 hf
     ·exact hs2 i (by omega)
   ·rw[aC (bW (by omega))];refine Sp.ret ⟨hs1,fun p hp=>?_⟩;obtain⟨i,hi,rfl⟩:=tQ hp;have:=hs2 i (by omega)
    rwa [iO hi]at this
  ·cases R with
   | inl b=>exact Sp.guard (by have:=hR.1; simp only[gP,Ay]; omega) (Sp.ret (fun _=>⟨fun h=>by omega,fun _=>hR.2⟩))
   | inr y=>exact Sp.ret (fun h=>by rw[show y.2=false from hR]at h; cases h)
 refine(Sp.imp' (P:=fun _=>True) ?_ (fun r _ _=>⟨fun h=>by omega,fun h=>by omega⟩));refine Sp.guard (by simp only[eJ]; omega) ?_;refine Sp.bind (fun _=>True) ?_ (fun R _=>?_)
 ·refine cB (fun s=>s.2) a.Aggs.length (by omega) (fun s=>(s.1.length:Int)=a.Key.length+1+s.2) (fun s k hI hk hkN=>?_) (by simp; omega) rfl;obtain⟨v1,v2⟩:=s;simp only at hI hk;subst hk;unfold Ox;simp only[Tr.den,aP];by_cases hlt:k<a.Aggs.length
  ·rw[aA (bT (by omega))];refine Sp.bind (sel (fun x=>x.length=v1.length+1) (sel (fun _=>False) (fun _=>True))) ?_ (fun J hJ=>?_)
   ·refine Sp.guard (by omega) ?_;refine Sp.bind (fun J=>J.1.length=v1.length/\(J.2=false->(a.Aggs.getD k default).Kind≠0->0<=(a.Aggs.getD k default).Col/\(a.Aggs.getD k default).Col<(c.length:Int))) ?_ (fun J hJ=>?_)
    ·repeat' (first | refine Sp.iteE (fun _=>?_) (fun _=>?_) | refine Sp.iteN (fun _=>?_) (fun _=>?_) | refine Sp.iteD (fun _=>?_) (fun _=>?_) | (refine Sp.ret ⟨rfl,fun hd hk=>?_⟩; first | omega | (exfalso; cases hd; done) | (have:=jH hd; omega)))
    obtain⟨w,b⟩:=J;obtain⟨hw,hb⟩:=hJ;simp only at hw hb;refine Sp.iteB (fun _=>Sp.ret trivial) (fun hbf=>?_);have hb:=hb hbf;refine Sp.iteE (fun _=>Sp.guard (by simp only[eJ]; omega) (Sp.ret (by simp[sel,hw]))) (fun hk0=>?_);have hb:=hb hk0;refine Sp.bind (fun J=>J.1.length=v1.length) ?_ (fun J hJ=>?_)
    ·exact Sp.iteE (fun _=>Sp.guard (by omega) (Sp.ret hw)) (fun _=>Sp.ret hw)
    obtain⟨w',b'⟩:=J;simp only at hJ;refine Sp.iteB (fun _=>Sp.ret trivial) (fun _=>Sp.guard (by omega) (Sp.guard (by simp only[eJ]; omega) (Sp.ret (by simp[sel,hJ]))))
   ·rcases J with x | (y | y)
    rotate_left
    ·exact hJ.elim
    ·exact Sp.ret trivial
    ·simp only[sel]at hJ;refine Sp.ret ⟨rfl,hlt,?_⟩;simp only;rw[bF (by omega)]; omega
  ·rw[aC (bW (by omega))]; exact Sp.ret trivial
 ·cases R with
  | inr y=>exact Sp.triv
  | inl b=>
   refine Sp.bind (fun _=>True) ?_ (fun J _=>Sp.triv)
   (repeat' (first | with_reducible exact Sp.triv | with_reducible refine Sp.guard (by omega) ?_ | with_reducible refine Sp.iteD (fun _=>?_) (fun _=>?_) | with_reducible refine Sp.iteN (fun _=>?_) (fun _=>?_) | with_reducible refine Sp.iteE (fun _=>?_) (fun _=>?_) | with_reducible refine Sp.iteB (fun _=>?_) (fun _=>?_) | with_reducible refine Sp.bind (fun _=>True) ?_ (fun _ _=>?_)))
theorem rU{A:Type}[Inhabited A]{P:A->Prop}{l:List A}(h:∀ x,x∈l->P x)(hi:i<l.length):P (l.getD i default):=h (l.getD i default) (bS hi)
theorem Ty(p:aD)(_hi:i<p.Nodes.length)(j19:List aO)(j20 j21:List aG)(j22:List (List Int))(hj:j22.length=i)(hj':∀ x,x∈j22->x.length<=12)(hin:okL 8 eP (p.Nodes.getD i default).In):
  Sp (cE (fun s=>Tr.den (Ca p (i:Int) s)) (j19,j20,j21,j22,[],[],0)) (sel
   (fun x=>∃ c d:List Int,x=(j19,j20,j21,j22,c,d)/\c.length<=12/\d.length<=12 /\
     ∀ k,k<(p.Nodes.getD i default).In.length->0<=(p.Nodes.getD i default).In.getD k default/\(p.Nodes.getD i default).In.getD k default<(i:Int))
   (sel (fun _=>False) (sel (fun _=>False) (fun y=>y.2=false)))):=by
 have hl:=hin.1;refine cB (fun s=>s.2.2.2.2.2.2) (p.Nodes.getD i default).In.length (by omega) (fun s=>s.1=j19/\s.2.1=j20/\s.2.2.1=j21/\s.2.2.2.1=j22/\s.2.2.2.2.1.length<=12/\s.2.2.2.2.2.1.length<=12 /\
  ∀ k:Nat,(k:Int)<s.2.2.2.2.2.2->0<=(p.Nodes.getD i default).In.getD k default/\(p.Nodes.getD i default).In.getD k default<(i:Int)) (fun s k hI hk hkN=>?_) ⟨rfl,rfl,rfl,rfl,by simp,by simp,fun k hk=>by simp only at hk; omega⟩ rfl
 obtain⟨v34,v35,v36,v37,v38,v39,v40⟩:=s;obtain⟨rfl,rfl,rfl,rfl,h38,h39,hin⟩:=hI;have hj:v37.length=i:=hj;have hj':∀ x,x∈v37->x.length<=12:=hj';simp only at hk h38 h39 hin;subst hk;unfold Ca;simp only[Tr.den,aP];by_cases hlt:k<(p.Nodes.getD i default).In.length
 ·rw[aA (bT (by omega)),aA (by omega)];refine Sp.bind (fun J=>∃ b,J=(v34,v35,v36,v37,b)/\(b=false->0<=(p.Nodes.getD i default).In.getD k default/\(p.Nodes.getD i default).In.getD k default<(i:Int))) ?_ (fun J hJ=>?_)
  ·refine Sp.iteD (fun _=>Sp.ret ⟨_,rfl,by simp⟩) (fun _=>Sp.guard (by omega) (Sp.ret ⟨_,rfl,fun hd=>?_⟩));have:=jH hd;omega
  obtain⟨b,rfl,hb⟩:=hJ;simp only;refine Sp.iteB (fun _=>Sp.ret rfl) (fun hbf=>?_);obtain⟨q1,q2⟩:=hb hbf;have hmem:=rU hj' (i:=((p.Nodes.getD i default).In.getD k default).toNat) (by omega);refine Sp.bind (fun J=>∃ c d:List Int,J=(v34,v35,v36,v37,c,d)/\c.length<=12/\d.length<=12) ?_ (fun J hJ=>?_)
  ·refine Sp.iteE (fun _=>?_) (fun _=>?_)
   ·exact Sp.guard (by omega) (Sp.guard (by omega) (Sp.guard (by omega) (Sp.ret ⟨_,_,rfl,hmem,h39⟩)))
   ·exact Sp.guard (by omega) (Sp.guard (by omega) (Sp.guard (by omega) (Sp.ret ⟨_,_,rfl,h38,hmem⟩)))
  obtain⟨c,d,rfl,hc,hd⟩:=hJ;refine Sp.ret ⟨rfl,hlt,rfl,rfl,rfl,rfl,hc,hd,fun k' hk'=>?_⟩;simp only at hk';rw[bF (by omega)]at hk';by_cases hkk:k'=k
  ·subst hkk; exact⟨q1,q2⟩
  ·exact hin k' (by omega)
 ·rw[aC (bW (by omega))];exact Sp.ret ⟨v38,v39,rfl,h38,h39,fun k' hk'=>hin k' (by omega)⟩
theorem Th(p:aD){r93:List Int×Bool}(j95:List aO)(j96 j97:List aG)(j98:List (List Int))(hr:r93.1.length<=12):
  Sp (cE (fun s=>Tr.den (bQ p (i:Int) r93 s)) (j95,j96,j97,j98,[],0)) (sel (fun x=>∃ cs,x=(j95,j96,j97,j98,cs)/\cs.length<=12) (fun _=>False)):=by
 refine cB (fun s=>s.2.2.2.2.2) r93.1.length (by omega) (fun s=>s.1=j95/\s.2.1=j96/\s.2.2.1=j97/\s.2.2.2.1=j98/\(s.2.2.2.2.1.length:Int)=s.2.2.2.2.2) (fun s k hI hk hkN=>?_) ⟨rfl,rfl,rfl,rfl,rfl⟩ rfl;obtain⟨v1,v2,v3,v4,v5,v6⟩:=s;obtain⟨rfl,rfl,rfl,rfl,h5⟩:=hI;simp only at hk h5;subst hk;unfold bQ;simp only[Tr.den,aP];by_cases hlt:k<r93.1.length
 ·rw[aA (bT (by omega))];refine Sp.bind _ (aIL true (by omega)) (fun r hr'=>?_);refine Sp.guard ?_ ?_
  ·have:((⟨#[99]⟩:ByteArray)).size=1:=rfl;omega
  refine Sp.bind (fun J=>∃ x y z,J=(v1,v2,v3,x,y,z,v4,v5)) ?_ (fun J hJ=>?_)
  ·refine Sp.iteE (fun _=>Sp.guard (by omega) (Sp.ret ⟨_,_,_,rfl⟩)) (fun _=>Sp.ret ⟨_,_,_,rfl⟩)
  obtain⟨x,y,z,rfl⟩:=hJ;refine Sp.guard (by omega) (Sp.guard (by simp only[eJ]; omega) (Sp.ret ⟨rfl,hlt,rfl,rfl,rfl,rfl,?_⟩));simp only;rw[bF (by omega)]; simp; omega
 ·rw[aC (bW (by omega))];exact Sp.ret ⟨v5,rfl,by omega⟩
structure Fg (n i:Nat)(a:aG):Prop where
 ce:∀ e,e∈a.Exprs->cH n e
 cp:∀ p,p∈a.Seq->cH n p.Pred
 op:0<=a.Op/\a.Op<=8
 ins:∀ k,k<a.In.length->0<=a.In.getD k default/\a.In.getD k default<(i:Int)
 ar:a.In.length=Gm a.Op
structure pV (p:aD):Prop where
 funcs:eI p.Funcs
 n:p.Nodes.length<=40
 nodes:∀ i,i<p.Nodes.length->Fg p.Funcs.length i (p.Nodes.getD i default)
theorem aDA(h:cR p):Sp (Lf p) (fun r=>r.2=true->r.1.Nodes.length=p.Nodes.length/\(∀ c,c∈r.1.Nodes->c.Cols.length<=12)/\pV p):=by
 obtain⟨hf,hnod⟩:=h;unfold Lf Wk;simp only[Tr.den];refine Sp.bind (fun j=>j=false->(1<=p.Nodes.length/\p.Nodes.length<=40)/\eI p.Funcs) ?_ (fun j hj=>?_)
 ·refine Sp.iteD (fun _=>Sp.ret (by simp)) (fun h1=>Sp.iteD (fun _=>Sp.ret (by simp)) (fun h2=>?_));refine Sp.bind _ (Ut hf) (fun r hr=>Sp.ret (fun hrf=>?_));exact⟨⟨by omega,by omega⟩,hr (by simpa using hrf)⟩
 refine Sp.iteB (fun _=>Sp.ret (by simp)) (fun hjf=>?_);obtain⟨⟨hp1,hp2⟩,hfo⟩:=hj hjf;refine Sp.bind (sel (fun x=>x.2.2.length=p.Nodes.length/\(∀ c,c∈x.2.2->c.Cols.length<=12)/\∀ i,i<p.Nodes.length->Fg p.Funcs.length i (p.Nodes.getD i default)) (fun y=>y.2=false)) ?_ (fun R hR=>?_)
 rotate_left
 ·cases R with
  | inl x=>obtain⟨b14,b15,b16⟩:=x; exact Sp.ret (fun _=>⟨hR.1,hR.2.1,hfo,hp2,hR.2.2⟩)
  | inr y=>exact Sp.ret (fun h=>by rw[show y.2=false from hR]at h; cases h)
 refine cB (fun s=>s.2.2.2.2) p.Nodes.length (by omega) (fun s=>(s.2.2.1.length:Int)=s.2.2.2.2/\(s.2.2.2.1.length:Int)=s.2.2.2.2/\(∀ x,x∈s.2.2.2.1->x.length<=12)/\(∀ c,c∈s.2.2.1->c.Cols.length<=12) /\
  ∀ i:Nat,(i:Int)<s.2.2.2.2->Fg p.Funcs.length i (p.Nodes.getD i default)) (fun s i hI hk hkN=>?_) ⟨rfl,rfl,by simp,by simp,fun i hi=>by simp only at hi; omega⟩ rfl
 obtain⟨v9,v10,v11,v12,v13⟩:=s;obtain⟨h11,h12,h12',h11',hfit⟩:=hI;simp only at hk h11 h12 h12' h11' hfit;subst hk;unfold dK;simp only[Tr.den,aP];by_cases hlt:i<p.Nodes.length
 rotate_left
 ·rw[aC (bW (by omega))];exact Sp.ret ⟨by simp only; omega,h11',fun k hk=>hfit k (by omega)⟩
 rw[aA (bT (by omega)),aA (by omega)];have hok:jJ (p.Nodes.getD i default):=rU hnod.2 (by omega);have hokI:okL 8 eP (p.Nodes.getD i default).In:=hok.2.1;refine Sp.bind (fun J=>∃ b,J=(v9,v10,v11,v12,b)/\(b=false->(0<=(p.Nodes.getD i default).Op/\(p.Nodes.getD i default).Op<=8)/\(((p.Nodes.getD i default).Op≠1->(p.Nodes.getD i default).Op≠2->(p.Nodes.getD i default).Exprs.length=0)/\((p.Nodes.getD i default).Op≠8->(p.Nodes.getD i default).Seq.length=0)) /\
   (p.Nodes.getD i default).In.length=Gm (p.Nodes.getD i default).Op)) ?_ (fun J hJ=>?_)
 ·refine Sp.iteD (fun _=>Sp.ret ⟨_,rfl,by simp⟩) (fun o1=>Sp.iteD (fun _=>Sp.ret ⟨_,rfl,by simp⟩) (fun o2=>?_));rw[qA];simp only[aI];refine Sp.iteN (fun _=>Sp.ret ⟨_,rfl,by simp⟩) (fun har=>?_);exact Sp.bind _ (Sx (p.Nodes.getD i default)) (fun b hb=>Sp.ret ⟨_,rfl,fun hbf=>⟨by omega,hb (by simpa using hbf),by omega⟩⟩)
 obtain⟨b,rfl,hb⟩:=hJ;simp only;refine Sp.iteB (fun _=>Sp.ret rfl) (fun hbf=>?_);obtain⟨g1,g2,g3⟩:=hb hbf;refine Sp.bind _ (Ty p hlt v9 v10 v11 v12 (by omega) h12' hokI) (fun R hR=>?_);rcases R with x | (u | (u | y))
 ·obtain⟨c,d,rfl,hc,hd,hins⟩:=hR;simp only[sel];refine Sp.bind _ (Lr hf hok c d hc hd) (fun r93 hr=>?_);refine Sp.bind (fun J=>∃ b,J=(v9,v10,v11,v12,b)/\(b=false->r93.2=true/\r93.1.length<=12)) ?_ (fun J hJ=>?_)
  ·refine Sp.iteB (fun _=>Sp.ret ⟨_,rfl,by simp⟩) (fun hrt=>Sp.iteD (fun _=>Sp.ret ⟨_,rfl,by simp⟩) (fun _=>Sp.ret ⟨_,rfl,fun hd=>?_⟩));have:=jH hd;exact⟨by simpa using hrt,by omega⟩
  obtain⟨b',rfl,hb'⟩:=hJ;simp only;refine Sp.iteB (fun _=>Sp.ret rfl) (fun hbf'=>?_);obtain⟨hr2,hr1⟩:=hb' hbf';obtain⟨hcall1,hcall2⟩:=hr hr2;refine Sp.guard (by simp only[eJ]; omega) ?_;refine Sp.bind _ (Th p v9 v10 v11 (v12++[r93.1]) hr1) (fun x hx=>?_);cases x with
  | inr y=>exact hx.elim
  | inl x=>
  obtain⟨cs,rfl,hcs⟩:=hx;simp only[sel];refine Sp.guard (by simp only[eJ]; omega) (Sp.ret ⟨rfl,hlt,?_,?_,?_,?_,fun k hk=>?_⟩)
  ·simp only; rw[bF (by omega)]; simp; omega
  ·simp only; rw[bF (by omega)]; simp; omega
  ·intro x hx;rcases gA.1 hx with hx | hx
   ·exact h12' x hx
   ·simp at hx; subst hx; exact hr1
  ·intro x hx;rcases gA.1 hx with hx | hx
   ·exact h11' x hx
   ·simp at hx; subst hx; exact hcs
  ·simp only at hk;rw[bF (by omega)]at hk;by_cases hki:i=k
   ·subst hki;refine⟨fun e he=>?_,fun q hq=>?_,g1,hins,g3⟩
    ·by_cases ho:(p.Nodes.getD i default).Op=1\/(p.Nodes.getD i default).Op=2
     ·exact hcall1 ho e he
     ·have:=g2.1 (by omega) (by omega);rw[List.length_eq_zero_iff.1 this]at he;cases he
    ·by_cases ho:(p.Nodes.getD i default).Op=8
     ·exact hcall2 ho q hq
     ·have:=g2.2 ho;rw[List.length_eq_zero_iff.1 this]at hq;cases hq
   ·exact hfit k (by omega)
 ·exact hR.elim
 ·exact hR.elim
 ·exact Sp.ret hR
theorem aCH(h:cR p):Sp (Jx p) (fun r=>r=true->pV p):=by
 unfold Jx aDJ;simp only[Tr.den];refine Sp.bind _ (aDA h) (fun r hr=>?_);refine Sp.iteB (fun _=>Sp.ret (by simp)) (fun hrt=>?_);obtain⟨h1,h2,h3⟩:=hr (by simpa using hrt);have hn:=h3.n;refine Sp.bind (fun _=>True) (cB (fun s:Int=>s) p.Nodes.length (by omega) (fun _=>True) (fun s i hI hk hkN=>?_) trivial rfl) (fun R _=>by cases R <;> exact Sp.ret (fun _=>h3));subst hk;unfold dO;simp only[Tr.den,aP];by_cases hlt:i<p.Nodes.length
 ·rw[aA (bT (by omega)),aA (by omega)];have hc1:okL 40 xM (p.Nodes.getD i default).Cols:=(rU h.2.2 hlt).2.2.2.2.2.2.2.2.2.2.2.2.2.2.2;have hc2:=hc1.1;refine Sp.bind _ (yG hc1.1) (fun x hx=>?_);refine Sp.guard (by omega) ?_;refine Sp.bind _ (yG (l:=(r.1.Nodes.getD i default).Cols) (by have:=rU h2 (show i<r.1.Nodes.length by omega); omega)) (fun y hy=>?_);refine Sp.bind _ (yL (by omega)) fun _ _=>?_;exact Sp.iteB (fun _=>Sp.ret trivial) (fun _=>Sp.ret ⟨rfl,hlt,trivial⟩)
 ·rw[aC (bW (by omega))]; exact Sp.ret trivial
theorem Ye(n:Int):Sp (tO n) (fun _=>True):=by
 unfold tO Gz;simp only[Tr.den]
 (repeat' (first | with_reducible exact Sp.triv | with_reducible refine Sp.guard (by omega) ?_ | with_reducible refine Sp.iteD (fun _=>?_) (fun _=>?_) | with_reducible refine Sp.iteN (fun _=>?_) (fun _=>?_) | with_reducible refine Sp.iteE (fun _=>?_) (fun _=>?_) | with_reducible refine Sp.iteB (fun _=>?_) (fun _=>?_) | with_reducible refine Sp.bind (fun _=>True) ?_ (fun _ _=>?_)))
theorem Yo(h:cR p):Sp (Jy p) (fun _=>True):=by
 have hn:=h.2.1;unfold Jy Xu;simp only[Tr.den];refine Sp.bind (fun _=>True) (by (repeat' (first | with_reducible exact Sp.triv | with_reducible refine Sp.guard (by omega) ?_ | with_reducible refine Sp.iteD (fun _=>?_) (fun _=>?_) | with_reducible refine Sp.iteN (fun _=>?_) (fun _=>?_) | with_reducible refine Sp.iteE (fun _=>?_) (fun _=>?_) | with_reducible refine Sp.iteB (fun _=>?_) (fun _=>?_) | with_reducible refine Sp.bind (fun _=>True) ?_ (fun _ _=>?_)))) (fun j _=>Sp.iteB (fun _=>Sp.triv) (fun _=>?_));refine Sp.bind (fun _=>True) (cB (fun s:Int=>s) p.Nodes.length (by omega) (fun _=>True) (fun s i hI hk hkN=>?_) trivial rfl) (fun R _=>by cases R <;> exact Sp.triv);subst hk;unfold dJ;simp only[Tr.den,aP];by_cases hlt:i<p.Nodes.length
 ·rw[aA (bT (by omega)),aA (by omega)];have hI:okL 8 eP (p.Nodes.getD i default).In:=(rU h.2.2 hlt).2.1;have hIn:=hI.1;refine Sp.bind (fun _=>True) ?_ (fun j _=>Sp.iteB (fun _=>Sp.ret trivial) (fun _=>?_))
  ·refine Sp.iteD (fun _=>Sp.triv) (fun _=>Sp.iteD (fun _=>Sp.triv) (fun _=>?_));exact Sp.bind _ (Ye _) fun _ _=>Sp.triv
  refine Sp.bind (sel (fun _=>True) (sel (fun _=>False) (sel (fun _=>False) (fun _=>True)))) (cB (fun s:Int=>s) (p.Nodes.getD i default).In.length (by omega) (fun _=>True) (fun s k hI hk hkN=>?_) trivial rfl) (fun R hR=>?_)
  ·subst hk;unfold Oj;simp only[Tr.den,aP];by_cases hk:k<(p.Nodes.getD i default).In.length
   ·rw[aA (bT (by omega)),aA (by omega)];refine Sp.bind (fun _=>True) (by (repeat' (first | with_reducible exact Sp.triv | with_reducible refine Sp.guard (by omega) ?_ | with_reducible refine Sp.iteD (fun _=>?_) (fun _=>?_) | with_reducible refine Sp.iteN (fun _=>?_) (fun _=>?_) | with_reducible refine Sp.iteE (fun _=>?_) (fun _=>?_) | with_reducible refine Sp.iteB (fun _=>?_) (fun _=>?_) | with_reducible refine Sp.bind (fun _=>True) ?_ (fun _ _=>?_)))) (fun j _=>Sp.iteB (fun _=>Sp.ret trivial) (fun _=>Sp.ret ⟨rfl,hk,trivial⟩))
   ·rw[aC (bW (by omega))]; exact Sp.ret trivial
  ·rcases R with x | (x | (x | y))
   ·exact Sp.ret ⟨rfl,hlt,trivial⟩
   ·exact hR.elim
   ·exact hR.elim
   ·exact Sp.ret trivial
 ·rw[aC (bW (by omega))]; exact Sp.ret trivial
structure aSJ (p:aD):Prop extends pV p where
 step:∀ i,i<p.Nodes.length->(p.Nodes.getD i default).Op=4->(p.Nodes.getD i default).Kind=1->1<=(p.Nodes.getD i default).Step
theorem wL(h:cR p):Sp (Mn p) (fun r=>r=true->aSJ p):=by
 unfold Mn Zw;simp only[Tr.den];refine Sp.bind _ (aCH h) (fun r hr=>?_);refine Sp.bind (fun j=>j=false->pV p) ?_ (fun j hj=>?_)
 ·refine Sp.iteB (fun _=>Sp.ret (by simp)) (fun hrt=>?_);exact Sp.bind _ (Yo h) (fun _ _=>Sp.ret (fun _=>hr (by simpa using hrt)))
 refine Sp.iteB (fun _=>Sp.ret (by simp)) (fun hjf=>?_);have hp:=hj hjf;have hn:=hp.n;refine Sp.bind _ (Sp.allB p.Nodes.length (fun i=>(p.Nodes.getD i default).Op=4->(p.Nodes.getD i default).Kind=1->1<=(p.Nodes.getD i default).Step) (by omega) (fun i hi=>?_) ?_) (fun R hR=>?_)
 ·unfold dD;simp only[Tr.den,aP];rw[aA (bT (by omega)),aA (by omega)];refine Sp.bind _ (aKS _) (fun r hr=>?_);exact Sp.iteB (fun _=>Sp.ret rfl) (fun hrt=>Sp.ret ⟨rfl,fun h4 hk=>by have:=((hr (by simpa using hrt)).w h4).2;omega⟩)
 ·unfold dD;simp only[Tr.den];rw[aC (bW (by omega))]
 ·cases R with
  | inl x=>exact Sp.ret (fun _=>{ hp with step:=hR })
  | inr y=>exact Sp.ret (fun h=>by rw[show y=false from hR]at h; cases h)
theorem Yq(h:cR p):Sp (aOM p) (fun _=>True):=by
 have hn:=h.2.1;unfold aOM aPW;simp only[Tr.den];refine Sp.bind (fun _=>True) (cB (fun s:Int=>s) p.Nodes.length (by omega) (fun _=>True) (fun s i hI hk hkN=>?_) trivial rfl) (fun R _=>by cases R <;> exact Sp.triv);subst hk;unfold Oh;simp only[Tr.den,aP];by_cases hlt:i<p.Nodes.length
 ·rw[aA (bT (by omega)),aA (by omega)];refine Sp.bind _ (aIH p.Funcs _ h.1 (rU h.2.2 hlt)) (fun r _=>?_);exact Sp.iteB (fun _=>Sp.ret trivial) (fun _=>Sp.ret ⟨rfl,hlt,trivial⟩)
 ·rw[aC (bW (by omega))]; exact Sp.ret trivial
theorem aBU(h:aSJ p)(a b:Int):Sp (aRJ p a b) (fun _=>True):=by
 have hn:=h.n;unfold aRJ aNW;simp only[Tr.den];refine Sp.bind (fun _=>True) (cB (fun s=>s.2) p.Nodes.length (by omega) (fun s=>(s.1.length:Int)=s.2) (fun s k hI hk hkN=>?_) rfl rfl) (fun R _=>by cases R <;> exact Sp.triv);obtain⟨v1,v2⟩:=s;simp only at hI hk;subst hk;have e:v1.length=k:=by omega
 unfold Rf;simp only[Tr.den,aP,Int.toNat_zero,show (1:Int).toNat=1 from rfl];by_cases hlt:k<p.Nodes.length
 rotate_left
 ·rw[aC (bW (by omega))]; exact Sp.ret trivial
 rw[aA (bT (by omega)),aA (by omega)];have hf:=h.nodes k hlt;have hst:=h.step k hlt;have har:=hf.ar;have hin:=hf.ins;have i0:∀ j,j<(p.Nodes.getD k default).In.length->((p.Nodes.getD k default).In.getD j default).toNat<v1.length:=fun j hj=>by have:=hin j hj; omega
 have i1:∀ j,j<(p.Nodes.getD k default).In.length->0<=(p.Nodes.getD k default).In.getD j default/\(p.Nodes.getD k default).In.getD j default<(v1.length:Int):=fun j hj=>by have:=hin j hj; omega
 have a3:(p.Nodes.getD k default).Op=3\/(p.Nodes.getD k default).Op=6->(p.Nodes.getD k default).In.length=2:=fun h=>by rw[har,Gm,aC (by omega),aA (by omega)]
 have last:∀ (J:List Int×Int),J.1=v1->Sp (if decide (J.2>b)=true then some (.inr (.inr false)) else if (J.1.length+[J.2].length)*8<=140737488355328 then some (.inl (J.1++[J.2],IntKind.i64.wrap ((k:Int)+1))) else none)
   (sel (fun s'=>s'.2=IntKind.i64.wrap ((k:Int)+1)/\k<p.Nodes.length/\(s'.1.length:Int)=s'.2) (fun _:Unit⊕Bool=>True)):=fun J hJ=>by
  refine Sp.iteD (fun _=>Sp.ret trivial) (fun _=>Sp.guard (by simp only[eJ,hJ]; omega) (Sp.ret ⟨rfl,hlt,?_⟩));simp only;rw[bF (by omega),hJ]; simp; omega
 refine Sp.iteD (fun hpos=>?_) (fun _=>?_)
 ·refine Sp.guard (by omega) (Sp.guard (i1 0 (by omega)) (Sp.guard (i0 0 (by omega)) ?_));refine Sp.bind (fun J=>J.1=v1) ?_ (fun J hJ=>last J hJ);refine Sp.iteE (fun h3=>?_) (fun h3=>?_)
  ·have:=a3 (.inl h3);exact Sp.guard (by omega) (Sp.guard (i1 1 (by omega)) (Sp.guard (i0 1 (by omega)) (Sp.ret rfl)))
  refine Sp.bind (fun J=>J.1=v1) ?_ (fun J hJ=>Sp.ret hJ);refine Sp.iteE (fun h6=>?_) (fun h6=>?_)
  ·have:=a3 (.inr h6);exact Sp.guard (by omega) (Sp.guard (i1 1 (by omega)) (Sp.guard (i0 1 (by omega)) (Sp.ret rfl)))
  refine Sp.bind (fun J=>J.1=v1) ?_ (fun J hJ=>Sp.ret hJ);refine Sp.iteE (fun h4=>?_) (fun h4=>Sp.ret rfl);refine Sp.bind (fun J=>J.1=v1) ?_ (fun J hJ=>Sp.ret hJ);exact Sp.iteE (fun hk=>Sp.guard (by have:=hst h4 hk; omega) (Sp.ret rfl)) (fun _=>Sp.ret rfl)
 ·refine Sp.bind (fun J=>J.1=v1) ?_ (fun J hJ=>last J hJ);refine Sp.iteE (fun h3=>?_) (fun h3=>?_)
  ·have:=a3 (.inl h3);exact Sp.guard (by omega) (Sp.guard (i1 1 (by omega)) (Sp.guard (i0 1 (by omega)) (Sp.ret rfl)))
  refine Sp.bind (fun J=>J.1=v1) ?_ (fun J hJ=>Sp.ret hJ);refine Sp.iteE (fun h6=>?_) (fun h6=>?_)
  ·have:=a3 (.inr h6);exact Sp.guard (by omega) (Sp.guard (i1 1 (by omega)) (Sp.guard (i0 1 (by omega)) (Sp.ret rfl)))
  refine Sp.bind (fun J=>J.1=v1) ?_ (fun J hJ=>Sp.ret hJ);refine Sp.iteE (fun h4=>?_) (fun h4=>Sp.ret rfl);refine Sp.bind (fun J=>J.1=v1) ?_ (fun J hJ=>Sp.ret hJ);exact Sp.iteE (fun hk=>Sp.guard (by have:=hst h4 hk; omega) (Sp.ret rfl)) (fun _=>Sp.ret rfl)
theorem pV.pf(h:pV p)(ho:cR p):PF p:=by refine⟨h.funcs,h.n,fun i hi=>(h.nodes i hi).ins,fun i hi=>?_⟩;obtain⟨_,oIn,_,_,oExprs,_,_,_,oKey,oKey2,_,_,_,oAggs,oSeq,oCols⟩:=rU ho.2.2 hi;have hf:=h.nodes i hi;exact⟨fun j hj=>⟨(oExprs.2 _ (bS hj)).bnd,hf.ce _ (bS hj)⟩,fun j hj=>⟨(oSeq.2 _ (bS hj)).1.bnd,hf.cp _ (bS hj)⟩,oIn.1,oExprs.1,oKey.1,oKey2.1,oAggs.1,oSeq.1,oCols.1⟩
theorem Bc(h:cR p)(a:Int):Sp (aRM p a) (fun r=>r=true->PF p/\p.Nodes.length<=10):=by
 unfold aRM aNG;simp only[Tr.den];refine Sp.bind (fun j=>j=false->p.Nodes.length<=10) ?_ (fun j hj=>?_)
 ·exact Sp.iteD (fun _=>Sp.ret (by simp)) (fun _=>Sp.ret (fun _=>by omega))
 refine Sp.iteB (fun _=>Sp.ret (by simp)) (fun hjf=>?_);refine Sp.bind _ (wL h) (fun r hr=>?_);refine Sp.bind (fun j=>j=true->PF p) ?_ (fun j6 h6=>Sp.ret (fun h=>⟨h6 h,hj hjf⟩));refine Sp.iteB (fun hrt=>?_) (fun _=>Sp.ret (by simp));have hfit:=hr hrt;refine Sp.bind _ (Yq h) (fun r' _=>Sp.iteB (fun _=>?_) (fun _=>Sp.ret (by simp)));exact Sp.bind _ (aBU hfit a 1000) (fun _ _=>Sp.ret (fun _=>hfit.pf h))
theorem Yx{x:Option α}:Sq false x (fun _=>True):=⟨fun _ _=>trivial,fun h=>by cases h⟩
theorem lF{c:Prop}[Decidable c]{x:Option α}{Q:α->Prop}(h:c->Sq false x Q):Sq false (if c then x else none) Q:=by
 by_cases hc:c
 ·rw[aA hc]; exact h hc
 ·rw[aC hc]; exact nM.2 rfl
theorem Sp.and{x:Option α}{P Q:α->Prop}(h:Sp x P)(h':Sq false x Q):Sp x (fun y=>P y/\Q y):=⟨fun y hy=>⟨h.1 y hy,h'.1 y hy⟩,h.2⟩
def txs(ps:List ByteArray):List UInt8:=ps.flatMap fun p=>bl (oK p)
theorem Ie(ps:List ByteArray)(p:ByteArray):txs (ps++[p])=txs ps++bl (oK p):=by unfold txs; simp
theorem sP(h:k<ps.length):txs (ps.drop k)=bl (oK (ps.getD k default))++txs (ps.drop (k+1)):=by unfold txs;rw[At h,List.flatMap_cons,iO h]
structure Enc (s:ByteArray)(n:Nat)(c:Int)(ps:List ByteArray):Prop where
 i:gX c
 s:bl s=bl (jM c)++(bl (jM (n:Int))++txs ps)
 n:ps.length=n
theorem zB(h:k<ps.length):(ps.getD k default).size<=(txs ps).length:=by
 have h1:(txs ps).length=(txs (ps.take k)).length+(txs (ps.drop k)).length:=by unfold txs; rw[<-dB,<-List.flatMap_append,lL]
 rw[h1,sP h,dB,uB];simp only[dB,gP,bR];omega
theorem Enc.part(h:Enc s n c ps)(hk:k<ps.length):(ps.getD k default).size<=s.size:=by have h1:=zB hk;have h2:=congrArg List.length h.s;simp only[dB,bR]at h2;omega
theorem RG.new(s:ByteArray):RG ⟨s,false⟩:=fun h=>by cases h
theorem aAQ(q:bX):Sp (Iu q) (fun r=>r=true->q.bad_=false/\bl q.rest_=[]):=by unfold Iu Ri;simp only[Tr.den];exact Sq.bind (fun j:Bool=>j=true->q.bad_=false/\bl q.rest_=[]) (aU (fun h=>aB.2 fun h'=>⟨by simpa using h,by rw[wZ h']; rfl⟩) fun _=>aB.2 fun h=>by cases h) fun j hj=>aB.2 hj
theorem aNV{a b:Int}(ha:0<=a)(hb:0<=b):0<=(if a<b then a else b)/\(if a<b then a else b)<=a:=by split <;> omega
theorem Gt(hn:A.Nodes.length<=40){r4:Int×ByteArray×Bool}(h0:0<=r4.1){q:bX}(hg:RG q)(hs:q.rest_.size<=1000):
  Sp (cE (fun s=>Tr.den (oA A r4 s)) (q.rest_,q.bad_,[])) (sel (fun x=>RdW q (txs x.2.2) x.1 x.2.1/\(x.2.2.length:Int)=(if (A.Nodes.length:Int)<r4.1 then (A.Nodes.length:Int) else r4.1)) (fun _=>False)):=by
 have hm:=aNV (a:=(A.Nodes.length:Int)) (by omega) h0;generalize hM:(if (A.Nodes.length:Int)<r4.1 then (A.Nodes.length:Int) else r4.1)=M at hm;refine Sq.while (fun x=>RdW q (txs x.2.2) x.1 x.2.1/\(x.2.2.length:Int)<=M) (fun x=>M.toNat-x.2.2.length) (fun x hI=>?_) ⟨⟨eT _,.inr ⟨rfl,rfl⟩⟩,by simp; omega⟩;obtain⟨v5,v6,v7⟩:=x;obtain⟨hR,hl⟩:=hI;simp only at hR hl;unfold oA;simp only[Tr.den];rw[hM];by_cases hc:(v7.length:Int)<M
 ·rw[aA (bT hc)];refine Sq.bind _ (aME ⟨v5,v6⟩ (hR.good hg) (by have:=hR.1; simp only; omega)) fun r hr=>?_;rw[aA (by simp only[eJ]; omega)];refine aB.2 ⟨⟨?_,by simp; omega⟩,by simp; omega⟩;simp only;rw[Ie];exact hR.trans hr.2
 ·rw[aC (bW hc)];exact aB.2 ⟨hR,by simp only; omega⟩
theorem Ex(hp:ps.length=A.Nodes.length)(hn:A.Nodes.length<=40){r4:Int×ByteArray×Bool}(h0:r4.1=(A.Nodes.length:Int))(hs:(txs ps).length<=1000):
  cE (fun s=>Tr.den (oA A r4 s)) (mkB (txs ps),false,[])=some (.inl (mkB [],false,ps)):=by
 have h1:=lP (bd:=fun s=>Tr.den (oA A r4 s)) (fun k=>(mkB (txs (ps.drop k)),false,ps.take k)) ps.length (r:=.inl (mkB [],false,ps)) (fun k hk=>?_) ?_
 ·exact h1
 ·unfold oA;simp only[Tr.den];have e1:(if (A.Nodes.length:Int)<r4.1 then (A.Nodes.length:Int) else r4.1)=(A.Nodes.length:Int):=by rw[h0,aC (by omega)]
  have hl:(txs (ps.drop k)).length<=1000:=by
   have h1:(txs ps).length=(txs (ps.take k)).length+(txs (ps.drop k)).length:=by unfold txs; rw[<-dB,<-List.flatMap_append,lL]
   omega
  have hsz:=zB hk;rw[e1,aA (bT (by rw[dC]; omega)),aDG (s:=ps.getD k default) (t:=txs (ps.drop (k+1))) (by omega) (by rw[mZ,sP hk]) (by rw[<-bR,mZ]; omega)];simp only[aI];rw[aA (by simp only[eJ,dC]; omega),<-dM hk]
 ·unfold oA;simp only[Tr.den];have e1:(if (A.Nodes.length:Int)<r4.1 then (A.Nodes.length:Int) else r4.1)=(A.Nodes.length:Int):=by rw[h0,aC (by omega)]
  rw[e1,aC (bW (by rw[dC]; omega)),List.drop_length,List.take_length];rfl
def PG(q:aF):Prop:=q.Bad=true->q.Rest.size=0
theorem Qu(e:Int)(q:aF):Sq false (rG e q) (fun r=>r.2.2=true->r.2.1.size=0\/q.Bad=true):=by
 have e0:nL q=some (0,⟨#[]⟩,true):=rfl;unfold rG xZ;simp only[Tr.den];refine Sq.bind (fun z:Int⊕(Int×ByteArray×Bool)=>∃ v:Int,z = .inl v) ?_ fun z hz=>?_
 ·refine Sq.while (fun v:Int=>0<=v/\v<=21) (fun v=>21-v.toNat) (fun v hI=>?_) ⟨by omega,by omega⟩;unfold kC;simp only[Tr.den];refine Sq.bind (fun j:Bool=>j=true->v<21) ?_ fun j hj=>?_
  ·refine aU (fun h=>?_) (fun _=>aB.2 (fun h=>by cases h));refine aU (fun h=>lF fun _=>aB.2 fun _=>gI h) (fun _=>aB.2 (fun h=>by cases h))
  ·refine aU (fun h=>?_) (fun _=>aB.2 ⟨v,rfl⟩);have h:=hj h;have e1:IntKind.i64.wrap (v+1)=v+1:=fE (by omega) (by omega);rw[e1];exact aB.2 ⟨⟨by omega,by omega⟩,by omega⟩
 ·obtain⟨v,rfl⟩:=hz;simp only[sel,e0,aI];refine aU (fun _=>aB.2 fun _=>.inl rfl) fun h=>lF fun _=>?_;refine aU (fun _=>aB.2 fun _=>.inl rfl) fun h=>lF fun _=>?_;refine Sq.bind _ Yx fun r _=>?_;refine aU (fun _=>aB.2 fun _=>.inl rfl) fun h=>lF fun _=>?_;exact aB.2 fun h=>.inr h
theorem Pm(e:Int)(q:aF):Sq false (rQ e q) (fun r=>r.2.2=true->r.2.1.size=0\/q.Bad=true):=by unfold rQ wI;simp only[Tr.den];refine Sq.bind _ (Qu e q) fun r hr=>?_;refine aU (fun _=>?_) fun h=>aB.2 hr;rw[show nL ⟨r.2.1,r.2.2⟩=some (0,⟨#[]⟩,true) from rfl];exact aB.2 fun _=>.inl rfl
theorem aFP(e:Int)(q:aF):Sq false (rJ e q) (fun r=>r.2.2=true->r.2.1.size=0\/q.Bad=true):=by have e0:nL q=some (0,⟨#[]⟩,true):=rfl;unfold rJ yQ;simp only[Tr.den,e0,aI];refine aU (fun _=>aB.2 fun _=>.inl rfl) fun h=>lF fun _=>?_;refine aU (fun _=>aB.2 fun _=>.inl rfl) fun h=>lF fun _=>?_;exact aB.2 fun h=>.inr h
theorem aMM(q:aF):Sq false (uJ q) (fun r=>r.2.2=true->r.2.1.size=0\/q.Bad=true):=by
 unfold uJ Iv;simp only[Tr.den];refine Sq.bind _ (Pm 58 q) fun r hr=>?_;refine Sq.bind (fun j:Bool=>j=false->r.2.2=false) ?_ fun j hj=>?_
 ·exact aU (fun _=>aB.2 (fun h=>by cases h)) fun hb=>aB.2 fun _=>hb
 refine aU (fun _=>?_) fun hb=>?_
 ·rw[show nL ⟨r.2.1,r.2.2⟩=some (0,⟨#[]⟩,true) from rfl];exact aB.2 fun _=>.inl rfl
 ·have h4:=hj hb;refine lF fun _=>lF fun _=>?_;refine Sq.bind _ (aFP 44 _) fun r4 hr4=>?_;have fin:r4.2.2=true->r4.2.1.size=0\/q.Bad=true:=fun h=>by
   rcases hr4 h with h | h
   ·exact .inl h
   ·simp only at h; rw[h4]at h; cases h
  exact aU (fun _=>aB.2 fin) fun _=>aB.2 fin
theorem RdP.good{p:List UInt8}{rest:ByteArray}{bad:Bool}(h:RdP q p rest bad)(h':bad=true->rest.size=0\/q.Bad=true)(hg:PG q):PG ⟨rest,bad⟩:=fun hb=>by
 rcases h' hb with h1 | h1
 ·exact h1
 ·have h2:=hg h1;have:=h.1;simp only; omega
theorem aJR(q:aF)(hg:PG q)(hs:q.Rest.size<=1000):Sp (xF q) (fun r=>gX r.1/\RdP q (bl (jM r.1)) r.2.1 r.2.2/\PG ⟨r.2.1,r.2.2⟩):=by refine(Sp.and (aLS q (by omega)) (Q:=fun r=>r.2.2=true->r.2.1.size=0\/q.Bad=true) ?_).imp fun r hr=>⟨hr.1.1,hr.1.2,hr.1.2.good hr.2 hg⟩;unfold xF Hi;simp only[Tr.den];exact Sq.bind _ (Qu 59 q) fun r hr=>aB.2 hr
theorem aDI(q:aF)(hg:PG q)(hs:q.Rest.size<=1000):Sp (rH q) (fun r=>gX r.1/\0<=r.1/\RdP q (bl (jM r.1)) r.2.1 r.2.2/\PG ⟨r.2.1,r.2.2⟩):=by refine(Sp.and (aEG q (by omega)) (Q:=fun r=>r.2.2=true->r.2.1.size=0\/q.Bad=true) ?_).imp fun r hr=>⟨hr.1.1,hr.1.2.1,hr.1.2.2,hr.1.2.2.good hr.2 hg⟩;unfold rH yM;simp only[Tr.den];exact Sq.bind _ (Pm 59 q) fun r hr=>aB.2 hr
theorem aDV(q:aF)(hg:PG q)(hs:q.Rest.size<=1000):Sp (uJ q) (fun r=>RdP q (bl (oK r.1)) r.2.1 r.2.2/\PG ⟨r.2.1,r.2.2⟩):=
 (Sp.and (aMX q (by omega)) (aMM q)).imp fun r hr=>⟨hr.1.2,hr.1.2.good hr.2 hg⟩
theorem RdP.less{p:List UInt8}{rest:ByteArray}{bad:Bool}(h:RdP q p rest bad)(hg:PG ⟨rest,bad⟩)(hp:p≠[])(hq:0<q.Rest.size):rest.size<q.Rest.size:=by
 rcases h.2 with h1 | ⟨_,h2⟩
 ·have:=hg h1; simp only at this; omega
 ·have:=congrArg List.length h2;rw[bR,dB,bR]at this;have:0<p.length:=List.length_pos_iff.2 hp;omega
theorem Yk(s:ByteArray):bl (oK s)≠[]:=by rw[uB]; simp
theorem Hr{r2 r3:Int×ByteArray×Bool}(hg:PG q)(hs:q.Rest.size<=1000):
  Sp (cE (fun s=>Tr.den (nT r2 r3 s)) (q.Rest,q.Bad,[],0)) (sel (fun x=>RdP q (txs x.2.2) x.1 x.2.1) (fun _=>False)):=by
 refine Sq.while (fun x=>RdP q (txs x.2.2.1) x.1 x.2.1/\PG ⟨x.1,x.2.1⟩/\(x.2.2.1.length:Int)=x.2.2.2/\x.2.2.1.length+x.1.size<=1000) (fun x=>x.1.size) (fun x hI=>?_) ⟨⟨eT _,.inr ⟨rfl,rfl⟩⟩,hg,rfl,by simpa using hs⟩;obtain⟨v4,v5,v6,v7⟩:=x;obtain⟨hR,hG,hl,hb⟩:=hI;simp only at hR hG hl hb;unfold nT;simp only[Tr.den];refine Sq.bind (fun J=>J.1=v6/\(J.2=true->0<v4.size)) ?_ fun J hJ=>?_
 ·refine aU (fun _=>?_) fun _=>aB.2 ⟨rfl,fun h=>by cases h⟩;rw[show Jb ⟨v4,v5⟩=some (v4.size:Int) from rfl];exact aB.2 ⟨rfl,fun h=>by have:=gI h; omega⟩
 obtain⟨j11,j12⟩:=J;obtain⟨hJ1,hJ2⟩:=hJ;simp only at hJ1 hJ2;subst hJ1;refine aU (fun h=>?_) fun _=>aB.2 hR;have hpos:=hJ2 h;refine Sq.bind _ (aDV ⟨v4,v5⟩ hG (by simp only; omega)) fun r hr=>?_;have hless:=hr.1.less hr.2 (Yk _) hpos;simp only at hless;rw[aA (by simp only[eJ]; omega)];refine aB.2 ⟨⟨?_,hr.2,?_,by simp; omega⟩,hless⟩
 ·simp only;rw[Ie];exact hR.trans hr.1
 ·simp only;rw[fE (by omega) (by omega)]; simp; omega
theorem Fe{r2 r3:Int×ByteArray×Bool}(h0:r3.1=(ps.length:Int))(hn:ps.length<=40)(hs:(txs ps).length<=1000):
  cE (fun s=>Tr.den (nT r2 r3 s)) (mkB (txs ps),false,[],0)=some (.inl (mkB [],false,ps)):=by
 have h1:=lP (bd:=fun s=>Tr.den (nT r2 r3 s)) (fun k=>(mkB (txs (ps.drop k)),false,ps.take k,(k:Int))) ps.length (r:=.inl (mkB [],false,ps)) (fun k hk=>?_) ?_
 ·exact h1
 ·have hl:(txs (ps.drop k)).length<=1000:=by
   have h1:(txs ps).length=(txs (ps.take k)).length+(txs (ps.drop k)).length:=by unfold txs; rw[<-dB,<-List.flatMap_append,lL]
   omega
  have hsz:=zB hk;have hpos:0<(mkB (txs (ps.drop k))).size:=by rw[<-bR,mZ,sP hk,dB];have:=List.length_pos_iff.2 (Yk (ps.getD k default));omega
  unfold nT;simp only[Tr.den];rw[aA (bT (by omega)),show Jb ⟨mkB (txs (ps.drop k)),false⟩=some ((mkB (txs (ps.drop k))).size:Int) from rfl];simp only[aI];rw[aA (bT (by omega)),Yt (s:=ps.getD k default) (t:=txs (ps.drop (k+1))) (by omega) (by rw[mZ,sP hk]) (by rw[<-bR,mZ]; omega)];simp only[aI];rw[aA (by simp only[eJ,dC]; omega),<-dM hk,bF (by omega)]
 ·unfold nT;simp only[Tr.den];rw[aC (bW (by omega)),List.drop_length,List.take_length];rfl
theorem Yw:Hv ⟨mkB [],false⟩=some true:=by unfold Hv Qn;simp only[Tr.den,Bool.not_false,dY,aI];exact congrArg some (pB _)
theorem aCA(h:Enc s n c ps)(hn:n<=40)(hs:s.size<=200):Xv s=some (c,ps,true):=by have hlen:=congrArg List.length h.s;simp only[dB,bR]at hlen;have hn':=h.n;have h1:=Xs (b:=false) h.i h.s (by omega);have h2:=Uk (n:=(n:Int)) (rb:=mkB (bl (jM (n:Int))++txs ps)) (t:=txs ps) (b:=false) ⟨by omega,by omega⟩ (by omega) (mZ _) (by rw[<-bR,mZ,dB,bR]; omega);unfold Xv aJG;simp only[Tr.den];rw[show aAX s=some ⟨s,false⟩ from rfl];simp only[aI];rw[h1];simp only[aI];rw[h2];simp only[aI];rw[Fe (by simp only; omega) (by omega) (by omega)];simp only[aI,sel];rw[Yw];simp only[aI,dY];rw[show ((ps.length:Int)==(n:Int))=true from oI (by omega)]
theorem Ww(s:ByteArray)(hs:s.size<=200):Sp (Xv s) (fun r=>r.2.2=true->∃ n,Enc s n r.1 r.2.1):=by
 unfold Xv aJG;simp only[Tr.den];rw[show aAX s=some ⟨s,false⟩ from rfl];simp only[aI];refine Sq.bind _ (aJR ⟨s,false⟩ (fun h=>by cases h) (by simp only; omega)) fun r2 h2=>?_;obtain⟨i2,R2,g2⟩:=h2;have z2:=R2.1;simp only at z2;refine Sq.bind _ (aDI ⟨r2.2.1,r2.2.2⟩ g2 (by simp only; omega)) fun r3 h3=>?_;obtain⟨i3,p3,R3,g3⟩:=h3;have z3:=R3.1;simp only at z3;refine Sq.bind _ (Hr (r2:=r2) (r3:=r3) (q:=⟨r3.2.1,r3.2.2⟩) g3 (by simp only; omega)) fun z hz=>?_;cases z with
 | inr y=>exact hz.elim
 | inl x=>
  obtain⟨b8,b9,b10⟩:=x;simp only[sel]at hz ⊢;refine Sq.bind _ (aOP ⟨b8,b9⟩) fun r hr=>?_;refine Sq.bind (fun J=>J.1=b10/\(J.2=true->r=true/\(b10.length:Int)=r3.1)) ?_ fun J hJ=>?_
  ·exact aU (fun h=>aB.2 ⟨rfl,fun h'=>⟨h,by simpa using h'⟩⟩) fun _=>aB.2 ⟨rfl,fun h=>by cases h⟩
  ·refine aB.2 fun h=>⟨b10.length,?_⟩;obtain⟨h1,h2⟩:=hJ;obtain⟨h3,h4⟩:=h2 h;obtain⟨h5,h6⟩:=hr h3;have hT:=((R2.trans R3).trans hz).ok h5;simp only at hT h6;simp only;rw[h1];refine⟨i2,?_,rfl⟩;rw[hT.2,h6,h4]; simp
noncomputable def qU (B:aD)(ms:List aV)(ps:List ByteArray)(k:Nat):ByteArray:=if nR (B.Nodes.getD k default)=true then ps.getD (ms.getD k default).Old.toNat default else ⟨#[]⟩
noncomputable def Dt (B:aD)(ms:List aV)(ps:List ByteArray)(init:ByteArray):Nat->ByteArray
 | 0=>init
 | k+1=>Dt B ms ps init k++oK (qU B ms ps k)
theorem rS{m:Nat}(hp:∀ k,k<ps.length->(ps.getD k default).size<=m)(k:Nat):(qU B ms ps k).size<=m:=by
 unfold qU;split
 ·by_cases h:(ms.getD k default).Old.toNat<ps.length
  ·exact hp _ h
  ·rw[cC,List.getElem?_eq_none (by omega)]; exact iT _
 ·exact iT _
theorem Ao{m:Nat}(hm:m<=1000)(hp:∀ k,k<ps.length->(ps.getD k default).size<=m)(k:Nat):(Dt B ms ps init k).size<=init.size+k*1100:=by
 induction k with
 | zero=>simp[Dt]
 | succ k ih=>have h1:=rS (B:=B) (ms:=ms) hp k;have h2:=tW (s:=qU B ms ps k) (by omega);simp only[Dt];rw[jT]; omega
def hdM(c:Int)(n:Nat):ByteArray:=jM c++jM (n:Int)
theorem Gh(hc:gX c)(hn:n<=40):(hdM c n).size<=44:=by have h1:=kE hc;have h2:=kE (n:=(n:Int)) ⟨by omega,by omega⟩;unfold hdM;rw[jT]; omega
theorem Ng(b:Bool)(hB:PF B)(hl:ms.length=B.Nodes.length)(hn:ps.length=A.Nodes.length)(hp:∀ k,k<ps.length->(ps.getD k default).size<=1000)
  (ho:∀ k,k<B.Nodes.length->nR (B.Nodes.getD k default)=true->0<=(ms.getD k default).Old/\(ms.getD k default).Old<(A.Nodes.length:Int))(hi:init.size<=44):
  Sq b (cE (fun s=>Tr.den (Ft B ms s)) (ps,init,0)) (sel (fun x=>x=Dt B ms ps init B.Nodes.length) (fun _=>False)):=by
 have hnB:=hB.n;refine cB (fun s=>s.2.2) B.Nodes.length (by omega) (fun s=>s.1=ps/\s.2.1=Dt B ms ps init s.2.2.toNat) (fun s k hI hk hkN=>?_) ⟨rfl,rfl⟩ rfl;obtain⟨v18,v19,v20⟩:=s;simp only at hk hI;subst hk;obtain⟨h1,h2⟩:=hI;simp only[aP]at h2;subst h1 h2;unfold Ft;simp only[Tr.den,aP];by_cases hc:k<B.Nodes.length
 ·rw[aA (bT (by omega)),aA (by omega),Cj];simp only[bi];refine Sq.bind (fun J=>J.1=v18/\J.2=qU B ms v18 k) ?_ fun J hJ=>?_
  ·unfold qU;refine aU (fun h=>?_) (fun h=>aB.2 ⟨rfl,by rw[h]; rfl⟩);have:=ho k hc h;rw[aA (by omega),aA (by omega),aA (by omega)];exact aB.2 ⟨rfl,by rw[aA h]⟩
  ·obtain⟨j1,j2⟩:=J;obtain⟨q1,q2⟩:=hJ;simp only at q1 q2;have h1:=rS (B:=B) (ms:=ms) hp k;have h3:=tW (s:=qU B ms v18 k) (by omega);have h4:=Ao (B:=B) (ms:=ms) (init:=init) (eT _) hp k;rw[aMY (show j2.size<=1073741824 by rw[q2]; omega),q2];simp only[aI];rw[aA (by omega)];refine aB.2 ⟨rfl,hc,q1,?_⟩;simp only;rw[bF (by omega),aP];rfl
 ·rw[aC (bW (by omega))];have:k=B.Nodes.length:=by omega
  subst this;exact aB.2 rfl
theorem Ja(b:Bool)(hB:PF B)(hl:ms.length=B.Nodes.length){r2:Int×List ByteArray×Bool}(hn:r2.2.1.length=A.Nodes.length)(hp:∀ k,k<r2.2.1.length->(r2.2.1.getD k default).size<=1000)
  (ho:∀ k,k<B.Nodes.length->nR (B.Nodes.getD k default)=true->0<=(ms.getD k default).Old/\(ms.getD k default).Old<(A.Nodes.length:Int))(hi:init.size<=44):
  Sq b (cE (fun s=>Tr.den (Cm B ms r2 s)) (init,0)) (sel (fun x=>x=Dt B ms r2.2.1 init B.Nodes.length) (fun _=>False)):=by
 have hnB:=hB.n;refine cB (fun s=>s.2) B.Nodes.length (by omega) (fun s=>s.1=Dt B ms r2.2.1 init s.2.toNat) (fun s k hI hk hkN=>?_) rfl rfl;obtain⟨v19,v20⟩:=s;simp only at hk hI;subst hk;simp only[aP]at hI;subst hI;unfold Cm;simp only[Tr.den,aP];by_cases hc:k<B.Nodes.length
 ·rw[aA (bT (by omega)),aA (by omega),Fk];simp only[bi];refine Sq.bind (fun J=>J=qU B ms r2.2.1 k) ?_ fun J hJ=>?_
  ·unfold qU;refine aU (fun h=>?_) (fun h=>aB.2 (by rw[h]; rfl));have:=ho k hc h;rw[aOV this.1,aA (by omega),aA (by omega)];exact aB.2 (by rw[aA h])
  ·have h1:=rS (B:=B) (ms:=ms) hp k;have h3:=tW (s:=qU B ms r2.2.1 k) (by omega);have h4:=Ao (B:=B) (ms:=ms) (init:=init) (eT _) hp k;rw[hJ,aMZ (by omega)];simp only[aI];rw[aA (by omega)];refine aB.2 ⟨rfl,hc,?_⟩;simp only;rw[bF (by omega),aP];rfl
 ·rw[aC (bW (by omega))];have:k=B.Nodes.length:=by omega
  subst this;exact aB.2 rfl
theorem Lu(h:pR A B ms=0):ms.length=B.Nodes.length/\∀ k,k<ms.length->qM A.Nodes.length (ms.getD k default) k:=by
 unfold pR at h;split at h
 ·cases h
 ·rename_i hl;cases hb:(List.range ms.length).any fun k=>decide (¬ qM A.Nodes.length (ms.getD k default) k) with
  | true=>rw[hb]at h; cases h
  | false=>exact⟨by omega,fun k hk=>Ew hb hk⟩
noncomputable def aFV (B:aD)(ms:List aV)(c:Int)(ps:List ByteArray):ByteArray×Int:=if (jS B ms).length>0 then (⟨#[]⟩,4) else (Dt B ms ps (hdM c B.Nodes.length) B.Nodes.length,0)
theorem Rm(h:pR A B ms=0)(hf:¬ (jS B ms).length>0):∀ k,k<B.Nodes.length->nR (B.Nodes.getD k default)=true->0<=(ms.getD k default).Old/\(ms.getD k default).Old<(A.Nodes.length:Int):=
 fun _ hk hw=>(aBX (Lu h).2 (Vi (by omega) hk hw)).2
theorem aBE(hA:PF A)(hB:PF B)(s:ByteArray)(h:pR A B ms≠0):Sp (zJ A B ms s) (fun r=>r=(⟨#[]⟩,pR A B ms)):=by unfold zJ Xh;simp only[Tr.den];refine Sq.bind _ (sH true hA hB ms) fun r hr=>?_;rw[hr,aA (sF h)];exact aB.2 rfl
theorem Yu(hA:PF A)(hB:PF B)(s:ByteArray)(h:pR A B ms≠0):Sp (zH A B ms s) (fun r=>r=(⟨#[]⟩,pR A B ms)):=by unfold zH aBH;simp only[Tr.den];refine Sq.bind _ (wF true hA hB ms) fun r hr=>?_;rw[hr,aA (sF h)];exact aB.2 rfl
theorem Zh(hA:PF A)(hB:PF B)(hs:s.size<=200)(h:pR A B ms=0)(he:Enc s A.Nodes.length c ps):Sp (zH A B ms s) (fun r=>r=aFV B ms c ps):=by
 have hl:=(Lu h).1;have hnA:=hA.n;have hnB:=hB.n;unfold zH aBH;simp only[Tr.den];refine Sq.bind _ (wF true hA hB ms) fun r hr=>?_;rw[hr,h,aC (by decide),aCA he hA.n hs];simp only[aI,iZ,cS,cO];rw[aC (sD (by rw[he.n]))];refine Sq.bind _ (Qz true hB.n (by omega)) fun fr hfr=>?_;subst hfr;unfold aFV;refine Sp.iteD (fun h1=>aB.2 (by rw[aA (by omega)])) fun h1=>?_;have h1':¬ (jS B ms).length>0:=by omega
 have z1:=kE he.i;have z2:=kE (n:=(B.Nodes.length:Int)) ⟨by omega,by omega⟩;rw[aC h1',xV he.i,aHY _ (by omega)];simp only[aI];rw[aA (by omega)];refine Sq.bind _ (Ja true (A:=A) (r2:=(c,ps,true)) hB hl he.n (fun k hk=>by have:=he.part hk; simp only; omega) (Rm h h1') (Gh he.i hB.n)) fun z hz=>?_;cases z with
 | inr y=>exact hz.elim
 | inl x=>exact aB.2 (by rw[show x=_ from hz]; rfl)
theorem aGF(hA:PF A)(hB:PF B)(hs:s.size<=200)(h:pR A B ms=0)(he:∀ c ps,¬ Enc s A.Nodes.length c ps):Sp (zH A B ms s) (fun r=>r=(⟨#[]⟩,2)):=by
 unfold zH aBH;simp only[Tr.den];refine Sq.bind _ (wF true hA hB ms) fun r hr=>?_;rw[hr,h,aC (by decide)];refine Sq.bind _ (Ww s hs) fun r2 h2=>?_;refine Sq.bind (fun j=>j=true) ?_ fun j hj=>?_
 ·refine aU (fun _=>aB.2 rfl) fun hb=>aB.2 ?_;obtain⟨n,hn⟩:=h2 (by simpa using hb);refine sF fun hx=>?_;have:n=A.Nodes.length:=by have:=hn.n; omega
  rw[this]at hn;exact he _ _ hn
 ·rw[hj]; exact aB.2 rfl
theorem aBS(hA:PF A)(hB:PF B)(hs:s.size<=200)(h:pR A B ms=0)(he:Enc s A.Nodes.length c ps):Sp (zJ A B ms s) (fun r=>r=aFV B ms c ps):=by
 have hl:=(Lu h).1;have hnA:=hA.n;have hnB:=hB.n;have hlen:=congrArg List.length he.s;simp only[dB,bR]at hlen;have h1:=Wy (b:=false) he.i he.s (by omega);have h2:=Tl (n:=(A.Nodes.length:Int)) (rb:=mkB (bl (jM (A.Nodes.length:Int))++txs ps)) (t:=txs ps) (b:=false) ⟨by omega,by omega⟩ (by omega) (mZ _) (by rw[<-bR,mZ,dB,bR]; omega);unfold zJ Xh;simp only[Tr.den];refine Sq.bind _ (sH true hA hB ms) fun r hr=>?_;rw[hr,h,aC (by decide),show aCQ s=some ⟨s,false⟩ from rfl];simp only[aI];rw[h1];simp only[aI];rw[h2];simp only[aI];rw[Ex he.n hA.n rfl (by omega)];simp only[aI,sel];rw[aBN];simp only[aI,iZ,cS,cO];rw[aC (sD rfl)];refine Sq.bind _ (Da true hB.n (by omega)) fun fr hfr=>?_;subst hfr;unfold aFV;refine Sp.iteD (fun h1=>aB.2 (by rw[aA (by omega)])) fun h1=>?_;have h1':¬ (jS B ms).length>0:=by omega
 have z1:=kE he.i;have z2:=kE (n:=(B.Nodes.length:Int)) ⟨by omega,by omega⟩;rw[aC h1',aDB he.i,aKD _ (by omega)];simp only[aI];rw[aA (by omega)];refine Sq.bind _ (Ng true (A:=A) hB hl he.n (fun k hk=>by have:=he.part hk; omega) (Rm h h1') (Gh he.i hB.n)) fun z hz=>?_;cases z with
 | inr y=>exact hz.elim
 | inl x=>exact aB.2 (by rw[show x=_ from hz]; rfl)
theorem aIK(hA:PF A)(hB:PF B)(hs:s.size<=200)(h:pR A B ms=0)(he:∀ c ps,¬ Enc s A.Nodes.length c ps):Sp (zJ A B ms s) (fun r=>r=(⟨#[]⟩,2)):=by
 unfold zJ Xh;simp only[Tr.den];refine Sq.bind _ (sH true hA hB ms) fun r hr=>?_;rw[hr,h,aC (by decide),show aCQ s=some ⟨s,false⟩ from rfl];simp only[aI];refine Sq.bind _ (aNK ⟨s,false⟩ (by simp only; omega)) fun r3 h3=>?_;obtain⟨i3,R3⟩:=h3;have z3:=R3.1;simp only at z3;refine Sq.bind _ (aKO ⟨r3.2.1,r3.2.2⟩ (by simp only; omega)) fun r4 h4=>?_;obtain⟨i4,p4,R4⟩:=h4;have z4:=R4.1;simp only at z4;refine Sq.bind _ (Gt (A:=A) hA.n (r4:=r4) p4 (q:=⟨r4.2.1,r4.2.2⟩) (R4.good (R3.good (RG.new s))) (by simp only; omega)) fun z hz=>?_;cases z with
 | inr y=>exact hz.elim
 | inl x=>
  obtain⟨b8,b9,b10⟩:=x;simp only[sel]at hz ⊢;obtain⟨R5,hlen⟩:=hz;refine Sq.bind _ (aAQ ⟨b8,b9⟩) fun r hr=>?_;refine Sq.bind (fun J=>J.2=true) ?_ fun J hJ=>?_
  ·refine aU (fun _=>aB.2 rfl) fun hb=>aB.2 ?_;refine sF fun hx=>?_;obtain⟨h5,h6⟩:=hr (by simpa using hb);have hT:=((R3.trans R4).trans R5).ok h5;simp only at hT h6;rw[aC (by omega)]at hlen;refine he r3.1 b10 ⟨i3,?_,by omega⟩;rw[hT.2,h6,hx]; simp
  ·obtain⟨j1,j2⟩:=J;simp only at hJ;rw[hJ]; exact aB.2 rfl
theorem Iw(hA:PF A)(hB:PF B)(ms:List aV)(hs:s.size<=200):∃ r,zJ A B ms s=some r/\zH A B ms s=some r:=by
 have both:∀ R,Sp (zJ A B ms s) (fun r=>r=R)->Sp (zH A B ms s) (fun r=>r=R)->∃ r,zJ A B ms s=some r/\zH A B ms s=some r:=fun R h1 h2=>by obtain⟨y,h3,h4⟩:=h1.get;obtain⟨z,h5,h6⟩:=h2.get;exact⟨R,by rw[h3,h4],by rw[h5,h6]⟩
 by_cases h:pR A B ms=0
 ·by_cases he:∃ c ps,Enc s A.Nodes.length c ps
  ·obtain⟨c,ps,he⟩:=he;exact both _ (aBS hA hB hs h he) (Zh hA hB hs h he)
  ·have he:∀ c ps,¬ Enc s A.Nodes.length c ps:=fun c ps h=>he ⟨c,ps,h⟩;exact both _ (aIK hA hB hs h he) (aGF hA hB hs h he)
 ·exact both _ (aBE hA hB s h) (Yu hA hB s h)
theorem tlF(h:a≠b):¬ ((a.toList==b.toList)=true):=fun h'=>h (mA (wZ h'))
theorem tlN(h:a=b):¬ ((!(a.toList==b.toList))=true):=by subst h; simp
theorem tlT(h:a=b):(a.toList==b.toList)=true:=by subst h; simp
def wN:ByteArray:=⟨#[110]⟩
def wS:ByteArray:=⟨#[115]⟩
def wT:ByteArray:=⟨#[116]⟩
def wB:ByteArray:=⟨#[98,101,103,105,110]⟩
def vN:List cU:=[cU.mk wN 0 ⟨#[]⟩]
def dF:aG:=aG.mk 0 [] wS 1 [] 0 0 0 [] [] 0 0 0 [] [] vN
def zL:aE:=aE.mk 2 1 ⟨#[]⟩ []
def jO:aG:=aG.mk 1 [0] ⟨#[]⟩ 0 [zL] 0 0 0 [] [] 0 0 0 [] [] vN
def a1X:List fM:=[fM.mk 0 0 wN]
def a2X:List fM:=[fM.mk 0 0 wN,fM.mk 1 0 wT]
def mF:aG:=aG.mk 4 [0] ⟨#[]⟩ 0 [] 0 60 0 [] [] 0 0 0 a1X [] [cU.mk wB 0 ⟨#[]⟩,cU.mk wN 0 ⟨#[]⟩]
def kJ:aG:=aG.mk 4 [0] ⟨#[]⟩ 0 [] 0 60 0 [] [] 0 0 0 a2X [] [cU.mk wB 0 ⟨#[]⟩,cU.mk wN 0 ⟨#[]⟩,cU.mk wT 0 ⟨#[]⟩]
def cK:aD:=aD.mk [] [dF,mF]
def bY:aD:=aD.mk [] [dF,jO,kJ]
theorem aNN:aLV=some dF:=by unfold aLV aMH;simp only[Tr.den]; rfl
theorem aOH:Wp 0 a1X=some mF:=by unfold Wp aHO;simp only[Tr.den];rw[bL (n:=4) (r:=.inl mF.Cols) (by kernel_rfl)];rfl
theorem aPL:Wp 0 a2X=some kJ:=by unfold Wp aHO;simp only[Tr.den];rw[bL (n:=4) (r:=.inl kJ.Cols) (by kernel_rfl)];rfl
theorem aAI:Ce 0=some ⟨#[105,110,116]⟩:=by unfold Ce Vv; simp only[Tr.den]; (repeat (first | simp only[aI,sel] | rw[aA (by decide)] | rw[aC (by decide)] | rw[aC (tlF (by decide))] | rw[aA (tlT (by decide))] | rw[aC (tlN (by decide))] | rw[aA (tlM (by decide))]))
theorem aML:Ce 1=some ⟨#[116,101,120,116]⟩:=by unfold Ce Vv; simp only[Tr.den]; (repeat (first | simp only[aI,sel] | rw[aA (by decide)] | rw[aC (by decide)] | rw[aC (tlF (by decide))] | rw[aA (tlT (by decide))] | rw[aC (tlN (by decide))] | rw[aA (tlM (by decide))]))
theorem aNT:Ce 2=some ⟨#[98,111,111,108]⟩:=by unfold Ce Vv; simp only[Tr.den]; (repeat (first | simp only[aI,sel] | rw[aA (by decide)] | rw[aC (by decide)] | rw[aC (tlF (by decide))] | rw[aA (tlT (by decide))] | rw[aC (tlN (by decide))] | rw[aA (tlM (by decide))]))
theorem aTX:aCS wN=some (0,false):=by
 unfold aCS aJA;simp only[Tr.den];have h0:Tr.den (gK wN 0)=some (.inl 1):=by unfold gK; simp only[Tr.den]; (repeat (first | simp only[aI,sel] | rw[aA (by decide)] | rw[aC (by decide)] | rw[aC (tlF (by decide))] | rw[aA (tlT (by decide))] | rw[aC (tlN (by decide))] | rw[aA (tlM (by decide))])); rw[aAI]; (repeat (first | simp only[aI] | rw[aA (by decide)] | rw[aC (by decide)] | rw[aC (tlF (by decide))] | rw[aA (tlT (by decide))] | rw[aC (tlN (by decide))] | rw[aA (tlM (by decide))])); rfl
 have h1:Tr.den (gK wN 1)=some (.inl 2):=by unfold gK; simp only[Tr.den]; (repeat (first | simp only[aI,sel] | rw[aA (by decide)] | rw[aC (by decide)] | rw[aC (tlF (by decide))] | rw[aA (tlT (by decide))] | rw[aC (tlN (by decide))] | rw[aA (tlM (by decide))])); rw[aML]; (repeat (first | simp only[aI] | rw[aA (by decide)] | rw[aC (by decide)] | rw[aC (tlF (by decide))] | rw[aA (tlT (by decide))] | rw[aC (tlN (by decide))] | rw[aA (tlM (by decide))])); rfl
 have h2:Tr.den (gK wN 2)=some (.inl 3):=by unfold gK; simp only[Tr.den]; (repeat (first | simp only[aI,sel] | rw[aA (by decide)] | rw[aC (by decide)] | rw[aC (tlF (by decide))] | rw[aA (tlT (by decide))] | rw[aC (tlN (by decide))] | rw[aA (tlM (by decide))])); rw[aNT]; (repeat (first | simp only[aI] | rw[aA (by decide)] | rw[aC (by decide)] | rw[aC (tlF (by decide))] | rw[aA (tlT (by decide))] | rw[aC (tlN (by decide))] | rw[aA (tlM (by decide))])); rfl
 have h3:Tr.den (gK wN 3)=some (.inr (.inl ())):=by unfold gK; simp only[Tr.den]; (repeat (first | simp only[aI,sel] | rw[aA (by decide)] | rw[aC (by decide)] | rw[aC (tlF (by decide))] | rw[aA (tlT (by decide))] | rw[aC (tlN (by decide))] | rw[aA (tlM (by decide))]))
 rw[bH (b:=fun s=>Tr.den (gK wN s)) h0,bH (b:=fun s=>Tr.den (gK wN s)) h1,bH (b:=fun s=>Tr.den (gK wN s)) h2,cF (b:=fun s=>Tr.den (gK wN s)) h3];rfl
theorem aNE:Fy wN=some true:=by
 unfold Fy aAV;simp only[Tr.den]
 (repeat (first | simp only[aI] | rw[aA (by decide)] | rw[aC (by decide)] | rw[aC (tlF (by decide))] | rw[aA (tlT (by decide))] | rw[aC (tlN (by decide))] | rw[aA (tlM (by decide))]))
 rw[bL (n:=3) (r:=.inl ()) (by kernel_rfl)];rfl
theorem aLO:Fy wS=some true:=by
 unfold Fy aAV;simp only[Tr.den]
 (repeat (first | simp only[aI] | rw[aA (by decide)] | rw[aC (by decide)] | rw[aC (tlF (by decide))] | rw[aA (tlT (by decide))] | rw[aC (tlN (by decide))] | rw[aA (tlM (by decide))]))
 rw[bL (n:=3) (r:=.inl ()) (by kernel_rfl)];rfl
theorem aTV:Xz wN=some true:=by unfold Xz aEO;simp only[Tr.den];rw[aTX,aNE];rfl
theorem aTY:Zd vN wN=some 0:=by
 unfold Zd aIU;simp only[Tr.den];have h0:Tr.den (sL vN wN 0)=some (.inr (.inr 0)):=by unfold sL; simp only[Tr.den]; (repeat (first | simp only[aI,sel] | rw[aA (by decide)] | rw[aC (by decide)] | rw[aC (tlF (by decide))] | rw[aA (tlT (by decide))] | rw[aC (tlN (by decide))] | rw[aA (tlM (by decide))]))
 rw[cF (b:=fun s=>Tr.den (sL vN wN s)) h0];rfl
theorem aTP:Ta vN=some true:=by
 unfold Ta aGX;simp only[Tr.den];have h0:Tr.den (lN vN 0)=some (.inl 1):=by
  unfold lN;simp only[Tr.den];have e:(vN.getD (0:Int).toNat default)=cU.mk wN 0 ⟨#[]⟩:=rfl;rw[e]
  (repeat (first | simp only[aI] | rw[aA (by decide)] | rw[aC (by decide)] | rw[aC (tlF (by decide))] | rw[aA (tlT (by decide))] | rw[aC (tlN (by decide))] | rw[aA (tlM (by decide))]))
  rw[aTV]
  (repeat (first | simp only[aI] | rw[aA (by decide)] | rw[aC (by decide)] | rw[aC (tlF (by decide))] | rw[aA (tlT (by decide))] | rw[aC (tlN (by decide))] | rw[aA (tlM (by decide))]))
  rw[aTY]
  (repeat (first | simp only[aI] | rw[aA (by decide)] | rw[aC (by decide)] | rw[aC (tlF (by decide))] | rw[aA (tlT (by decide))] | rw[aC (tlN (by decide))] | rw[aA (tlM (by decide))]))
  rw[aAI]
  (repeat (first | simp only[aI] | rw[aA (by decide)] | rw[aC (by decide)] | rw[aC (tlF (by decide))] | rw[aA (tlT (by decide))] | rw[aC (tlN (by decide))] | rw[aA (tlM (by decide))]))
  rfl
 have h1:Tr.den (lN vN 1)=some (.inr (.inl ())):=by unfold lN; simp only[Tr.den]; (repeat (first | simp only[aI,sel] | rw[aA (by decide)] | rw[aC (by decide)] | rw[aC (tlF (by decide))] | rw[aA (tlT (by decide))] | rw[aC (tlN (by decide))] | rw[aA (tlM (by decide))]))
 rw[bH (b:=fun s=>Tr.den (lN vN s)) h0,cF (b:=fun s=>Tr.den (lN vN s)) h1];rfl
theorem Ds:rE vN=some [0]:=by unfold rE Ul;simp only[Tr.den];rw[bL (n:=5) (r:=.inl [0]) (by kernel_rfl)];rfl
theorem aRD:rE mF.Cols=some [0,0]:=by unfold rE Ul;simp only[Tr.den];rw[bL (n:=5) (r:=.inl [0,0]) (by kernel_rfl)];rfl
theorem aLZ:rE kJ.Cols=some [0,0,0]:=by unfold rE Ul;simp only[Tr.den];rw[bL (n:=5) (r:=.inl [0,0,0]) (by kernel_rfl)];rfl
theorem Nc:Fd [0] [0]=some true:=by
 unfold Fd Sw;simp only[Tr.den]
 (repeat (first | simp only[aI,sel] | rw[aA (by decide)] | rw[aC (by decide)] | rw[aC (tlF (by decide))] | rw[aA (tlT (by decide))] | rw[aC (tlN (by decide))] | rw[aA (tlM (by decide))]))
 rw[bL (n:=5) (r:=.inl ()) (by kernel_rfl)];rfl
theorem aQF:Fd [0,0] [0,0]=some true:=by
 unfold Fd Sw;simp only[Tr.den]
 (repeat (first | simp only[aI,sel] | rw[aA (by decide)] | rw[aC (by decide)] | rw[aC (tlF (by decide))] | rw[aA (tlT (by decide))] | rw[aC (tlN (by decide))] | rw[aA (tlM (by decide))]))
 rw[bL (n:=5) (r:=.inl ()) (by kernel_rfl)];rfl
theorem aPX:Fd [0,0,0] [0,0,0]=some true:=by
 unfold Fd Sw;simp only[Tr.den]
 (repeat (first | simp only[aI,sel] | rw[aA (by decide)] | rw[aC (by decide)] | rw[aC (tlF (by decide))] | rw[aA (tlT (by decide))] | rw[aC (tlN (by decide))] | rw[aA (tlM (by decide))]))
 rw[bL (n:=5) (r:=.inl ()) (by kernel_rfl)];rfl
theorem aEV(r:List Int):Ci [] r=some true:=by unfold Ci aEN;simp only[Tr.den];rw[bL (n:=5) (r:=.inl ()) (by kernel_rfl)];rfl
theorem aRR(l:List Int):rM l []=some []:=by unfold rM Dm;simp only[Tr.den];rw[bL (n:=5) (r:=.inl []) (by kernel_rfl)];rfl
theorem e80:G80 zL=some 1:=by
 have h:Sp (G80 zL) (fun r=>r=1):=by unfold G80 H80;refine dL _ _ _ (fun a=>a=zL) (fun _=>0) (fun _ r=>r=1) (fun b f a ha _=>?_) true _ rfl;subst ha;unfold T80;simp only[Tr.den];rw[bL (n:=3) (r:=.inl 0) (by kernel_rfl)];exact aB.2 rfl
 obtain⟨y,h1,h2⟩:=h.get;rw[h1,h2]
theorem aTZ:Xo [] [0] [] zL=some (2,true):=by
 have h:Sp (Xo [] [0] [] zL) (fun r=>r=(2,true)):=by
  unfold Xo aNH;refine dL _ _ _ (fun a=>a=(([],[0],[],zL):List aO×List Int×List Int×aE)) (fun _=>0) (fun _ r=>r=(2,true)) (fun b f a ha _=>?_) true _ rfl;subst ha;unfold Vq;simp only[Tr.den];rw[bL (n:=3) (r:=.inl []) (by kernel_rfl)]
  (repeat (first | simp only[aI,sel] | rw[aA (by decide)] | rw[aC (by decide)] | rw[aC (tlF (by decide))] | rw[aA (tlT (by decide))] | rw[aC (tlN (by decide))] | rw[aA (tlM (by decide))]))
  rw[show Yc zL.Op=some 0 from by unfold Yc aEA; simp only[Tr.den]; (repeat (first | simp only[aI] | rw[aA (by decide)] | rw[aC (by decide)] | rw[aC (tlF (by decide))] | rw[aA (tlT (by decide))] | rw[aC (tlN (by decide))] | rw[aA (tlM (by decide))]))]
  (repeat (first | simp only[aI] | rw[aA (by decide)] | rw[aC (by decide)] | rw[aC (tlF (by decide))] | rw[aA (tlT (by decide))] | rw[aC (tlN (by decide))] | rw[aA (tlM (by decide))]))
  exact aB.2 rfl
 obtain⟨y,h1,h2⟩:=h.get;rw[h1,h2]
theorem aTT:Vp [] [0] zL=some true:=by
 unfold Vp aJE G86 T86 aKK aGB;simp only[Tr.den];rw[Cg]
 (repeat (first | simp only[aI] | rw[aA (by decide)] | rw[aC (by decide)] | rw[aC (tlF (by decide))] | rw[aA (tlT (by decide))] | rw[aC (tlN (by decide))] | rw[aA (tlM (by decide))]))
 rw[e80]
 (repeat (first | simp only[aI] | rw[aA (by decide)] | rw[aC (by decide)] | rw[aC (tlF (by decide))] | rw[aA (tlT (by decide))] | rw[aC (tlN (by decide))] | rw[aA (tlM (by decide))]))
 rw[aTZ]
 (repeat (first | simp only[aI] | rw[aA (by decide)] | rw[aC (by decide)] | rw[aC (tlF (by decide))] | rw[aA (tlT (by decide))] | rw[aC (tlN (by decide))] | rw[aA (tlM (by decide))]))
 rfl
theorem Hk:qP [] dF [] []=some ([0],true):=by
 unfold qP Nb;simp only[Tr.den]
 (repeat (first | simp only[aI,sel] | rw[aA (by decide)] | rw[aC (by decide)] | rw[aC (tlF (by decide))] | rw[aA (tlT (by decide))] | rw[aC (tlN (by decide))] | rw[aA (tlM (by decide))]))
 rw[show rE dF.Cols=some [0] from Ds]
 (repeat (first | simp only[aI] | rw[aA (by decide)] | rw[aC (by decide)] | rw[aC (tlF (by decide))] | rw[aA (tlT (by decide))] | rw[aC (tlN (by decide))] | rw[aA (tlM (by decide))]))
 rw[show Fy dF.Source=some true from aLO]
 (repeat (first | simp only[aI] | rw[aA (by decide)] | rw[aC (by decide)] | rw[aC (tlF (by decide))] | rw[aA (tlT (by decide))] | rw[aC (tlN (by decide))] | rw[aA (tlM (by decide))]))
 rw[show Ta dF.Cols=some true from aTP]
 (repeat (first | simp only[aI] | rw[aA (by decide)] | rw[aC (by decide)] | rw[aC (tlF (by decide))] | rw[aA (tlT (by decide))] | rw[aC (tlN (by decide))] | rw[aA (tlM (by decide))]))
theorem Xx:qP [] jO [0] []=some ([0],true):=by
 unfold qP Nb;simp only[Tr.den]
 (repeat (first | simp only[aI,sel] | rw[aA (by decide)] | rw[aC (by decide)] | rw[aC (tlF (by decide))] | rw[aA (tlT (by decide))] | rw[aC (tlN (by decide))] | rw[aA (tlM (by decide))]))
 rw[show Vp [] [0] (jO.Exprs.getD (0:Int).toNat default)=some true from aTT]
 (repeat (first | simp only[aI] | rw[aA (by decide)] | rw[aC (by decide)] | rw[aC (tlF (by decide))] | rw[aA (tlT (by decide))] | rw[aC (tlN (by decide))] | rw[aA (tlM (by decide))]))
theorem aFG:qP [] mF [0] []=some ([0,0],true):=by
 unfold qP Nb;simp only[Tr.den]
 (repeat (first | simp only[aI,sel] | rw[aA (by decide)] | rw[aC (by decide)] | rw[aC (tlF (by decide))] | rw[aA (tlT (by decide))] | rw[aC (tlN (by decide))] | rw[aA (tlM (by decide))]))
 rw[show Ci mF.Key [0]=some true from aEV _]
 (repeat (first | simp only[aI] | rw[aA (by decide)] | rw[aC (by decide)] | rw[aC (tlF (by decide))] | rw[aA (tlT (by decide))] | rw[aC (tlN (by decide))] | rw[aA (tlM (by decide))]))
 rw[show Ci mF.Key2 []=some true from aEV _]
 (repeat (first | simp only[aI] | rw[aA (by decide)] | rw[aC (by decide)] | rw[aC (tlF (by decide))] | rw[aA (tlT (by decide))] | rw[aC (tlN (by decide))] | rw[aA (tlM (by decide))]))
 rw[show rM [0] mF.Key=some [] from aRR _]
 (repeat (first | simp only[aI] | rw[aA (by decide)] | rw[aC (by decide)] | rw[aC (tlF (by decide))] | rw[aA (tlT (by decide))] | rw[aC (tlN (by decide))] | rw[aA (tlM (by decide))]))
 rw[bL (n:=5) (r:=.inl [0,0]) (by kernel_rfl)]
 (repeat (first | simp only[aI,sel] | rw[aA (by decide)] | rw[aC (by decide)] | rw[aC (tlF (by decide))] | rw[aA (tlT (by decide))] | rw[aC (tlN (by decide))] | rw[aA (tlM (by decide))]))
 rfl
theorem aJO:qP [] kJ [0] []=some ([0,0,0],true):=by
 unfold qP Nb;simp only[Tr.den]
 (repeat (first | simp only[aI,sel] | rw[aA (by decide)] | rw[aC (by decide)] | rw[aC (tlF (by decide))] | rw[aA (tlT (by decide))] | rw[aC (tlN (by decide))] | rw[aA (tlM (by decide))]))
 rw[show Ci kJ.Key [0]=some true from aEV _]
 (repeat (first | simp only[aI] | rw[aA (by decide)] | rw[aC (by decide)] | rw[aC (tlF (by decide))] | rw[aA (tlT (by decide))] | rw[aC (tlN (by decide))] | rw[aA (tlM (by decide))]))
 rw[show Ci kJ.Key2 []=some true from aEV _]
 (repeat (first | simp only[aI] | rw[aA (by decide)] | rw[aC (by decide)] | rw[aC (tlF (by decide))] | rw[aA (tlT (by decide))] | rw[aC (tlN (by decide))] | rw[aA (tlM (by decide))]))
 rw[show rM [0] kJ.Key=some [] from aRR _]
 (repeat (first | simp only[aI] | rw[aA (by decide)] | rw[aC (by decide)] | rw[aC (tlF (by decide))] | rw[aA (tlT (by decide))] | rw[aC (tlN (by decide))] | rw[aA (tlM (by decide))]))
 rw[bL (n:=5) (r:=.inl [0,0,0]) (by kernel_rfl)]
 (repeat (first | simp only[aI,sel] | rw[aA (by decide)] | rw[aC (by decide)] | rw[aC (tlF (by decide))] | rw[aA (tlT (by decide))] | rw[aC (tlN (by decide))] | rw[aA (tlM (by decide))]))
 rfl
theorem Ha:qO dF=some true:=by
 unfold qO Kv;simp only[Tr.den]
 (repeat (first | simp only[aI] | rw[aA (by decide)] | rw[aC (by decide)] | rw[aC (tlF (by decide))] | rw[aA (tlT (by decide))] | rw[aC (tlN (by decide))] | rw[aA (tlM (by decide))]))
 rfl
theorem aBR:qO jO=some true:=by
 unfold qO Kv;simp only[Tr.den]
 (repeat (first | simp only[aI] | rw[aA (by decide)] | rw[aC (by decide)] | rw[aC (tlF (by decide))] | rw[aA (tlT (by decide))] | rw[aC (tlN (by decide))] | rw[aA (tlM (by decide))]))
 rfl
theorem aDW:qO mF=some true:=by
 unfold qO Kv;simp only[Tr.den]
 (repeat (first | simp only[aI] | rw[aA (by decide)] | rw[aC (by decide)] | rw[aC (tlF (by decide))] | rw[aA (tlT (by decide))] | rw[aC (tlN (by decide))] | rw[aA (tlM (by decide))]))
 rfl
theorem aGZ:qO kJ=some true:=by
 unfold qO Kv;simp only[Tr.den]
 (repeat (first | simp only[aI] | rw[aA (by decide)] | rw[aC (by decide)] | rw[aC (tlF (by decide))] | rw[aA (tlT (by decide))] | rw[aC (tlN (by decide))] | rw[aA (tlM (by decide))]))
 rfl
theorem wK:vM 0=some ⟨#[48]⟩:=by
 have h:Sp (vM 0) (fun r=>r=⟨#[48]⟩):=by
  unfold vM Vk;refine dL _ _ _ (fun a=>a=0) (fun _=>0) (fun _ (r:ByteArray)=>r=⟨#[48]⟩) (fun b f a ha _=>?_) true _ rfl;subst ha;unfold Ji;simp only[Tr.den]
  (repeat (first | simp only[aI] | rw[aA (by decide)] | rw[aC (by decide)] | rw[aC (tlF (by decide))] | rw[aA (tlT (by decide))] | rw[aC (tlN (by decide))] | rw[aA (tlM (by decide))]))
  exact aB.2 (by kernel_rfl)
 obtain⟨y,h1,h2⟩:=h.get;rw[h1,h2]
theorem aAL:vM 1=some ⟨#[49]⟩:=by
 have h:Sp (vM 1) (fun r=>r=⟨#[49]⟩):=by
  unfold vM Vk;refine dL _ _ _ (fun a=>a=1) (fun _=>0) (fun _ (r:ByteArray)=>r=⟨#[49]⟩) (fun b f a ha _=>?_) true _ rfl;subst ha;unfold Ji;simp only[Tr.den]
  (repeat (first | simp only[aI] | rw[aA (by decide)] | rw[aC (by decide)] | rw[aC (tlF (by decide))] | rw[aA (tlT (by decide))] | rw[aC (tlN (by decide))] | rw[aA (tlM (by decide))]))
  exact aB.2 (by kernel_rfl)
 obtain⟨y,h1,h2⟩:=h.get;rw[h1,h2]
theorem aQJ:vM 2=some ⟨#[50]⟩:=by
 have h:Sp (vM 2) (fun r=>r=⟨#[50]⟩):=by
  unfold vM Vk;refine dL _ _ _ (fun a=>a=2) (fun _=>0) (fun _ (r:ByteArray)=>r=⟨#[50]⟩) (fun b f a ha _=>?_) true _ rfl;subst ha;unfold Ji;simp only[Tr.den]
  (repeat (first | simp only[aI] | rw[aA (by decide)] | rw[aC (by decide)] | rw[aC (tlF (by decide))] | rw[aA (tlT (by decide))] | rw[aC (tlN (by decide))] | rw[aA (tlM (by decide))]))
  exact aB.2 (by kernel_rfl)
 obtain⟨y,h1,h2⟩:=h.get;rw[h1,h2]
theorem Nq:cE (fun s=>Tr.den (bQ cK 0 ([0],true) s)) (([]:List aO),([]:List aG),([]:List aG),([[0]]:List (List Int)),([]:List cU),0)=some (.inl (([]:List aO),([]:List aG),([]:List aG),([[0]]:List (List Int)),dF.Cols)):=by
 have h0:Tr.den (bQ cK 0 ([0],true) (([]:List aO),([]:List aG),([]:List aG),([[0]]:List (List Int)),dF.Cols.take 0,0))=some (.inl (([]:List aO),([]:List aG),([]:List aG),([[0]]:List (List Int)),dF.Cols.take 1,1)):=by unfold bQ; simp only[Tr.den]; (repeat (first | simp only[aI,sel] | rw[aA (by decide)] | rw[aC (by decide)] | rw[aC (tlF (by decide))] | rw[aA (tlT (by decide))] | rw[aC (tlN (by decide))] | rw[aA (tlM (by decide))])); rw[wK]; (repeat (first | simp only[aI] | rw[aA (by decide)] | rw[aC (by decide)] | rw[aC (tlF (by decide))] | rw[aA (tlT (by decide))] | rw[aC (tlN (by decide))] | rw[aA (tlM (by decide))])); rfl
 have h1:Tr.den (bQ cK 0 ([0],true) (([]:List aO),([]:List aG),([]:List aG),([[0]]:List (List Int)),dF.Cols.take 1,1))=some (.inr (.inl (([]:List aO),([]:List aG),([]:List aG),([[0]]:List (List Int)),dF.Cols))):=by unfold bQ; simp only[Tr.den]; (repeat (first | simp only[aI,sel] | rw[aA (by decide)] | rw[aC (by decide)] | rw[aC (tlF (by decide))] | rw[aA (tlT (by decide))] | rw[aC (tlN (by decide))] | rw[aA (tlM (by decide))])); rfl
 exact(bH (b:=fun s=>Tr.den (bQ cK 0 ([0],true) s)) h0).trans (cF (b:=fun s=>Tr.den (bQ cK 0 ([0],true) s)) h1)
theorem Jz:Tr.den (dK cK (([]:List aO),([]:List aG),([]:List aG),([]:List (List Int)),0))=some (.inl (([]:List aO),([]:List aG),([dF]:List aG),([[0]]:List (List Int)),1)):=by
 unfold dK;simp only[Tr.den]
 (repeat (first | simp only[aI,sel] | rw[aA (by decide)] | rw[aC (by decide)] | rw[aC (tlF (by decide))] | rw[aA (tlT (by decide))] | rw[aC (tlN (by decide))] | rw[aA (tlM (by decide))]))
 rw[qA]
 (repeat (first | simp only[aI] | rw[aA (by decide)] | rw[aC (by decide)] | rw[aC (tlF (by decide))] | rw[aA (tlT (by decide))] | rw[aC (tlN (by decide))] | rw[aA (tlM (by decide))]))
 rw[show qO (cK.Nodes.getD (Int.toNat 0) default)=some true from Ha]
 (repeat (first | simp only[aI] | rw[aA (by decide)] | rw[aC (by decide)] | rw[aC (tlF (by decide))] | rw[aA (tlT (by decide))] | rw[aC (tlN (by decide))] | rw[aA (tlM (by decide))]))
 rw[bL (n:=4) (r:=.inl (([]:List aO),([]:List aG),([]:List aG),([]:List (List Int)),[],[])) (by kernel_rfl)]
 (repeat (first | simp only[aI,sel] | rw[aA (by decide)] | rw[aC (by decide)] | rw[aC (tlF (by decide))] | rw[aA (tlT (by decide))] | rw[aC (tlN (by decide))] | rw[aA (tlM (by decide))]))
 rw[show qP cK.Funcs (cK.Nodes.getD (Int.toNat 0) default) [] []=some ([0],true) from Hk]
 (repeat (first | simp only[aI] | rw[aA (by decide)] | rw[aC (by decide)] | rw[aC (tlF (by decide))] | rw[aA (tlT (by decide))] | rw[aC (tlN (by decide))] | rw[aA (tlM (by decide))]))
 refine(congrArg (fun x=>Option.bind x _) Nq).trans ?_
 (repeat (first | simp only[aI,sel] | rw[aA (by decide)] | rw[aC (by decide)] | rw[aC (tlF (by decide))] | rw[aA (tlT (by decide))] | rw[aC (tlN (by decide))] | rw[aA (tlM (by decide))]))
 rfl
theorem Mf:cE (fun s=>Tr.den (bQ cK 1 ([0,0],true) s)) (([]:List aO),([]:List aG),([dF]:List aG),([[0],[0,0]]:List (List Int)),([]:List cU),0)=some (.inl (([]:List aO),([]:List aG),([dF]:List aG),([[0],[0,0]]:List (List Int)),mF.Cols)):=by
 have h0:Tr.den (bQ cK 1 ([0,0],true) (([]:List aO),([]:List aG),([dF]:List aG),([[0],[0,0]]:List (List Int)),mF.Cols.take 0,0))=some (.inl (([]:List aO),([]:List aG),([dF]:List aG),([[0],[0,0]]:List (List Int)),mF.Cols.take 1,1)):=by unfold bQ; simp only[Tr.den]; (repeat (first | simp only[aI,sel] | rw[aA (by decide)] | rw[aC (by decide)] | rw[aC (tlF (by decide))] | rw[aA (tlT (by decide))] | rw[aC (tlN (by decide))] | rw[aA (tlM (by decide))])); rw[wK]; (repeat (first | simp only[aI] | rw[aA (by decide)] | rw[aC (by decide)] | rw[aC (tlF (by decide))] | rw[aA (tlT (by decide))] | rw[aC (tlN (by decide))] | rw[aA (tlM (by decide))])); rfl
 have h1:Tr.den (bQ cK 1 ([0,0],true) (([]:List aO),([]:List aG),([dF]:List aG),([[0],[0,0]]:List (List Int)),mF.Cols.take 1,1))=some (.inl (([]:List aO),([]:List aG),([dF]:List aG),([[0],[0,0]]:List (List Int)),mF.Cols.take 2,2)):=by unfold bQ; simp only[Tr.den]; (repeat (first | simp only[aI,sel] | rw[aA (by decide)] | rw[aC (by decide)] | rw[aC (tlF (by decide))] | rw[aA (tlT (by decide))] | rw[aC (tlN (by decide))] | rw[aA (tlM (by decide))])); rw[aAL]; (repeat (first | simp only[aI] | rw[aA (by decide)] | rw[aC (by decide)] | rw[aC (tlF (by decide))] | rw[aA (tlT (by decide))] | rw[aC (tlN (by decide))] | rw[aA (tlM (by decide))])); rfl
 have h2:Tr.den (bQ cK 1 ([0,0],true) (([]:List aO),([]:List aG),([dF]:List aG),([[0],[0,0]]:List (List Int)),mF.Cols.take 2,2))=some (.inr (.inl (([]:List aO),([]:List aG),([dF]:List aG),([[0],[0,0]]:List (List Int)),mF.Cols))):=by unfold bQ; simp only[Tr.den]; (repeat (first | simp only[aI,sel] | rw[aA (by decide)] | rw[aC (by decide)] | rw[aC (tlF (by decide))] | rw[aA (tlT (by decide))] | rw[aC (tlN (by decide))] | rw[aA (tlM (by decide))])); rfl
 exact(bH (b:=fun s=>Tr.den (bQ cK 1 ([0,0],true) s)) h0).trans ((bH (b:=fun s=>Tr.den (bQ cK 1 ([0,0],true) s)) h1).trans (cF (b:=fun s=>Tr.den (bQ cK 1 ([0,0],true) s)) h2))
theorem Nn:Tr.den (dK cK (([]:List aO),([]:List aG),([dF]:List aG),([[0]]:List (List Int)),1))=some (.inl (([]:List aO),([]:List aG),([dF,mF]:List aG),([[0],[0,0]]:List (List Int)),2)):=by
 unfold dK;simp only[Tr.den]
 (repeat (first | simp only[aI,sel] | rw[aA (by decide)] | rw[aC (by decide)] | rw[aC (tlF (by decide))] | rw[aA (tlT (by decide))] | rw[aC (tlN (by decide))] | rw[aA (tlM (by decide))]))
 rw[qA]
 (repeat (first | simp only[aI] | rw[aA (by decide)] | rw[aC (by decide)] | rw[aC (tlF (by decide))] | rw[aA (tlT (by decide))] | rw[aC (tlN (by decide))] | rw[aA (tlM (by decide))]))
 rw[show qO (cK.Nodes.getD (Int.toNat 1) default)=some true from aDW]
 (repeat (first | simp only[aI] | rw[aA (by decide)] | rw[aC (by decide)] | rw[aC (tlF (by decide))] | rw[aA (tlT (by decide))] | rw[aC (tlN (by decide))] | rw[aA (tlM (by decide))]))
 rw[bL (n:=4) (r:=.inl (([]:List aO),([]:List aG),([dF]:List aG),([[0]]:List (List Int)),[0],[])) (by kernel_rfl)]
 (repeat (first | simp only[aI,sel] | rw[aA (by decide)] | rw[aC (by decide)] | rw[aC (tlF (by decide))] | rw[aA (tlT (by decide))] | rw[aC (tlN (by decide))] | rw[aA (tlM (by decide))]))
 rw[show qP cK.Funcs (cK.Nodes.getD (Int.toNat 1) default) [0] []=some ([0,0],true) from aFG]
 (repeat (first | simp only[aI] | rw[aA (by decide)] | rw[aC (by decide)] | rw[aC (tlF (by decide))] | rw[aA (tlT (by decide))] | rw[aC (tlN (by decide))] | rw[aA (tlM (by decide))]))
 refine(congrArg (fun x=>Option.bind x _) Mf).trans ?_
 (repeat (first | simp only[aI,sel] | rw[aA (by decide)] | rw[aC (by decide)] | rw[aC (tlF (by decide))] | rw[aA (tlT (by decide))] | rw[aC (tlN (by decide))] | rw[aA (tlM (by decide))]))
 rfl
theorem aDQ:Lf cK=some (cK,true):=by
 unfold Lf Wk;simp only[Tr.den]
 (repeat (first | simp only[aI,sel] | rw[aA (by decide)] | rw[aC (by decide)] | rw[aC (tlF (by decide))] | rw[aA (tlT (by decide))] | rw[aC (tlN (by decide))] | rw[aA (tlM (by decide))]))
 rw[show G82 cK.Funcs=some true from Cg]
 (repeat (first | simp only[aI] | rw[aA (by decide)] | rw[aC (by decide)] | rw[aC (tlF (by decide))] | rw[aA (tlT (by decide))] | rw[aC (tlN (by decide))] | rw[aA (tlM (by decide))]))
 have hs:Tr.den (dK cK (([]:List aO),([]:List aG),([dF,mF]:List aG),([[0],[0,0]]:List (List Int)),2))=some (.inr (.inl (([]:List aO),([]:List aG),([dF,mF]:List aG)))):=by unfold dK; simp only[Tr.den]; (repeat (first | simp only[aI,sel] | rw[aA (by decide)] | rw[aC (by decide)] | rw[aC (tlF (by decide))] | rw[aA (tlT (by decide))] | rw[aC (tlN (by decide))] | rw[aA (tlM (by decide))]))
 refine(congrArg (fun x=>Option.bind x _) ((bH (b:=fun s=>Tr.den (dK cK s)) Jz).trans ((bH (b:=fun s=>Tr.den (dK cK s)) Nn).trans (cF (b:=fun s=>Tr.den (dK cK s)) hs)))).trans ?_
 (repeat (first | simp only[aI,sel] | rw[aA (by decide)] | rw[aC (by decide)] | rw[aC (tlF (by decide))] | rw[aA (tlT (by decide))] | rw[aC (tlN (by decide))] | rw[aA (tlM (by decide))]))
 rfl
theorem aBM:Jx cK=some true:=by
 unfold Jx aDJ;simp only[Tr.den];rw[aDQ]
 (repeat (first | simp only[aI] | rw[aA (by decide)] | rw[aC (by decide)] | rw[aC (tlF (by decide))] | rw[aA (tlT (by decide))] | rw[aC (tlN (by decide))] | rw[aA (tlM (by decide))]))
 have h0:Tr.den (dO cK (cK,true) 0)=some (.inl 1):=by unfold dO; simp only[Tr.den]; (repeat (first | simp only[aI,sel] | rw[aA (by decide)] | rw[aC (by decide)] | rw[aC (tlF (by decide))] | rw[aA (tlT (by decide))] | rw[aC (tlN (by decide))] | rw[aA (tlM (by decide))])); rw[show rE (cK.Nodes.getD (Int.toNat 0) default).Cols=some [0] from Ds]; (repeat (first | simp only[aI] | rw[aA (by decide)] | rw[aC (by decide)] | rw[aC (tlF (by decide))] | rw[aA (tlT (by decide))] | rw[aC (tlN (by decide))] | rw[aA (tlM (by decide))])); rw[Nc]; (repeat (first | simp only[aI] | rw[aA (by decide)] | rw[aC (by decide)] | rw[aC (tlF (by decide))] | rw[aA (tlT (by decide))] | rw[aC (tlN (by decide))] | rw[aA (tlM (by decide))])); rfl
 have h1:Tr.den (dO cK (cK,true) 1)=some (.inl 2):=by unfold dO; simp only[Tr.den]; (repeat (first | simp only[aI,sel] | rw[aA (by decide)] | rw[aC (by decide)] | rw[aC (tlF (by decide))] | rw[aA (tlT (by decide))] | rw[aC (tlN (by decide))] | rw[aA (tlM (by decide))])); rw[show rE (cK.Nodes.getD (Int.toNat 1) default).Cols=some [0,0] from aRD]; (repeat (first | simp only[aI] | rw[aA (by decide)] | rw[aC (by decide)] | rw[aC (tlF (by decide))] | rw[aA (tlT (by decide))] | rw[aC (tlN (by decide))] | rw[aA (tlM (by decide))])); rw[aQF]; (repeat (first | simp only[aI] | rw[aA (by decide)] | rw[aC (by decide)] | rw[aC (tlF (by decide))] | rw[aA (tlT (by decide))] | rw[aC (tlN (by decide))] | rw[aA (tlM (by decide))])); rfl
 have h2:Tr.den (dO cK (cK,true) 2)=some (.inr (.inl ())):=by unfold dO; simp only[Tr.den]; (repeat (first | simp only[aI,sel] | rw[aA (by decide)] | rw[aC (by decide)] | rw[aC (tlF (by decide))] | rw[aA (tlT (by decide))] | rw[aC (tlN (by decide))] | rw[aA (tlM (by decide))]))
 refine(congrArg (fun x=>Option.bind x _) ((bH (b:=fun s=>Tr.den (dO cK (cK,true) s)) h0).trans ((bH (b:=fun s=>Tr.den (dO cK (cK,true) s)) h1).trans (cF (b:=fun s=>Tr.den (dO cK (cK,true) s)) h2)))).trans ?_
 (repeat (first | simp only[aI,sel] | rw[aA (by decide)] | rw[aC (by decide)] | rw[aC (tlF (by decide))] | rw[aA (tlT (by decide))] | rw[aC (tlN (by decide))] | rw[aA (tlM (by decide))]))
theorem aCJ:Jy cK=some true:=by
 unfold Jy Xu;simp only[Tr.den]
 (repeat (first | simp only[aI] | rw[aA (by decide)] | rw[aC (by decide)] | rw[aC (tlF (by decide))] | rw[aA (tlT (by decide))] | rw[aC (tlN (by decide))] | rw[aA (tlM (by decide))]))
 have h0:Tr.den (dJ cK 0)=some (.inl 1):=by unfold dJ; simp only[Tr.den]; (repeat (first | simp only[aI,sel] | rw[aA (by decide)] | rw[aC (by decide)] | rw[aC (tlF (by decide))] | rw[aA (tlT (by decide))] | rw[aC (tlN (by decide))] | rw[aA (tlM (by decide))])); rw[show tO (cK.Nodes.getD (Int.toNat 0) default).Op=some 0 from by unfold tO Gz; simp only[Tr.den]; (repeat (first | simp only[aI,sel] | rw[aA (by decide)] | rw[aC (by decide)] | rw[aC (tlF (by decide))] | rw[aA (tlT (by decide))] | rw[aC (tlN (by decide))] | rw[aA (tlM (by decide))]))]; (repeat (first | simp only[aI] | rw[aA (by decide)] | rw[aC (by decide)] | rw[aC (tlF (by decide))] | rw[aA (tlT (by decide))] | rw[aC (tlN (by decide))] | rw[aA (tlM (by decide))])); rw[bL (n:=4) (r:=.inl ()) (by kernel_rfl)]; (repeat (first | simp only[aI,sel] | rw[aA (by decide)] | rw[aC (by decide)] | rw[aC (tlF (by decide))] | rw[aA (tlT (by decide))] | rw[aC (tlN (by decide))] | rw[aA (tlM (by decide))])); rfl
 have h1:Tr.den (dJ cK 1)=some (.inl 2):=by unfold dJ; simp only[Tr.den]; (repeat (first | simp only[aI,sel] | rw[aA (by decide)] | rw[aC (by decide)] | rw[aC (tlF (by decide))] | rw[aA (tlT (by decide))] | rw[aC (tlN (by decide))] | rw[aA (tlM (by decide))])); rw[show tO (cK.Nodes.getD (Int.toNat 1) default).Op=some 1 from by unfold tO Gz; simp only[Tr.den]; (repeat (first | simp only[aI] | rw[aA (by decide)] | rw[aC (by decide)] | rw[aC (tlF (by decide))] | rw[aA (tlT (by decide))] | rw[aC (tlN (by decide))] | rw[aA (tlM (by decide))]))]; (repeat (first | simp only[aI] | rw[aA (by decide)] | rw[aC (by decide)] | rw[aC (tlF (by decide))] | rw[aA (tlT (by decide))] | rw[aC (tlN (by decide))] | rw[aA (tlM (by decide))])); rw[bL (n:=4) (r:=.inl ()) (by kernel_rfl)]; (repeat (first | simp only[aI,sel] | rw[aA (by decide)] | rw[aC (by decide)] | rw[aC (tlF (by decide))] | rw[aA (tlT (by decide))] | rw[aC (tlN (by decide))] | rw[aA (tlM (by decide))])); rfl
 have h2:Tr.den (dJ cK 2)=some (.inr (.inl ())):=by unfold dJ; simp only[Tr.den]; (repeat (first | simp only[aI,sel] | rw[aA (by decide)] | rw[aC (by decide)] | rw[aC (tlF (by decide))] | rw[aA (tlT (by decide))] | rw[aC (tlN (by decide))] | rw[aA (tlM (by decide))]))
 refine(congrArg (fun x=>Option.bind x _) ((bH (b:=fun s=>Tr.den (dJ cK s)) h0).trans ((bH (b:=fun s=>Tr.den (dJ cK s)) h1).trans (cF (b:=fun s=>Tr.den (dJ cK s)) h2)))).trans ?_
 (repeat (first | simp only[aI,sel] | rw[aA (by decide)] | rw[aC (by decide)] | rw[aC (tlF (by decide))] | rw[aA (tlT (by decide))] | rw[aC (tlN (by decide))] | rw[aA (tlM (by decide))]))
theorem Ho:Mn cK=some true:=by
 unfold Mn Zw;simp only[Tr.den];rw[aBM]
 (repeat (first | simp only[aI] | rw[aA (by decide)] | rw[aC (by decide)] | rw[aC (tlF (by decide))] | rw[aA (tlT (by decide))] | rw[aC (tlN (by decide))] | rw[aA (tlM (by decide))]))
 rw[aCJ]
 (repeat (first | simp only[aI] | rw[aA (by decide)] | rw[aC (by decide)] | rw[aC (tlF (by decide))] | rw[aA (tlT (by decide))] | rw[aC (tlN (by decide))] | rw[aA (tlM (by decide))]))
 have h0:Tr.den (dD cK 0)=some (.inl 1):=by unfold dD; simp only[Tr.den]; (repeat (first | simp only[aI,sel] | rw[aA (by decide)] | rw[aC (by decide)] | rw[aC (tlF (by decide))] | rw[aA (tlT (by decide))] | rw[aC (tlN (by decide))] | rw[aA (tlM (by decide))])); rw[show G83 (cK.Nodes.getD (Int.toNat 0) default)=some true from by unfold G83 T83; simp only[Tr.den,qI]; (repeat (first | simp only[aI] | rw[aA (by decide)] | rw[aC (by decide)] | rw[aC (tlF (by decide))] | rw[aA (tlT (by decide))] | rw[aC (tlN (by decide))] | rw[aA (tlM (by decide))])); try rfl]; (repeat (first | simp only[aI] | rw[aA (by decide)] | rw[aC (by decide)] | rw[aC (tlF (by decide))] | rw[aA (tlT (by decide))] | rw[aC (tlN (by decide))] | rw[aA (tlM (by decide))])); rfl
 have h1:Tr.den (dD cK 1)=some (.inl 2):=by unfold dD; simp only[Tr.den]; (repeat (first | simp only[aI,sel] | rw[aA (by decide)] | rw[aC (by decide)] | rw[aC (tlF (by decide))] | rw[aA (tlT (by decide))] | rw[aC (tlN (by decide))] | rw[aA (tlM (by decide))])); rw[show G83 (cK.Nodes.getD (Int.toNat 1) default)=some true from by unfold G83 T83; simp only[Tr.den,qI]; (repeat (first | simp only[aI] | rw[aA (by decide)] | rw[aC (by decide)] | rw[aC (tlF (by decide))] | rw[aA (tlT (by decide))] | rw[aC (tlN (by decide))] | rw[aA (tlM (by decide))])); try rfl]; (repeat (first | simp only[aI] | rw[aA (by decide)] | rw[aC (by decide)] | rw[aC (tlF (by decide))] | rw[aA (tlT (by decide))] | rw[aC (tlN (by decide))] | rw[aA (tlM (by decide))])); rfl
 have h2:Tr.den (dD cK 2)=some (.inr (.inl ())):=by unfold dD; simp only[Tr.den]; (repeat (first | simp only[aI,sel] | rw[aA (by decide)] | rw[aC (by decide)] | rw[aC (tlF (by decide))] | rw[aA (tlT (by decide))] | rw[aC (tlN (by decide))] | rw[aA (tlM (by decide))]))
 refine(congrArg (fun x=>Option.bind x _) ((bH (b:=fun s=>Tr.den (dD cK s)) h0).trans ((bH (b:=fun s=>Tr.den (dD cK s)) h1).trans (cF (b:=fun s=>Tr.den (dD cK s)) h2)))).trans ?_
 (repeat (first | simp only[aI,sel] | rw[aA (by decide)] | rw[aC (by decide)] | rw[aC (tlF (by decide))] | rw[aA (tlT (by decide))] | rw[aC (tlN (by decide))] | rw[aA (tlM (by decide))]))
theorem Jl:cE (fun s=>Tr.den (bQ bY 0 ([0],true) s)) (([]:List aO),([]:List aG),([]:List aG),([[0]]:List (List Int)),([]:List cU),0)=some (.inl (([]:List aO),([]:List aG),([]:List aG),([[0]]:List (List Int)),dF.Cols)):=by
 have h0:Tr.den (bQ bY 0 ([0],true) (([]:List aO),([]:List aG),([]:List aG),([[0]]:List (List Int)),dF.Cols.take 0,0))=some (.inl (([]:List aO),([]:List aG),([]:List aG),([[0]]:List (List Int)),dF.Cols.take 1,1)):=by unfold bQ; simp only[Tr.den]; (repeat (first | simp only[aI,sel] | rw[aA (by decide)] | rw[aC (by decide)] | rw[aC (tlF (by decide))] | rw[aA (tlT (by decide))] | rw[aC (tlN (by decide))] | rw[aA (tlM (by decide))])); rw[wK]; (repeat (first | simp only[aI] | rw[aA (by decide)] | rw[aC (by decide)] | rw[aC (tlF (by decide))] | rw[aA (tlT (by decide))] | rw[aC (tlN (by decide))] | rw[aA (tlM (by decide))])); rfl
 have h1:Tr.den (bQ bY 0 ([0],true) (([]:List aO),([]:List aG),([]:List aG),([[0]]:List (List Int)),dF.Cols.take 1,1))=some (.inr (.inl (([]:List aO),([]:List aG),([]:List aG),([[0]]:List (List Int)),dF.Cols))):=by unfold bQ; simp only[Tr.den]; (repeat (first | simp only[aI,sel] | rw[aA (by decide)] | rw[aC (by decide)] | rw[aC (tlF (by decide))] | rw[aA (tlT (by decide))] | rw[aC (tlN (by decide))] | rw[aA (tlM (by decide))])); rfl
 exact(bH (b:=fun s=>Tr.den (bQ bY 0 ([0],true) s)) h0).trans (cF (b:=fun s=>Tr.den (bQ bY 0 ([0],true) s)) h1)
theorem Mi:Tr.den (dK bY (([]:List aO),([]:List aG),([]:List aG),([]:List (List Int)),0))=some (.inl (([]:List aO),([]:List aG),([dF]:List aG),([[0]]:List (List Int)),1)):=by
 unfold dK;simp only[Tr.den]
 (repeat (first | simp only[aI,sel] | rw[aA (by decide)] | rw[aC (by decide)] | rw[aC (tlF (by decide))] | rw[aA (tlT (by decide))] | rw[aC (tlN (by decide))] | rw[aA (tlM (by decide))]))
 rw[qA]
 (repeat (first | simp only[aI] | rw[aA (by decide)] | rw[aC (by decide)] | rw[aC (tlF (by decide))] | rw[aA (tlT (by decide))] | rw[aC (tlN (by decide))] | rw[aA (tlM (by decide))]))
 rw[show qO (bY.Nodes.getD (Int.toNat 0) default)=some true from Ha]
 (repeat (first | simp only[aI] | rw[aA (by decide)] | rw[aC (by decide)] | rw[aC (tlF (by decide))] | rw[aA (tlT (by decide))] | rw[aC (tlN (by decide))] | rw[aA (tlM (by decide))]))
 rw[bL (n:=4) (r:=.inl (([]:List aO),([]:List aG),([]:List aG),([]:List (List Int)),[],[])) (by kernel_rfl)]
 (repeat (first | simp only[aI,sel] | rw[aA (by decide)] | rw[aC (by decide)] | rw[aC (tlF (by decide))] | rw[aA (tlT (by decide))] | rw[aC (tlN (by decide))] | rw[aA (tlM (by decide))]))
 rw[show qP bY.Funcs (bY.Nodes.getD (Int.toNat 0) default) [] []=some ([0],true) from Hk]
 (repeat (first | simp only[aI] | rw[aA (by decide)] | rw[aC (by decide)] | rw[aC (tlF (by decide))] | rw[aA (tlT (by decide))] | rw[aC (tlN (by decide))] | rw[aA (tlM (by decide))]))
 refine(congrArg (fun x=>Option.bind x _) Jl).trans ?_
 (repeat (first | simp only[aI,sel] | rw[aA (by decide)] | rw[aC (by decide)] | rw[aC (tlF (by decide))] | rw[aA (tlT (by decide))] | rw[aC (tlN (by decide))] | rw[aA (tlM (by decide))]))
 rfl
theorem Jc:cE (fun s=>Tr.den (bQ bY 1 ([0],true) s)) (([]:List aO),([]:List aG),([dF]:List aG),([[0],[0]]:List (List Int)),([]:List cU),0)=some (.inl (([]:List aO),([]:List aG),([dF]:List aG),([[0],[0]]:List (List Int)),jO.Cols)):=by
 have h0:Tr.den (bQ bY 1 ([0],true) (([]:List aO),([]:List aG),([dF]:List aG),([[0],[0]]:List (List Int)),jO.Cols.take 0,0))=some (.inl (([]:List aO),([]:List aG),([dF]:List aG),([[0],[0]]:List (List Int)),jO.Cols.take 1,1)):=by unfold bQ; simp only[Tr.den]; (repeat (first | simp only[aI,sel] | rw[aA (by decide)] | rw[aC (by decide)] | rw[aC (tlF (by decide))] | rw[aA (tlT (by decide))] | rw[aC (tlN (by decide))] | rw[aA (tlM (by decide))])); rw[wK]; (repeat (first | simp only[aI] | rw[aA (by decide)] | rw[aC (by decide)] | rw[aC (tlF (by decide))] | rw[aA (tlT (by decide))] | rw[aC (tlN (by decide))] | rw[aA (tlM (by decide))])); rfl
 have h1:Tr.den (bQ bY 1 ([0],true) (([]:List aO),([]:List aG),([dF]:List aG),([[0],[0]]:List (List Int)),jO.Cols.take 1,1))=some (.inr (.inl (([]:List aO),([]:List aG),([dF]:List aG),([[0],[0]]:List (List Int)),jO.Cols))):=by unfold bQ; simp only[Tr.den]; (repeat (first | simp only[aI,sel] | rw[aA (by decide)] | rw[aC (by decide)] | rw[aC (tlF (by decide))] | rw[aA (tlT (by decide))] | rw[aC (tlN (by decide))] | rw[aA (tlM (by decide))])); rfl
 exact(bH (b:=fun s=>Tr.den (bQ bY 1 ([0],true) s)) h0).trans (cF (b:=fun s=>Tr.den (bQ bY 1 ([0],true) s)) h1)
theorem Jt:Tr.den (dK bY (([]:List aO),([]:List aG),([dF]:List aG),([[0]]:List (List Int)),1))=some (.inl (([]:List aO),([]:List aG),([dF,jO]:List aG),([[0],[0]]:List (List Int)),2)):=by
 unfold dK;simp only[Tr.den]
 (repeat (first | simp only[aI,sel] | rw[aA (by decide)] | rw[aC (by decide)] | rw[aC (tlF (by decide))] | rw[aA (tlT (by decide))] | rw[aC (tlN (by decide))] | rw[aA (tlM (by decide))]))
 rw[qA]
 (repeat (first | simp only[aI] | rw[aA (by decide)] | rw[aC (by decide)] | rw[aC (tlF (by decide))] | rw[aA (tlT (by decide))] | rw[aC (tlN (by decide))] | rw[aA (tlM (by decide))]))
 rw[show qO (bY.Nodes.getD (Int.toNat 1) default)=some true from aBR]
 (repeat (first | simp only[aI] | rw[aA (by decide)] | rw[aC (by decide)] | rw[aC (tlF (by decide))] | rw[aA (tlT (by decide))] | rw[aC (tlN (by decide))] | rw[aA (tlM (by decide))]))
 rw[bL (n:=4) (r:=.inl (([]:List aO),([]:List aG),([dF]:List aG),([[0]]:List (List Int)),[0],[])) (by kernel_rfl)]
 (repeat (first | simp only[aI,sel] | rw[aA (by decide)] | rw[aC (by decide)] | rw[aC (tlF (by decide))] | rw[aA (tlT (by decide))] | rw[aC (tlN (by decide))] | rw[aA (tlM (by decide))]))
 rw[show qP bY.Funcs (bY.Nodes.getD (Int.toNat 1) default) [0] []=some ([0],true) from Xx]
 (repeat (first | simp only[aI] | rw[aA (by decide)] | rw[aC (by decide)] | rw[aC (tlF (by decide))] | rw[aA (tlT (by decide))] | rw[aC (tlN (by decide))] | rw[aA (tlM (by decide))]))
 refine(congrArg (fun x=>Option.bind x _) Jc).trans ?_
 (repeat (first | simp only[aI,sel] | rw[aA (by decide)] | rw[aC (by decide)] | rw[aC (tlF (by decide))] | rw[aA (tlT (by decide))] | rw[aC (tlN (by decide))] | rw[aA (tlM (by decide))]))
 rfl
theorem Lc:cE (fun s=>Tr.den (bQ bY 2 ([0,0,0],true) s)) (([]:List aO),([]:List aG),([dF,jO]:List aG),([[0],[0],[0,0,0]]:List (List Int)),([]:List cU),0)=some (.inl (([]:List aO),([]:List aG),([dF,jO]:List aG),([[0],[0],[0,0,0]]:List (List Int)),kJ.Cols)):=by
 have h0:Tr.den (bQ bY 2 ([0,0,0],true) (([]:List aO),([]:List aG),([dF,jO]:List aG),([[0],[0],[0,0,0]]:List (List Int)),kJ.Cols.take 0,0))=some (.inl (([]:List aO),([]:List aG),([dF,jO]:List aG),([[0],[0],[0,0,0]]:List (List Int)),kJ.Cols.take 1,1)):=by unfold bQ; simp only[Tr.den]; (repeat (first | simp only[aI,sel] | rw[aA (by decide)] | rw[aC (by decide)] | rw[aC (tlF (by decide))] | rw[aA (tlT (by decide))] | rw[aC (tlN (by decide))] | rw[aA (tlM (by decide))])); rw[wK]; (repeat (first | simp only[aI] | rw[aA (by decide)] | rw[aC (by decide)] | rw[aC (tlF (by decide))] | rw[aA (tlT (by decide))] | rw[aC (tlN (by decide))] | rw[aA (tlM (by decide))])); rfl
 have h1:Tr.den (bQ bY 2 ([0,0,0],true) (([]:List aO),([]:List aG),([dF,jO]:List aG),([[0],[0],[0,0,0]]:List (List Int)),kJ.Cols.take 1,1))=some (.inl (([]:List aO),([]:List aG),([dF,jO]:List aG),([[0],[0],[0,0,0]]:List (List Int)),kJ.Cols.take 2,2)):=by unfold bQ; simp only[Tr.den]; (repeat (first | simp only[aI,sel] | rw[aA (by decide)] | rw[aC (by decide)] | rw[aC (tlF (by decide))] | rw[aA (tlT (by decide))] | rw[aC (tlN (by decide))] | rw[aA (tlM (by decide))])); rw[aAL]; (repeat (first | simp only[aI] | rw[aA (by decide)] | rw[aC (by decide)] | rw[aC (tlF (by decide))] | rw[aA (tlT (by decide))] | rw[aC (tlN (by decide))] | rw[aA (tlM (by decide))])); rfl
 have h2:Tr.den (bQ bY 2 ([0,0,0],true) (([]:List aO),([]:List aG),([dF,jO]:List aG),([[0],[0],[0,0,0]]:List (List Int)),kJ.Cols.take 2,2))=some (.inl (([]:List aO),([]:List aG),([dF,jO]:List aG),([[0],[0],[0,0,0]]:List (List Int)),kJ.Cols.take 3,3)):=by unfold bQ; simp only[Tr.den]; (repeat (first | simp only[aI,sel] | rw[aA (by decide)] | rw[aC (by decide)] | rw[aC (tlF (by decide))] | rw[aA (tlT (by decide))] | rw[aC (tlN (by decide))] | rw[aA (tlM (by decide))])); rw[aQJ]; (repeat (first | simp only[aI] | rw[aA (by decide)] | rw[aC (by decide)] | rw[aC (tlF (by decide))] | rw[aA (tlT (by decide))] | rw[aC (tlN (by decide))] | rw[aA (tlM (by decide))])); rfl
 have h3:Tr.den (bQ bY 2 ([0,0,0],true) (([]:List aO),([]:List aG),([dF,jO]:List aG),([[0],[0],[0,0,0]]:List (List Int)),kJ.Cols.take 3,3))=some (.inr (.inl (([]:List aO),([]:List aG),([dF,jO]:List aG),([[0],[0],[0,0,0]]:List (List Int)),kJ.Cols))):=by unfold bQ; simp only[Tr.den]; (repeat (first | simp only[aI,sel] | rw[aA (by decide)] | rw[aC (by decide)] | rw[aC (tlF (by decide))] | rw[aA (tlT (by decide))] | rw[aC (tlN (by decide))] | rw[aA (tlM (by decide))])); rfl
 exact(bH (b:=fun s=>Tr.den (bQ bY 2 ([0,0,0],true) s)) h0).trans ((bH (b:=fun s=>Tr.den (bQ bY 2 ([0,0,0],true) s)) h1).trans ((bH (b:=fun s=>Tr.den (bQ bY 2 ([0,0,0],true) s)) h2).trans (cF (b:=fun s=>Tr.den (bQ bY 2 ([0,0,0],true) s)) h3)))
theorem Mx:Tr.den (dK bY (([]:List aO),([]:List aG),([dF,jO]:List aG),([[0],[0]]:List (List Int)),2))=some (.inl (([]:List aO),([]:List aG),([dF,jO,kJ]:List aG),([[0],[0],[0,0,0]]:List (List Int)),3)):=by
 unfold dK;simp only[Tr.den]
 (repeat (first | simp only[aI,sel] | rw[aA (by decide)] | rw[aC (by decide)] | rw[aC (tlF (by decide))] | rw[aA (tlT (by decide))] | rw[aC (tlN (by decide))] | rw[aA (tlM (by decide))]))
 rw[qA]
 (repeat (first | simp only[aI] | rw[aA (by decide)] | rw[aC (by decide)] | rw[aC (tlF (by decide))] | rw[aA (tlT (by decide))] | rw[aC (tlN (by decide))] | rw[aA (tlM (by decide))]))
 rw[show qO (bY.Nodes.getD (Int.toNat 2) default)=some true from aGZ]
 (repeat (first | simp only[aI] | rw[aA (by decide)] | rw[aC (by decide)] | rw[aC (tlF (by decide))] | rw[aA (tlT (by decide))] | rw[aC (tlN (by decide))] | rw[aA (tlM (by decide))]))
 rw[bL (n:=4) (r:=.inl (([]:List aO),([]:List aG),([dF,jO]:List aG),([[0],[0]]:List (List Int)),[0],[])) (by kernel_rfl)]
 (repeat (first | simp only[aI,sel] | rw[aA (by decide)] | rw[aC (by decide)] | rw[aC (tlF (by decide))] | rw[aA (tlT (by decide))] | rw[aC (tlN (by decide))] | rw[aA (tlM (by decide))]))
 rw[show qP bY.Funcs (bY.Nodes.getD (Int.toNat 2) default) [0] []=some ([0,0,0],true) from aJO]
 (repeat (first | simp only[aI] | rw[aA (by decide)] | rw[aC (by decide)] | rw[aC (tlF (by decide))] | rw[aA (tlT (by decide))] | rw[aC (tlN (by decide))] | rw[aA (tlM (by decide))]))
 refine(congrArg (fun x=>Option.bind x _) Lc).trans ?_
 (repeat (first | simp only[aI,sel] | rw[aA (by decide)] | rw[aC (by decide)] | rw[aC (tlF (by decide))] | rw[aA (tlT (by decide))] | rw[aC (tlN (by decide))] | rw[aA (tlM (by decide))]))
 rfl
theorem Zr:Lf bY=some (bY,true):=by
 unfold Lf Wk;simp only[Tr.den]
 (repeat (first | simp only[aI,sel] | rw[aA (by decide)] | rw[aC (by decide)] | rw[aC (tlF (by decide))] | rw[aA (tlT (by decide))] | rw[aC (tlN (by decide))] | rw[aA (tlM (by decide))]))
 rw[show G82 bY.Funcs=some true from Cg]
 (repeat (first | simp only[aI] | rw[aA (by decide)] | rw[aC (by decide)] | rw[aC (tlF (by decide))] | rw[aA (tlT (by decide))] | rw[aC (tlN (by decide))] | rw[aA (tlM (by decide))]))
 have hs:Tr.den (dK bY (([]:List aO),([]:List aG),([dF,jO,kJ]:List aG),([[0],[0],[0,0,0]]:List (List Int)),3))=some (.inr (.inl (([]:List aO),([]:List aG),([dF,jO,kJ]:List aG)))):=by unfold dK; simp only[Tr.den]; (repeat (first | simp only[aI,sel] | rw[aA (by decide)] | rw[aC (by decide)] | rw[aC (tlF (by decide))] | rw[aA (tlT (by decide))] | rw[aC (tlN (by decide))] | rw[aA (tlM (by decide))]))
 refine(congrArg (fun x=>Option.bind x _) ((bH (b:=fun s=>Tr.den (dK bY s)) Mi).trans ((bH (b:=fun s=>Tr.den (dK bY s)) Jt).trans ((bH (b:=fun s=>Tr.den (dK bY s)) Mx).trans (cF (b:=fun s=>Tr.den (dK bY s)) hs))))).trans ?_
 (repeat (first | simp only[aI,sel] | rw[aA (by decide)] | rw[aC (by decide)] | rw[aC (tlF (by decide))] | rw[aA (tlT (by decide))] | rw[aC (tlN (by decide))] | rw[aA (tlM (by decide))]))
 rfl
theorem Zc:Jx bY=some true:=by
 unfold Jx aDJ;simp only[Tr.den];rw[Zr]
 (repeat (first | simp only[aI] | rw[aA (by decide)] | rw[aC (by decide)] | rw[aC (tlF (by decide))] | rw[aA (tlT (by decide))] | rw[aC (tlN (by decide))] | rw[aA (tlM (by decide))]))
 have h0:Tr.den (dO bY (bY,true) 0)=some (.inl 1):=by unfold dO; simp only[Tr.den]; (repeat (first | simp only[aI,sel] | rw[aA (by decide)] | rw[aC (by decide)] | rw[aC (tlF (by decide))] | rw[aA (tlT (by decide))] | rw[aC (tlN (by decide))] | rw[aA (tlM (by decide))])); rw[show rE (bY.Nodes.getD (Int.toNat 0) default).Cols=some [0] from Ds]; (repeat (first | simp only[aI] | rw[aA (by decide)] | rw[aC (by decide)] | rw[aC (tlF (by decide))] | rw[aA (tlT (by decide))] | rw[aC (tlN (by decide))] | rw[aA (tlM (by decide))])); rw[Nc]; (repeat (first | simp only[aI] | rw[aA (by decide)] | rw[aC (by decide)] | rw[aC (tlF (by decide))] | rw[aA (tlT (by decide))] | rw[aC (tlN (by decide))] | rw[aA (tlM (by decide))])); rfl
 have h1:Tr.den (dO bY (bY,true) 1)=some (.inl 2):=by unfold dO; simp only[Tr.den]; (repeat (first | simp only[aI,sel] | rw[aA (by decide)] | rw[aC (by decide)] | rw[aC (tlF (by decide))] | rw[aA (tlT (by decide))] | rw[aC (tlN (by decide))] | rw[aA (tlM (by decide))])); rw[show rE (bY.Nodes.getD (Int.toNat 1) default).Cols=some [0] from Ds]; (repeat (first | simp only[aI] | rw[aA (by decide)] | rw[aC (by decide)] | rw[aC (tlF (by decide))] | rw[aA (tlT (by decide))] | rw[aC (tlN (by decide))] | rw[aA (tlM (by decide))])); rw[Nc]; (repeat (first | simp only[aI] | rw[aA (by decide)] | rw[aC (by decide)] | rw[aC (tlF (by decide))] | rw[aA (tlT (by decide))] | rw[aC (tlN (by decide))] | rw[aA (tlM (by decide))])); rfl
 have h2:Tr.den (dO bY (bY,true) 2)=some (.inl 3):=by unfold dO; simp only[Tr.den]; (repeat (first | simp only[aI,sel] | rw[aA (by decide)] | rw[aC (by decide)] | rw[aC (tlF (by decide))] | rw[aA (tlT (by decide))] | rw[aC (tlN (by decide))] | rw[aA (tlM (by decide))])); rw[show rE (bY.Nodes.getD (Int.toNat 2) default).Cols=some [0,0,0] from aLZ]; (repeat (first | simp only[aI] | rw[aA (by decide)] | rw[aC (by decide)] | rw[aC (tlF (by decide))] | rw[aA (tlT (by decide))] | rw[aC (tlN (by decide))] | rw[aA (tlM (by decide))])); rw[aPX]; (repeat (first | simp only[aI] | rw[aA (by decide)] | rw[aC (by decide)] | rw[aC (tlF (by decide))] | rw[aA (tlT (by decide))] | rw[aC (tlN (by decide))] | rw[aA (tlM (by decide))])); rfl
 have h3:Tr.den (dO bY (bY,true) 3)=some (.inr (.inl ())):=by unfold dO; simp only[Tr.den]; (repeat (first | simp only[aI,sel] | rw[aA (by decide)] | rw[aC (by decide)] | rw[aC (tlF (by decide))] | rw[aA (tlT (by decide))] | rw[aC (tlN (by decide))] | rw[aA (tlM (by decide))]))
 refine(congrArg (fun x=>Option.bind x _) ((bH (b:=fun s=>Tr.den (dO bY (bY,true) s)) h0).trans ((bH (b:=fun s=>Tr.den (dO bY (bY,true) s)) h1).trans ((bH (b:=fun s=>Tr.den (dO bY (bY,true) s)) h2).trans (cF (b:=fun s=>Tr.den (dO bY (bY,true) s)) h3))))).trans ?_
 (repeat (first | simp only[aI,sel] | rw[aA (by decide)] | rw[aC (by decide)] | rw[aC (tlF (by decide))] | rw[aA (tlT (by decide))] | rw[aC (tlN (by decide))] | rw[aA (tlM (by decide))]))
theorem aCW:Jy bY=some true:=by
 unfold Jy Xu;simp only[Tr.den]
 (repeat (first | simp only[aI] | rw[aA (by decide)] | rw[aC (by decide)] | rw[aC (tlF (by decide))] | rw[aA (tlT (by decide))] | rw[aC (tlN (by decide))] | rw[aA (tlM (by decide))]))
 have h0:Tr.den (dJ bY 0)=some (.inl 1):=by unfold dJ; simp only[Tr.den]; (repeat (first | simp only[aI,sel] | rw[aA (by decide)] | rw[aC (by decide)] | rw[aC (tlF (by decide))] | rw[aA (tlT (by decide))] | rw[aC (tlN (by decide))] | rw[aA (tlM (by decide))])); rw[show tO (bY.Nodes.getD (Int.toNat 0) default).Op=some 0 from by unfold tO Gz; simp only[Tr.den]; (repeat (first | simp only[aI,sel] | rw[aA (by decide)] | rw[aC (by decide)] | rw[aC (tlF (by decide))] | rw[aA (tlT (by decide))] | rw[aC (tlN (by decide))] | rw[aA (tlM (by decide))]))]; (repeat (first | simp only[aI] | rw[aA (by decide)] | rw[aC (by decide)] | rw[aC (tlF (by decide))] | rw[aA (tlT (by decide))] | rw[aC (tlN (by decide))] | rw[aA (tlM (by decide))])); rw[bL (n:=4) (r:=.inl ()) (by kernel_rfl)]; (repeat (first | simp only[aI,sel] | rw[aA (by decide)] | rw[aC (by decide)] | rw[aC (tlF (by decide))] | rw[aA (tlT (by decide))] | rw[aC (tlN (by decide))] | rw[aA (tlM (by decide))])); rfl
 have h1:Tr.den (dJ bY 1)=some (.inl 2):=by unfold dJ; simp only[Tr.den]; (repeat (first | simp only[aI,sel] | rw[aA (by decide)] | rw[aC (by decide)] | rw[aC (tlF (by decide))] | rw[aA (tlT (by decide))] | rw[aC (tlN (by decide))] | rw[aA (tlM (by decide))])); rw[show tO (bY.Nodes.getD (Int.toNat 1) default).Op=some 1 from by unfold tO Gz; simp only[Tr.den]; (repeat (first | simp only[aI] | rw[aA (by decide)] | rw[aC (by decide)] | rw[aC (tlF (by decide))] | rw[aA (tlT (by decide))] | rw[aC (tlN (by decide))] | rw[aA (tlM (by decide))]))]; (repeat (first | simp only[aI] | rw[aA (by decide)] | rw[aC (by decide)] | rw[aC (tlF (by decide))] | rw[aA (tlT (by decide))] | rw[aC (tlN (by decide))] | rw[aA (tlM (by decide))])); rw[bL (n:=4) (r:=.inl ()) (by kernel_rfl)]; (repeat (first | simp only[aI,sel] | rw[aA (by decide)] | rw[aC (by decide)] | rw[aC (tlF (by decide))] | rw[aA (tlT (by decide))] | rw[aC (tlN (by decide))] | rw[aA (tlM (by decide))])); rfl
 have h2:Tr.den (dJ bY 2)=some (.inl 3):=by unfold dJ; simp only[Tr.den]; (repeat (first | simp only[aI,sel] | rw[aA (by decide)] | rw[aC (by decide)] | rw[aC (tlF (by decide))] | rw[aA (tlT (by decide))] | rw[aC (tlN (by decide))] | rw[aA (tlM (by decide))])); rw[show tO (bY.Nodes.getD (Int.toNat 2) default).Op=some 1 from by unfold tO Gz; simp only[Tr.den]; (repeat (first | simp only[aI] | rw[aA (by decide)] | rw[aC (by decide)] | rw[aC (tlF (by decide))] | rw[aA (tlT (by decide))] | rw[aC (tlN (by decide))] | rw[aA (tlM (by decide))]))]; (repeat (first | simp only[aI] | rw[aA (by decide)] | rw[aC (by decide)] | rw[aC (tlF (by decide))] | rw[aA (tlT (by decide))] | rw[aC (tlN (by decide))] | rw[aA (tlM (by decide))])); rw[bL (n:=4) (r:=.inl ()) (by kernel_rfl)]; (repeat (first | simp only[aI,sel] | rw[aA (by decide)] | rw[aC (by decide)] | rw[aC (tlF (by decide))] | rw[aA (tlT (by decide))] | rw[aC (tlN (by decide))] | rw[aA (tlM (by decide))])); rfl
 have h3:Tr.den (dJ bY 3)=some (.inr (.inl ())):=by unfold dJ; simp only[Tr.den]; (repeat (first | simp only[aI,sel] | rw[aA (by decide)] | rw[aC (by decide)] | rw[aC (tlF (by decide))] | rw[aA (tlT (by decide))] | rw[aC (tlN (by decide))] | rw[aA (tlM (by decide))]))
 refine(congrArg (fun x=>Option.bind x _) ((bH (b:=fun s=>Tr.den (dJ bY s)) h0).trans ((bH (b:=fun s=>Tr.den (dJ bY s)) h1).trans ((bH (b:=fun s=>Tr.den (dJ bY s)) h2).trans (cF (b:=fun s=>Tr.den (dJ bY s)) h3))))).trans ?_
 (repeat (first | simp only[aI,sel] | rw[aA (by decide)] | rw[aC (by decide)] | rw[aC (tlF (by decide))] | rw[aA (tlT (by decide))] | rw[aC (tlN (by decide))] | rw[aA (tlM (by decide))]))
theorem Hj:Mn bY=some true:=by
 unfold Mn Zw;simp only[Tr.den];rw[Zc]
 (repeat (first | simp only[aI] | rw[aA (by decide)] | rw[aC (by decide)] | rw[aC (tlF (by decide))] | rw[aA (tlT (by decide))] | rw[aC (tlN (by decide))] | rw[aA (tlM (by decide))]))
 rw[aCW]
 (repeat (first | simp only[aI] | rw[aA (by decide)] | rw[aC (by decide)] | rw[aC (tlF (by decide))] | rw[aA (tlT (by decide))] | rw[aC (tlN (by decide))] | rw[aA (tlM (by decide))]))
 have h0:Tr.den (dD bY 0)=some (.inl 1):=by unfold dD; simp only[Tr.den]; (repeat (first | simp only[aI,sel] | rw[aA (by decide)] | rw[aC (by decide)] | rw[aC (tlF (by decide))] | rw[aA (tlT (by decide))] | rw[aC (tlN (by decide))] | rw[aA (tlM (by decide))])); rw[show G83 (bY.Nodes.getD (Int.toNat 0) default)=some true from by unfold G83 T83; simp only[Tr.den,qI]; (repeat (first | simp only[aI] | rw[aA (by decide)] | rw[aC (by decide)] | rw[aC (tlF (by decide))] | rw[aA (tlT (by decide))] | rw[aC (tlN (by decide))] | rw[aA (tlM (by decide))])); try rfl]; (repeat (first | simp only[aI] | rw[aA (by decide)] | rw[aC (by decide)] | rw[aC (tlF (by decide))] | rw[aA (tlT (by decide))] | rw[aC (tlN (by decide))] | rw[aA (tlM (by decide))])); rfl
 have h1:Tr.den (dD bY 1)=some (.inl 2):=by unfold dD; simp only[Tr.den]; (repeat (first | simp only[aI,sel] | rw[aA (by decide)] | rw[aC (by decide)] | rw[aC (tlF (by decide))] | rw[aA (tlT (by decide))] | rw[aC (tlN (by decide))] | rw[aA (tlM (by decide))])); rw[show G83 (bY.Nodes.getD (Int.toNat 1) default)=some true from by unfold G83 T83; simp only[Tr.den,qI]; (repeat (first | simp only[aI] | rw[aA (by decide)] | rw[aC (by decide)] | rw[aC (tlF (by decide))] | rw[aA (tlT (by decide))] | rw[aC (tlN (by decide))] | rw[aA (tlM (by decide))])); try rfl]; (repeat (first | simp only[aI] | rw[aA (by decide)] | rw[aC (by decide)] | rw[aC (tlF (by decide))] | rw[aA (tlT (by decide))] | rw[aC (tlN (by decide))] | rw[aA (tlM (by decide))])); rfl
 have h2:Tr.den (dD bY 2)=some (.inl 3):=by unfold dD; simp only[Tr.den]; (repeat (first | simp only[aI,sel] | rw[aA (by decide)] | rw[aC (by decide)] | rw[aC (tlF (by decide))] | rw[aA (tlT (by decide))] | rw[aC (tlN (by decide))] | rw[aA (tlM (by decide))])); rw[show G83 (bY.Nodes.getD (Int.toNat 2) default)=some true from by unfold G83 T83; simp only[Tr.den,qI]; (repeat (first | simp only[aI] | rw[aA (by decide)] | rw[aC (by decide)] | rw[aC (tlF (by decide))] | rw[aA (tlT (by decide))] | rw[aC (tlN (by decide))] | rw[aA (tlM (by decide))])); try rfl]; (repeat (first | simp only[aI] | rw[aA (by decide)] | rw[aC (by decide)] | rw[aC (tlF (by decide))] | rw[aA (tlT (by decide))] | rw[aC (tlN (by decide))] | rw[aA (tlM (by decide))])); rfl
 have h3:Tr.den (dD bY 3)=some (.inr (.inl ())):=by unfold dD; simp only[Tr.den]; (repeat (first | simp only[aI,sel] | rw[aA (by decide)] | rw[aC (by decide)] | rw[aC (tlF (by decide))] | rw[aA (tlT (by decide))] | rw[aC (tlN (by decide))] | rw[aA (tlM (by decide))]))
 refine(congrArg (fun x=>Option.bind x _) ((bH (b:=fun s=>Tr.den (dD bY s)) h0).trans ((bH (b:=fun s=>Tr.den (dD bY s)) h1).trans ((bH (b:=fun s=>Tr.den (dD bY s)) h2).trans (cF (b:=fun s=>Tr.den (dD bY s)) h3))))).trans ?_
 (repeat (first | simp only[aI,sel] | rw[aA (by decide)] | rw[aC (by decide)] | rw[aC (tlF (by decide))] | rw[aA (tlT (by decide))] | rw[aC (tlN (by decide))] | rw[aA (tlM (by decide))]))
instance dInI (n:Int):Decidable (eP n):=by unfold eP; infer_instance
instance dStr (n:ByteArray):Decidable (jB n):=by unfold jB; infer_instance
theorem okL.nil{X:Type}{ok:X->Prop}:okL n ok ([]:List X):=⟨iT _,fun x hx=>by cases hx⟩
theorem okL.cons'{X:Type}{ok:X->Prop}{x:X}{xs:List X}(h:ok x)(hs:okL n ok xs)(hl:(x::xs).length<=1048576):okL n ok (x::xs):=⟨hl,fun y hy=>by
 rcases bB.1 hy with rfl | hy
 ·exact h
 ·exact hs.2 y hy⟩
theorem Yv:jJ dF:=⟨by decide,.nil,by decide,by decide,.nil,by decide,by decide,by decide,.nil,.nil,by decide,by decide,by decide,.nil,.nil,.cons' ⟨by decide,by decide,by decide⟩ .nil (by decide)⟩
theorem aOD:dN zL:=.mk0 (by decide) (by decide) (by decide) (by decide) (fun x hx=>by cases hx)
theorem aOA:jJ jO:=⟨by decide,.cons' (by decide) .nil (by decide),by decide,by decide,.cons' aOD .nil (by decide),by decide,by decide,by decide,.nil,.nil,by decide,by decide,by decide,.nil,.nil,.cons' ⟨by decide,by decide,by decide⟩ .nil (by decide)⟩
theorem aRQ:jJ mF:=⟨by decide,.cons' (by decide) .nil (by decide),by decide,by decide,.nil,by decide,by decide,by decide,.nil,.nil,by decide,by decide,by decide,.cons' ⟨by decide,by decide,by decide⟩ .nil (by decide),.nil,.cons' ⟨by decide,by decide,by decide⟩ (.cons' ⟨by decide,by decide,by decide⟩ .nil (by decide)) (by decide)⟩
theorem aRO:jJ kJ:=⟨by decide,.cons' (by decide) .nil (by decide),by decide,by decide,.nil,by decide,by decide,by decide,.nil,.nil,by decide,by decide,by decide,.cons' ⟨by decide,by decide,by decide⟩ (.cons' ⟨by decide,by decide,by decide⟩ .nil (by decide)) (by decide),.nil,
 .cons' ⟨by decide,by decide,by decide⟩ (.cons' ⟨by decide,by decide,by decide⟩ (.cons' ⟨by decide,by decide,by decide⟩ .nil (by decide)) (by decide)) (by decide)⟩
theorem aBB:cR cK:=⟨.nil,.cons' Yv (.cons' aRQ .nil (by decide)) (by decide)⟩
theorem aAG:cR bY:=⟨.nil,.cons' Yv (.cons' aOA (.cons' aRO .nil (by decide)) (by decide)) (by decide)⟩
theorem Yp:PF cK:=by obtain⟨y,h1,h2⟩:=(wL aBB).get;rw[Ho]at h1;cases h1;exact(h2 rfl).pf aBB
theorem Mv:PF bY:=by obtain⟨y,h1,h2⟩:=(wL aAG).get;rw[Hj]at h1;cases h1;exact(h2 rfl).pf aAG
theorem s00:same cK bY 0 0=true:=by kernel_rfl
theorem s01:same cK bY 0 1=false:=by kernel_rfl
theorem s11:same cK bY 1 1=false:=by kernel_rfl
theorem s02:same cK bY 0 2=false:=by kernel_rfl
theorem s12:same cK bY 1 2=false:=by kernel_rfl
theorem t01:fR cK bY 0 1=false:=by kernel_rfl
theorem t11:fR cK bY 1 1=false:=by kernel_rfl
theorem t02:fR cK bY 0 2=false:=by kernel_rfl
theorem t12:fR cK bY 1 2=true:=by kernel_rfl
theorem two{P:Nat->Prop}(h0:P 0)(h1:P 1):∀ u,0<=u->u<cK.Nodes.length->P u:=fun u _ hu=>by
 have hu:u<2:=hu;rcases Nat.lt_or_ge u 1 with h | h
 ·have:u=0:=by omega
  rw[this]; exact h0
 ·have:u=1:=by omega
  rw[this]; exact h1
def msX:List aV:=[⟨0,0,0⟩,⟨-1,1,2⟩,⟨1,2,1⟩]
theorem aTW:eU cK bY 3 msX:=by
 obtain⟨s,hs⟩:=dI.ex (fun v=>fR cK bY v 0) cK.Nodes.length;have h0:=(eU.nil (A:=cK) (B:=bY)).snoc (r:=0) (s:=s) ⟨fun _=>⟨eT _,by decide,s00,fun u _ hu=>absurd hu (Nat.not_lt_zero _)⟩,fun h=>absurd h (by decide)⟩ hs;have h1:=h0.snoc (r:=-1) (s:=-1) ⟨fun h=>absurd h (by decide),fun _=>⟨rfl,two s01 s11⟩⟩ ⟨fun h=>absurd h (by decide),fun _=>⟨rfl,two t01 t11⟩⟩;exact h1.snoc (r:=-1) (s:=1) ⟨fun h=>absurd h (by decide),fun _=>⟨rfl,two s02 s12⟩⟩ ⟨fun _=>⟨iT _,by decide,t12,fun u _ hu=>by
  have:u=0:=by have:u<1:=hu; omega
  rw[this]; exact t02⟩,fun h=>absurd h (by decide)⟩
theorem aTR:pR cK bY msX=0:=by kernel_rfl
theorem aTQ:jS bY msX=[]:=by kernel_rfl
theorem Tf:Sp aMV (fun r=>r=true):=by
 unfold aMV aOI;simp only[Tr.den];refine Sq.bind (fun r=>r=dF) (.of_eq aNN rfl) fun r1 h1=>?_;refine Sq.bind (fun r=>r=mF) (.of_eq aOH rfl) fun r2 h2=>?_;refine Sq.bind (fun r=>r=dF) (.of_eq aNN rfl) fun r3 h3=>?_;refine Sq.bind (fun r=>r=dF) (.of_eq aNN rfl) fun r4 h4=>?_;refine Sq.bind (fun r=>r=kJ) (.of_eq aPL rfl) fun r5 h5=>?_;subst h1 h2 h3 h4 h5;have hm:Sp (aIZ cK bY) (fun ms=>ms=msX):=(Pv true Yp Mv).imp fun ms h=>h.uniq aTW;refine Sq.bind _ hm fun ms hms=>?_;subst hms;refine Sq.bind (fun r=>r=true) (.of_eq Ho rfl) fun r7 h7=>?_;subst h7;refine Sq.bind (fun j=>j=false) ?_ fun j hj=>?_
 ·(repeat (first | simp only[aI,sel] | rw[aA (by decide)] | rw[aC (by decide)] | rw[aC (tlF (by decide))] | rw[aA (tlT (by decide))] | rw[aC (tlN (by decide))] | rw[aA (tlM (by decide))]))
  refine Sq.bind (fun r=>r=true) (.of_eq Hj rfl) fun r9 h9=>?_;subst h9
  (repeat (first | simp only[aI,sel] | rw[aA (by decide)] | rw[aC (by decide)] | rw[aC (tlF (by decide))] | rw[aA (tlT (by decide))] | rw[aC (tlN (by decide))] | rw[aA (tlM (by decide))]))
  have hc:Sp (aER cK bY msX) (fun z=>z=0):=(sH true Yp Mv msX).imp fun z hz=>by rw[hz,aTR]
  exact Sq.bind _ hc fun z hz=>aB.2 (by rw[hz]; rfl)
 ·subst hj
  (repeat (first | simp only[aI,sel] | rw[aA (by decide)] | rw[aC (by decide)] | rw[aC (tlF (by decide))] | rw[aA (tlT (by decide))] | rw[aC (tlN (by decide))] | rw[aA (tlM (by decide))]))
  have hf:Sp (aIQ bY msX) (fun z=>z=[]):=(Da true Mv.n (by decide)).imp fun z hz=>by rw[hz,aTQ]
  refine Sq.bind (fun j=>j=true) ?_ fun j hj=>aB.2 hj;exact Sq.bind _ hf fun z hz=>aB.2 (by rw[hz]; rfl)
theorem Me(l:List Int)(hl:l.length<=1000):Sp (cE (fun s=>Tr.den (Cd l l s)) 0) (sel (fun _=>True) (fun _=>False)):=by
 refine cB (fun s:Int=>s) l.length (by omega) (fun _=>True) (fun s k hI hk hkN=>?_) trivial rfl;subst hk;unfold Cd;simp only[Tr.den,aP];by_cases hc:k<l.length
 ·rw[aA (bT (by omega)),aA (by omega),aA (by omega),aC (sD rfl)];exact aB.2 ⟨rfl,hc,trivial⟩
 ·rw[aC (bW (by omega))];exact aB.2 trivial
theorem Sv(a0 a1:aD)(a2:List aV)(a3:ByteArray)(h0:cR a0)(h1:cR a1)(_h2:okL 24 nF a2)(_:jB a3):Lq a0 a1 a2 a3=some true:=by
 have h:Sp (Lq a0 a1 a2 a3) (fun r=>r=true):=by
  unfold Lq aLU;simp only[Tr.den];refine Sq.bind _ Tf fun r1 hr1=>?_;subst hr1;refine Sq.bind _ (Bc h0 2) fun r2 hr2=>?_;refine Sq.bind (fun j=>j=false->(PF a0/\PF a1)/\a2.length<=12/\a3.size<=200) ?_ fun j hj=>?_
  ·refine aU (fun _=>aB.2 fun h=>by cases h) fun hb=>?_;refine Sq.bind _ (Bc h1 2) fun r4 hr4=>?_;refine aU (fun _=>aB.2 fun h=>by cases h) fun hb4=>?_;refine Sp.iteD (fun _=>aB.2 fun h=>by cases h) fun h12=>?_;exact aB.2 fun hd=>⟨⟨(hr2 (by simpa using hb)).1,(hr4 (by simpa using hb4)).1⟩,by omega,by have:=jH hd; omega⟩
  refine aU (fun _=>aB.2 rfl) fun hjf=>?_;obtain⟨⟨hA,hB⟩,hl,hs⟩:=hj hjf;have nB:=hB.n;refine Sq.bind _ (Pv true hA hB) fun r5 h5=>?_;have l5:=h5.len;refine Sq.bind (fun j=>j=false) ?_ fun j hj=>?_
  ·refine Sq.bind _ (aIV true hA hB) fun r7 h7=>?_;have e:=h7.uniq h5;subst e;refine Sq.bind _ (aFZ true (by omega)) fun r8 h8=>?_;subst h8;simp only[iZ,cS,cO];refine Sq.bind _ (sH true hA hB a2) fun r9 h9=>?_;refine Sq.bind _ (wF true hA hB a2) fun r10 h10=>aB.2 ?_;rw[h9,h10]; simp
  subst hj;simp only[cS,cO];refine Sq.bind _ (Da true hB.n (ms:=a2) (by omega)) fun r11 h11=>?_;refine Sq.bind _ (Qz true hB.n (ms:=a2) (by omega)) fun r12 h12=>?_;subst h11 h12;rw[aC (sD rfl)];have hfl:(jS a1 a2).length<=40:=iD rL nB;refine Sq.bind _ (Me _ (by omega)) fun z hz=>?_;cases z with
  | inr y=>exact hz.elim
  | inl u=>simp only[sel];obtain⟨r,e1,e2⟩:=Iw hA hB a2 hs;obtain⟨r',e3,e4⟩:=Iw hA hB r5 hs;rw[e1,e2];simp only[aI];rw[e3,e4];simp only[aI,dY,beq_self_eq_true];exact aB.2 rfl
 obtain⟨y,e1,e2⟩:=h.get;rw[e1,e2]
end Go.PL
