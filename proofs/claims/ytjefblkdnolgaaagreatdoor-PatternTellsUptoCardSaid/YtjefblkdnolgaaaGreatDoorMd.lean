/-
  Parts: Functions as trees: A TREE THAT IS CHECKED TELLS WHAT THE CODE DOES. Own work. Functions as trees: functions of the program, from their trees. Own work.
-/
import Derived.Test.YtjefblkdnolgaaaGreatDoorMc
import Derived.KernelRfl
set_option maxHeartbeats 4000000
namespace Go.PL
open Go
variable {H:Hp} {N:List Nat}
section
variable {P:Program} {E:Env} {I:Inf}
theorem Ym{st:St}{t:Nat}{x y:PV}(h:look st.fr t=some x)(hx:∀ F g w v,VR F g w x v->VR F g w y v):Le E st { st with fr:=(t,y)::del t st.fr }:=fun _ _ r=>r.slot h hx
theorem Uz{α:Type}:∀ (l:List (Nat×α)) (xs:List α),(l.foldl (fun xs p=>xs.set p.1 p.2) xs).length=xs.length
 | [],xs=>rfl
 | p::l,xs=>by simp only[kD]; rw[Uz l]; simp
theorem Cf{α:Type}(c:α->List T):∀ (l:List (Nat×α)) {f g:Nat->List T},(∀ q,f q=g q)->∀ q,l.foldl (fun f p=>Iz f p.1 (c p.2)) f q=l.foldl (fun f p=>Iz f p.1 (c p.2)) g q
 | [],_,_,h,q=>h q
 | p::l,f,g,h,q=>by simp only[kD];exact Cf c l (fun q=>by simp only[Iz]; rw[h q]) q
theorem Uo{α:Type}[Inhabited α](c:α->List T):∀ (l:List (Nat×α)) (xs:List α),(l.all fun p=>decide (p.1<xs.length))=true->∀ q,l.foldl (fun f p=>Iz f p.1 (c p.2)) (eF c xs) q=eF c (l.foldl (fun xs p=>xs.set p.1 p.2) xs) q
 | [],xs,_,q=>rfl
 | p::l,xs,h,q=>by simp only[List.all_cons,dH,kW]at h;simp only[kD];rw[<-Uo c l (xs.set p.1 p.2) (by grind) q];refine Cf c l (fun q=>?_) q;simp only[Iz,eF];grind
theorem Lm{t:Nat}{j:dT}(h:Rl I t=some j):∃ i e,I.ti t=some i/\i.und = .sl e/\I.ti e=some j:=by unfold Rl at h;grind
theorem Tr.sound(hG:hJ P E I){Y:Type}(t:Tr P Y):∀ {lt lf:Y->Exit->St->VT} {acc:Acc} {g:Cfg} {st:St} {Q:iI} {R:Y->Prop},bLD P acc->chk P I true t lt acc g st=chk P I false t lf acc g st->t.wpT R ->
  (∀ y e s,R y->lt y e s=lf y e s->∃ u,Le E s u/\Q e u)->cwp P E g Q st:=by
 induction t with
 | ret n y=>
  intro lt lf acc g st Q R ha h hw hl;rcases hr:run I n g st with _ | ⟨g',st',C,fs⟩
  ·simp only[chk,hr]at h; exact(aN h).elim
  ·cases g' with
   | x e ks=>
    cases ks with
    | nil=>simp only[chk,hr]at h;obtain⟨h1,h2⟩:=aP h;obtain⟨hC,hf⟩:=dG h1 trivial;exact dR hG hr hC hf (hl y e st' hw h2)
    | cons=>simp only[chk,hr]at h; exact(aN h).elim
   | _=>simp only[chk,hr]at h; exact(aN h).elim
 | ite n c t e iht ihe=>
  intro lt lf acc g st Q R ha h hw hl;have hw1:c=true->t.wpT R:=fun hc=>by simp only[Tr.wpT,hc,fZ]at hw; exact hw
  have hw0:c=false->e.wpT R:=fun hc=>by simp only[Tr.wpT,hc]at hw; exact hw
  rcases hr:run I n g st with _ | ⟨g',st',C,fs⟩
  ·simp only[chk,hr]at h; exact(aN h).elim
  ·cases g' with
   | c x ks=>
    cases x with
    | cond o u v=>simp only[chk,hr]at h;obtain⟨h1,h2⟩:=aP h;obtain⟨h3,h4⟩:=aP h2;obtain⟨h5,h6⟩:=aP h4;obtain⟨hC,hf⟩:=dG h1 trivial;exact dR hG hr hC hf (Fq (bG h3) (fun hc=>iht ha h5 (hw1 hc) hl) (fun hc=>ihe ha h6 (hw0 hc) hl))
    | _=>simp only[chk,hr]at h; exact(aN h).elim
   | o all l ks=>
    cases l with
    | nil=>simp only[chk,hr]at h; exact(aN h).elim
    | cons op l=>
     simp only[chk,hr]at h;cases hg:aLL all op with
     | none=>rw[hg]at h; exact(aN h).elim
     | some d=>rw[hg]at h;obtain⟨h1,h2⟩:=aP h;obtain⟨h3,h4⟩:=aP h2;obtain⟨h5,h6⟩:=aP h4;obtain⟨hC,hf⟩:=dG h1 trivial;exact dR hG hr hC hf (aJA (bG h3) (fun hc=>iht ha h5 (hw1 hc) hl) (fun hc=>ihe ha h6 (hw0 hc) hl))
   | x=>simp only[chk,hr]at h; exact(aN h).elim
 | grd n p t ih=>
  intro lt lf acc g st Q R ha h hw hl;rcases hr:run I n g st with _ | ⟨g',st',C,fs⟩
  ·simp only[chk,hr]at h; exact(aN h).elim
  ·simp only[chk,hr]at h;obtain⟨h1,h2⟩:=aP h;obtain⟨hC,hf⟩:=dG h1 hw.1;exact dR hG hr hC hf (ih ha h2 hw.2 hl)
 | gd n p hp t ih=>
  intro lt lf acc g st Q R ha h hw hl;rcases hr:run I n g st with _ | ⟨g',st',C,fs⟩
  ·simp only[chk,hr]at h; exact(aN h).elim
  ·simp only[chk,hr]at h;obtain⟨h1,h2⟩:=aP h;obtain⟨hC,hf⟩:=dG h1 hp;exact dR hG hr hC hf (ih ha h2 hw hl)
 | cv n l t ih=>
  intro lt lf acc g st Q R ha h hw hl;rcases hr:run I n g st with _ | ⟨g',st',C,fs⟩
  ·simp only[chk,hr]at h; exact(aN h).elim
  ·simp only[chk,hr]at h;obtain⟨h1,h2⟩:=aP h;obtain⟨h3,h4⟩:=aP h2;obtain⟨hC,hf⟩:=dG h1 trivial;cases hc:cvL I l st' with
   | none=>rw[hc]at h4; exact(aN h4).elim
   | some st''=>rw[hc]at h4;exact dR hG hr hC hf (qI (aSQ hG h3 hc) (ih ha h4 hw hl))
 | no=>intro lt lf acc g st Q R ha h hw hl; exact hw.elim
 | @foc Y α inh n o q i j c xs t ih=>
  intro lt lf acc g st Q R ha h hw hl;rcases hr:run I n g st with _ | ⟨g',st',C,fs⟩
  ·simp only[chk,hr]at h; exact(aN h).elim
  ·simp only[chk,hr]at h;obtain⟨h1,h2⟩:=aP h;obtain⟨hC,hf⟩:=dG h1 trivial;split at h2
   ·rename_i e s n' f hlk;obtain⟨h3,h4⟩:=aP h2;have h3:=bG h3;cases h3;split at h4
    ·rename_i e' s' m f' hx;split at h4
     ·rename_i s2 hs;exact dR hG hr hC hf (qI (fun _ _ r=>Rel.armFocus hG.N hlk hw.1 hx hs r) (ih ha h4 hw.2 hl))
     ·exact(aN h4).elim
    ·exact(aN h4).elim
   ·exact(aN h2).elim
 | @ca Y R' n k bps x ret hcon B ih=>
  intro lt lf acc g st Q R ha h hw hl;rcases hr:run I n g st with _ | ⟨g',st',C,fs⟩
  ·simp only[chk,hr]at h; exact(aN h).elim
  ·cases g' with
   | o all l ks=>
    cases l with
    | nil=>simp only[chk,hr]at h; exact(aN h).elim
    | cons op l=>
     simp only[chk,hr]at h;rcases hc:By I all op st' with _ | ⟨d,k',as⟩
     ·rw[hc]at h; exact(aN h).elim
     ·rw[hc]at h;obtain⟨h1,h2⟩:=aP h;obtain⟨h3,h4⟩:=aP h2;obtain⟨h5,h6⟩:=aP h4;obtain⟨hC,hf⟩:=dG h1 trivial;have h3:=bG h3;subst h3;obtain⟨c,f,nf,caps,aps,e1,e2,e3,e4,e5,e6,e7,rfl⟩:=En hc;obtain⟨r,hx,hB⟩:=hw;obtain⟨h7,h8⟩:=aP (mK h6 r);have h7:=bG h7;have h5:=Uj h5;obtain⟨L,hL⟩:∃ L,L=kV (List.take nf caps++aps++List.drop nf caps) bps:=⟨_,rfl⟩;rw[<-hL]at h5 h7;refine dR hG hr hC hf (Kk hG L rfl e1 e2 e3 e4 e5 e6 e7 hcon.c h5 (hcon.h r hx) fun r' H' hr'=>?_);unfold Ret at hr'; subst hr';exact⟨by cases L <;> exact h7,ih r ha h8 hB hl⟩
   | _=>simp only[chk,hr]at h; exact(aN h).elim
 | @cas Y n k bps x ret hcon m B ih=>
  intro lt lf acc g st Q R ha h hw hl;rcases hr:run I n g st with _ | ⟨g',st',C,fs⟩
  ·simp only[chk,hr]at h; exact(aN h).elim
  ·cases g' with
   | o all l ks=>
    cases l with
    | nil=>simp only[chk,hr]at h; exact(aN h).elim
    | cons op l=>
     simp only[chk,hr]at h;rcases hc:By I all op st' with _ | ⟨d,k',as⟩
     ·rw[hc]at h; exact(aN h).elim
     ·rw[hc]at h;obtain⟨h1,h2⟩:=aP h;obtain⟨h3,h4⟩:=aP h2;obtain⟨h5,h6⟩:=aP h4;obtain⟨hC,hf⟩:=dG h1 trivial;have h3:=bG h3;subst h3;obtain⟨c,f,nf,caps,aps,e1,e2,e3,e4,e5,e6,e7,rfl⟩:=En hc;obtain⟨r,hx,hm,hB⟩:=hw;have key:∀ m,r<m->Nat.rec (motive:=fun _=>VT) .ok (fun r acc'=>VT.and (.and (vt true (Ip (kV (List.take nf caps++aps++List.drop nf caps) bps) (ret r)) true) (chk P I true (B r) lt acc (.o all l ks) (st'.put d (ret r)))) acc') m =
        Nat.rec (motive:=fun _=>VT) .ok (fun r acc'=>VT.and (.and (vt false (Ip (kV (List.take nf caps++aps++List.drop nf caps) bps) (ret r)) true) (chk P I false (B r) lf acc (.o all l ks) (st'.put d (ret r)))) acc') m ->
        Ip (kV (List.take nf caps++aps++List.drop nf caps) bps) (ret r)=true/\chk P I true (B r) lt acc (.o all l ks) (st'.put d (ret r))=chk P I false (B r) lf acc (.o all l ks) (st'.put d (ret r)):=by
       intro m
       induction m with
       | zero=>omega
       | succ m ihm=>
        intro hm he;obtain⟨a1,a2⟩:=aP he;by_cases hrm:r=m
        ·subst hrm;obtain⟨a3,a4⟩:=aP a1;exact⟨bG a3,a4⟩
        grind
      obtain⟨h7,h8⟩:=key m hm h6;have h5:=Uj h5;obtain⟨L,hL⟩:∃ L,L=kV (List.take nf caps++aps++List.drop nf caps) bps:=⟨_,rfl⟩;rw[<-hL]at h5 h7;refine dR hG hr hC hf (Kk hG L rfl e1 e2 e3 e4 e5 e6 e7 hcon.c h5 (hcon.h r hx) fun r' H' hr'=>?_);unfold Ret at hr'; subst hr';exact⟨by cases L <;> exact h7,ih r ha h8 hB hl⟩
   | _=>simp only[chk,hr]at h; exact(aN h).elim
 | @ch Y R' cur n k bps Hs N x ret Ht nw hcon B ih=>
  intro lt lf acc g st Q R ha h hw hl;rcases hr:run I n g st with _ | ⟨g',st',C,fs⟩
  ·simp only[chk,hr]at h; exact(aN h).elim
  ·cases g' with
   | o all l ks=>
    cases l with
    | nil=>simp only[chk,hr]at h; exact(aN h).elim
    | cons op l=>
     simp only[chk,hr]at h;rcases hc:By I all op st' with _ | ⟨d,k',as⟩
     ·rw[hc]at h; exact(aN h).elim
     ·rw[hc]at h;obtain⟨h1,h2⟩:=aP h;obtain⟨h3,h4⟩:=aP h2;obtain⟨h5,h6⟩:=aP h4;obtain⟨h7,h8⟩:=aP h6;obtain⟨h9,h10⟩:=aP h8;obtain⟨hC,hf⟩:=dG h1 trivial;have h3:=bG h3;subst h3;obtain⟨c,f,nf,caps,aps,e1,e2,e3,e4,e5,e6,e7,rfl⟩:=En hc;obtain⟨r,hx,hB⟩:=hw;obtain⟨h11,h12⟩:=aP (cur.ok _ _ h10 r);refine dR hG hr hC hf (Yn hG (dY Hs) N nw rfl e1 e2 e3 e4 e5 e6 e7 hcon.c (qK h5 _) (bG h7) (bG h9) (hcon.h r hx) fun r' H' hr'=>?_);unfold vZ at hr'; obtain⟨rfl,rfl⟩:=hr';exact⟨bG h11,ih r ha h12 hB hl⟩
   | _=>simp only[chk,hr]at h; exact(aN h).elim
 | @jn Y S cur n m tm A B ihA ihB=>
  intro lt lf acc g st Q R ha h hw hl;rcases hr:run I n g st with _ | ⟨g',st',C,fs⟩
  ·simp only[chk,hr]at h; exact(aN h).elim
  ·simp only[chk,hr]at h;obtain⟨h1,h2⟩:=aP h;obtain⟨h3,h4⟩:=aP h2;obtain⟨hC,hf⟩:=dG h1 trivial;refine dR hG hr hC hf ?_;have hA:cwp P E (aOW m g') (fun e s=>e = .normal/\∃ v,(B v).wpT R/\Le E s (tm v)) st':=ihA ⟨.nil,.nil,.nil⟩ h3 hw fun v e s hv hk=>⟨s,.refl,(pP (E:=E) hk).1,v,hv,(pP hk).2⟩;refine aMC hA fun e s he=>?_;obtain⟨rfl,v,hv,hle⟩:=he;obtain⟨u,hu,hq⟩:=ihB v ha (cur.ok _ _ h4 v) hv hl;exact⟨u,hle.trans hu,hq⟩
 | @pc Y S cur n m tm A B ihA ihB=>
  intro lt lf acc g st Q R ha h hw hl;rcases hr:run I n g st with _ | ⟨g',st',C,fs⟩
  ·simp only[chk,hr]at h; exact(aN h).elim
  ·simp only[chk,hr]at h;obtain⟨h1,h2⟩:=aP h;obtain⟨h3,h4⟩:=aP h2;obtain⟨hC,hf⟩:=dG h1 trivial;refine dR hG hr hC hf ?_;have hA:cwp P E (aOW m g') (fun e s=>(e = .normal/\∃ v,(B v).wpT R/\Le E s (tm v))\/∃ t,Le E s t/\kQ P E (Sj m g') Q e t) st':=ihA ⟨.nil,.nil,.nil⟩ h3 hw fun z e s hz hk=>by
    cases z with
    | inl v=>exact⟨s,.refl,.inl ⟨(pP (E:=E) hk).1,v,hz,(pP hk).2⟩⟩
    | inr y=>exact⟨s,.refl,.inr (Mm (P:=P) (E:=E) (Q:=Q) hk fun e s he=>hl y e s hz he).2⟩
   refine aMC hA fun e s he=>?_;rcases he with⟨rfl,v,hv,hle⟩ | he
   ·obtain⟨u,hu,hq⟩:=ihB v ha (cur.ok _ _ h4 v) hv hl;exact⟨u,hle.trans hu,hq⟩
   omega
 | @lp Y S R' curS curR n tm bt ex s0 L B ihL ihB=>
  intro lt lf acc g st Q R ha h hw hl;rcases hr:run I n g st with _ | ⟨g',st',C,fs⟩
  ·simp only[chk,hr]at h; exact(aN h).elim
  ·cases g' with
   | c c ks=>
    cases c with
    | loop c=>
     simp only[chk,hr]at h;obtain⟨h1,h2⟩:=aP h;obtain⟨h3,h4⟩:=aP h2;obtain⟨h5,h6⟩:=aP h4;obtain⟨hC,hf⟩:=dG h1 trivial;refine dR hG hr hC hf ?_;refine qI (Oc (bG h3)) ?_;refine aJF (Out:=fun (z:R'⊕Y) e s=>match z with | .inl r=>e = .exit ex/\Le E s (bt r) | .inr y=>R y->∃ t,Le E s t/\kQ P E ks Q e t) (fun s Z hZ=>?_) hw fun z e s hz ho=>?_
     ·refine Qp (ihL s ⟨.nil,.nil,.nil⟩ (curS.ok _ _ h5 s) hZ (Q:=fun e st=>∃ z,Z z/\aSP E tm (fun (z:R'⊕Y) e s=>match z with | .inl r=>e = .exit ex/\Le E s (bt r) | .inr y=>R y->∃ t,Le E s t/\kQ P E ks Q e t) z e st) fun z e s hz hk=>?_) fun e s he=>⟨s,.refl,he⟩
      cases z with
      | inl v=>exact⟨s,.refl,_,hz,(pP (E:=E) hk).1,(pP hk).2⟩
      | inr z=>
       cases z with
       | inl r=>obtain⟨he,hle⟩:=aZT (E:=E) (bt:=bt) (ex:=ex) (r:=r) hk;exact⟨s,.refl,_,hz,by rw[he]; simp,he,hle⟩
       | inr y=>
        have hk:xC true lt ks y e s=xC false lf ks y e s:=hk;have hne:e ≠ .normal:=by rintro rfl; exact aN hk
        exact⟨s,.refl,_,hz,hne,fun hy=>(Mm (P:=P) (E:=E) (Q:=Q) hk fun e s he=>hl y e s hy he).2⟩
     ·cases z with
      | inl r=>obtain⟨rfl,hle⟩:=ho;obtain⟨u,hu,hq⟩:=ihB r ha (curR.ok _ _ h6 r) hz hl;exact⟨u,hle.trans hu,hq⟩
      | inr y=>exact ho hz
    | _=>simp only[chk,hr]at h; exact(aN h).elim
   | _=>simp only[chk,hr]at h; exact(aN h).elim
 | sp n t r m a e iha ihe=>
  intro lt lf acc g st Q R ha h hw hl;rcases hr:run I n g st with _ | ⟨g',st',C,fs⟩
  ·simp only[chk,hr]at h; exact(aN h).elim
  ·simp only[chk,hr]at h;obtain⟨h1,h2⟩:=aP h;obtain⟨h3,h4⟩:=aP h2;obtain⟨h5,h6⟩:=aP h4;obtain⟨hC,hf⟩:=dG h1 trivial;refine dR hG hr hC hf ?_;have h3:=bG h3;by_cases hrm:r=m
   ·subst hrm;refine qI (Ym h3 fun _ _ _ _ h=>h) (iha ha h5 ?_ hl);simpa only[Tr.wpT,fZ] using hw
   ·refine ihe ha h6 ?_ hl;simpa only[Tr.wpT,aF hrm] using hw
 | slc n t c xs lo hi k ih=>
  intro lt lf acc g st Q R ha h hw hl;rcases hr:run I n g st with _ | ⟨g',st',C,fs⟩
  ·simp only[chk,hr]at h; exact(aN h).elim
  ·simp only[chk,hr]at h;obtain⟨h1,h2⟩:=aP h;obtain⟨h3,h4⟩:=aP h2;obtain⟨hC,hf⟩:=dG h1 hw.1;exact dR hG hr hC hf (qI (Ym (bG h3) (Uw hw.1 rfl)) (ih ha h4 hw.2 hl))
 | sto n o c xs l k ih=>
  intro lt lf acc g st Q R ha h hw hl;rcases hr:run I n g st with _ | ⟨g',st',C,fs⟩
  ·simp only[chk,hr]at h; exact(aN h).elim
  ·simp only[chk,hr]at h;rcases hx:look st'.hp o with _ | x
   ·rw[hx]at h; exact(aN h).elim
   ·rw[hx]at h;cases x with
    | arr e s n' f=>simp only at h;obtain⟨h1,h2⟩:=aP h;obtain⟨h3,h4⟩:=aP h2;obtain⟨hC,hf⟩:=dG h1 trivial;have h3:=bG h3;cases h3;refine dR hG hr hC hf (qI (Le.obj _ hx (fun _ _ _=>dN.row (Uz l xs).symm fun q _=>Uo c l xs hw.1 q) rfl) (ih ha h4 hw.2 hl))
    | _=>exact(aN h).elim
 | cut n c xs hi k ih=>
  intro lt lf acc g st Q R ha h hw hl;rcases hr:run I n g st with _ | ⟨g',st',C,fs⟩
  ·simp only[chk,hr]at h; exact(aN h).elim
  ·cases g' with
   | o all l ks=>
    cases l with
    | nil=>simp only[chk,hr]at h; exact(aN h).elim
    | cons op l=>
     simp only[chk,hr]at h;split at h
     case h_2=>exact(aN h).elim
     rename_i t x lo hx d e1 e2 e3;split at h
     case h_2=>exact(aN h).elim
     rename_i q e4;split at h
     case h_2=>exact(aN h).elim
     rename_i e s n' f st1 j e5 e6 e7;split at h
     case h_2=>exact(aN h).elim
     rename_i s2 e8;obtain⟨h1,h2⟩:=aP h;obtain⟨h3,h4⟩:=aP h2;obtain⟨h5,h6⟩:=aP h4;obtain⟨h7,h8⟩:=aP h6;obtain⟨hC,hf⟩:=dG h1 trivial;have h3:=bG h3;cases h3;obtain⟨i,e',e9,e10,e11⟩:=Lm e7;have hlk:look s2.hp d=some (.arr e s hi.toNat (eF c xs)):=by
      unfold gL at e8;split at e8
      ·cases e8; simp[St.put,look]
      ·cases e8
     have hle:hi.toNat<=xs.length:=by have:=hw.1; omega
     refine dR hG hr hC hf (aPJ hG rfl e1 e2 e3 e4 e5 (bG h5) (bG h7) e9 e10 e11 hw.1 e6 e8 (gC (Le.obj _ hlk (fun _ _ _=>dN.row (by simp; omega) fun q hq=>?_) rfl) (ih ha h8 hw.2 hl)));simp only[eF];rw[eU,eU,wJ,aB hq]
   | _=>simp only[chk,hr]at h; exact(aN h).elim
 | @clr Y α inst n c xs lo k ih=>
  intro lt lf acc g st Q R ha h hw hl;rcases hr:run I n g st with _ | ⟨g',st',C,fs⟩
  ·simp only[chk,hr]at h; exact(aN h).elim
  ·cases g' with
   | o all l ks=>
    cases l with
    | nil=>simp only[chk,hr]at h; exact(aN h).elim
    | cons o1 l=>
     cases l with
     | nil=>simp only[chk,hr]at h; exact(aN h).elim
     | cons o2 l=>
      simp only[chk,hr]at h;split at h
      case h_2=>exact(aN h).elim
      rename_i t x lx d cl e1 e2 e3 e4 e5 e6;split at h
      case h_2=>exact(aN h).elim
      rename_i d' t2 e7 e8 e9;split at h
      case h_2=>exact(aN h).elim
      rename_i q j e10 e11 e12;split at h
      case h_2=>exact(aN h).elim
      rename_i e s n' f e13;obtain⟨h1,h2⟩:=aP h;obtain⟨h3,h4⟩:=aP h2;obtain⟨h5,h6⟩:=aP h4;obtain⟨h7,h8⟩:=aP h6;obtain⟨h9,h10⟩:=aP h8;obtain⟨h11,h12⟩:=aP h10;obtain⟨hC,hf⟩:=dG h1 trivial;have h3:=bG h3;cases h3;have h7:=bG h7;injection h7 with h7 h7';subst h7;have h9:=bG h9;injection h9 with h13 h9;injection h9 with h14 h9;injection h9 with h15 h16;obtain⟨i,e',e14,e15,e16⟩:=Lm e11;have himp:Av j.zero (c default):=(gD h11).get;refine dR hG hr hC hf (aSH hG rfl e1 e2 e3 e4 e7 (Qn e8) e9 h7' e5 e6 e12 e10 e13 (bG h5) e14 e15 e16 h13 (fY h14) (bX h15) h16 himp hw.1 ?_);have hle:lo.toNat<=xs.length:=by have:=hw.1; omega
      have hlk:look ((({ st' with hp:=(q,.arr e s xs.length (Nx (eF c xs) lo.toNat (c default)))::del q st'.hp }:St).put d' .any).hp) q=some (.arr e s xs.length (Nx (eF c xs) lo.toNat (c default))):=by simp[St.put,look]
      refine gC (Le.trans (Le.obj (.arr e s (xs.take lo.toNat++List.replicate (xs.length-lo.toNat) default).length (eF c (xs.take lo.toNat++List.replicate (xs.length-lo.toNat) default))) hlk (fun _ _ _=>dN.row (by simp; omega) fun q hq=>?_) rfl) ?_) (ih ha h12 hw.2 hl)
      ·simp only[Nx,eF];grind
      ·refine fun a w r=>r.sub (fun e he=>he) (fun e he=>?_);simp only[St.put]at he ⊢;rcases bH.1 he with rfl | he
       ·simp_all
       ·refine cZ _ ?_;obtain⟨k,y⟩:=e;obtain⟨h9,h10⟩:=bC.1 he;exact bC.2 ⟨cZ _ (bC.2 ⟨h9,h10⟩),h10⟩
   | _=>simp only[chk,hr]at h; exact(aN h).elim
 | apz n c byt m k ih=>
  intro lt lf acc g st Q R ha h hw hl;rcases hr:run I n g st with _ | ⟨g',st',C,fs⟩
  ·simp only[chk,hr]at h; exact(aN h).elim
  ·cases g' with
   | o all l ks=>
    cases l with
    | nil=>simp only[chk,hr]at h; exact(aN h).elim
    | cons op l=>
     simp only[chk,hr]at h;split at h
     case h_2=>exact(aN h).elim
     rename_i d e j k' e1;split at h
     case h_2=>exact(aN h).elim
     rename_i s2 e2;obtain⟨h1,h2⟩:=aP h;obtain⟨h3,h4⟩:=aP h2;obtain⟨h5,h6⟩:=aP h4;obtain⟨hC,hf⟩:=dG h1 trivial;have h3:=bG h3;injection h3 with h3 h3';subst h3; subst h3';have himp:Av j.zero (c default):=(gD h5).get;have hlk:look s2.hp d=some (.arr e j.size k'.toNat (fun _=>c default)):=by
      unfold gL at e2;split at e2
      ·cases e2; simp[St.put,look]
      ·cases e2
     refine dR hG hr hC hf (aOU hG e1 himp hw.1.1 hw.1.2 e2 (gC (Le.obj _ hlk (fun _ _ _=>dN.row (by simp) fun q hq=>?_) rfl) (ih ha h6 hw.2 hl)));simp only[eF];simp_all
   | _=>simp only[chk,hr]at h; exact(aN h).elim
 | mks n c byt lv cv k ih=>
  intro lt lf acc g st Q R ha h hw hl;rcases hr:run I n g st with _ | ⟨g',st',C,fs⟩
  ·simp only[chk,hr]at h; exact(aN h).elim
  ·cases g' with
   | o all l ks=>
    cases l with
    | nil=>simp only[chk,hr]at h; exact(aN h).elim
    | cons op l=>
     simp only[chk,hr]at h;split at h
     case h_2=>exact(aN h).elim
     rename_i d e j lv' cv' e1;split at h
     case h_2=>exact(aN h).elim
     rename_i s2 e2;obtain⟨h1,h2⟩:=aP h;obtain⟨h3,h4⟩:=aP h2;obtain⟨h5,h6⟩:=aP h4;obtain⟨hC,hf⟩:=dG h1 trivial;have h3:=bG h3;injection h3 with h3 h3';injection h3' with h3' h3'';subst h3; subst h3'; subst h3'';have himp:Av j.zero (c default):=(gD h5).get;have hlk:look s2.hp d=some (.arr e j.size lv'.toNat (fun _=>c default)):=by
      unfold gL at e2;split at e2
      ·cases e2; simp[St.put,look]
      ·cases e2
     refine dR hG hr hC hf (aMW hG e1 himp hw.1.1 hw.1.2 e2 (gC (Le.obj _ hlk (fun _ _ _=>dN.row (by simp) fun q hq=>?_) rfl) (ih ha h6 hw.2 hl)));simp only[eF];simp_all
   | _=>simp only[chk,hr]at h; exact(aN h).elim
 | abl n e k ih=>
  intro lt lf acc g st Q R ha h hw hl;rcases hr:run I n g st with _ | ⟨g',st',C,fs⟩
  ·simp only[chk,hr]at h; exact(aN h).elim
  ·cases g' with
   | o all l ks=>
    cases l with
    | nil=>simp only[chk,hr]at h; exact(aN h).elim
    | cons op l=>
     simp only[chk,hr]at h;split at h
     case h_2=>exact(aN h).elim
     rename_i t d e1 e2 e3;split at h
     case h_2=>exact(aN h).elim
     rename_i st1 i e4 e5 e6 e7;obtain⟨h1,h2⟩:=aP h;obtain⟨h3,h4⟩:=aP h2;obtain⟨hC,hf⟩:=dG h1 trivial;exact dR hG hr hC hf (aPH hG e1 e2 e3 e4 e5 e7 (bG h3) e6 (ih ha h4 hw hl))
   | _=>simp only[chk,hr]at h; exact(aN h).elim
 | bs n own c xs t ih=>
  intro lt lf acc g st Q R ha h hw hl;rcases hr:run I n g st with _ | ⟨g',st',C,fs⟩
  ·simp only[chk,hr]at h; exact(aN h).elim
  ·cases g' with
   | o all l ks=>
    cases l with
    | nil=>simp only[chk,hr]at h; exact(aN h).elim
    | cons op l=>
     simp only[chk,hr]at h;rcases hb:bsI I all op st' with _ | ⟨d,e,j,len,cs⟩
     ·rw[hb]at h; exact(aN h).elim
     rw[hb]at h;obtain⟨h1,h2⟩:=aP h;obtain⟨h3,h4⟩:=aP h2;obtain⟨h5,h6⟩:=aP h4;obtain⟨h7,h8⟩:=aP h6;obtain⟨hC,hf⟩:=dG h1 trivial;have h5:=bG h5;have h7:=jG (bG h7);have himp:Av cs (xs.flatMap c):=(gD h3).get;cases own with
     | false=>
      refine dR hG hr hC hf (aNL hG hb himp ?_);refine gC (Ym (st:=st'.put d (.t (.sl len (jJ (xs.flatMap c) j.size)))) (t:=d) (y:=.t (eL c xs)) (by simp[St.put,look]) (Cw (x:=eL c xs) (n':=xs.length) (f':=eF c xs) rfl h5.symm h7)) ?_;refine gC (fun a w r=>?_) (ih ha h8 hw hl);refine r.sub (fun e he=>?_) (fun e he=>he);simp only[St.put]at he ⊢;rcases bH.1 he with rfl | he
      ·simp_all
      ·refine cZ _ ?_;obtain⟨k,y⟩:=e;obtain⟨h9,h10⟩:=bC.1 he;exact bC.2 ⟨cZ _ (bC.2 ⟨h9,h10⟩),h10⟩
     | true=>
      simp only at h8;split at h8
      ·rename_i s2 hs2;refine dR hG hr hC hf (aNM hG hb himp hs2 ?_);have hlk:look s2.hp d=some (.arr e j.size len (jJ (xs.flatMap c) j.size)):=by
        unfold gL at hs2;split at hs2
        ·cases hs2; simp[St.put,look]
        ·cases hs2
       exact gC (Le.obj _ hlk (fun _ _ _=>dN.row h5 h7) rfl) (ih ha h8 hw hl)
      ·exact(aN h8).elim
   | _=>simp only[chk,hr]at h; exact(aN h).elim
 | ndb n m a e iha ihe=>
  intro lt lf acc g st Q R ha h hw hl;rcases hr:run I n g st with _ | ⟨g',st',C,fs⟩
  ·simp only[chk,hr]at h; exact(aN h).elim
  ·cases g' with
   | o all l ks=>
    cases l with
    | nil=>simp only[chk,hr]at h; exact(aN h).elim
    | cons op l=>
     simp only[chk,hr]at h;rcases hb:aRH I all op st' with _ | ⟨d,ng,m'⟩
     ·rw[hb]at h; exact(aN h).elim
     rw[hb]at h;obtain⟨h1,h2⟩:=aP h;obtain⟨h2a,h2b⟩:=aP h2;obtain⟨h3,h4⟩:=aP h2b;have hmm:=bG h2a;subst hmm;obtain⟨hC,hf⟩:=dG h1 trivial;exact dR hG hr hC hf (aIG hG hb (fun hm=>iha ha h3 (hw.1 hm) hl) (ihe ha h4 hw.2 hl))
   | _=>simp only[chk,hr]at h; exact(aN h).elim
 | @dc Y R' j as k bps x ret hcon B ih=>intro lt lf acc g st Q R ha h hw hl;simp only[chk]at h;obtain⟨h1,h2⟩:=aP h;obtain⟨hk,h2⟩:=aP h2;obtain⟨r,hx,hB⟩:=hw;obtain⟨h3,h4⟩:=aP (mK h2 r);exact ih r (acc:=⟨(j,k,as,ret r,[],none)::acc.calls,acc.lits,acc.conds⟩) ⟨.cons (.inr <| .call (bG hk) (Ce (bG h3)) ⟨hcon.c,.inl ⟨rfl,rfl,bps,qK h1,hcon.h r hx⟩,bG h3⟩) ha.c,ha.l,ha.p⟩ h4 hB hl
 | @dch Y R' j as k bps Hs N x ret Ht hcon ch B ih=>intro lt lf acc g st Q R ha h hw hl;simp only[chk]at h;obtain⟨h1,h2⟩:=aP h;obtain⟨hk,h2⟩:=aP h2;obtain⟨r,hx,hB⟩:=hw;obtain⟨h3,h4⟩:=aP (mK h2 r);obtain⟨h5,h6⟩:=aP h4;obtain⟨h7,h8⟩:=aP h6;obtain⟨h9,h10⟩:=aP h8;have hp:=hcon.h r hx;rw[bG h5]at hp;exact ih r (acc:=⟨(j,k,as,ret r,Hs,ch r)::acc.calls,acc.lits,acc.conds⟩) ⟨.cons (.inr <| .call (bG hk) (Ce (bG h3)) ⟨hcon.c,.inr ⟨bps,N,qK h1,hp,bG h7,bII (bG h9)⟩,bG h3⟩) ha.c,ha.l,ha.p⟩ h10 hB hl
 | @dcn Y R' j d as k bps Hs N x ret Ht hcon B ih=>
  intro lt lf acc g st Q R ha h hw hl;simp only[chk]at h;obtain⟨h1,h2⟩:=aP h;obtain⟨hk,h2⟩:=aP h2;obtain⟨hHs,h2⟩:=aP h2;obtain⟨hN,h2⟩:=aP h2;obtain⟨r,hx,hB⟩:=hw;have h3:=mK h2 r;have hHs:=bG hHs;have hN:=bG hN;subst hHs hN;split at h3
  ·rename_i o e s n f o' e1 e2;obtain⟨h4,h5⟩:=aP h3;have h4:=bG h4;subst h4;have hp:=hcon.h r hx;rw[e1,e2]at hp;exact ih r (acc:=⟨(j,k,as,.own d,[],some (d,.arr e s n f))::acc.calls,acc.lits,acc.conds⟩) ⟨.cons (.inr <| .new (bG hk) rfl rfl rfl hcon.c (qK h1) (hp.renNew d)) ha.c,ha.l,ha.p⟩ h5 hB hl
  ·exact(aN h3).elim
 | @dcm Y R' j d as k bps Hs N x ret Ht hcon B ih=>
  intro lt lf acc g st Q R ha h hw hl;simp only[chk]at h;obtain⟨h1,h2⟩:=aP h;obtain⟨hk,h2⟩:=aP h2;obtain⟨r,hx,hB⟩:=hw;have h3:=mK h2 r;split at h3
  ·rename_i o m _;obtain⟨h4,h5⟩:=aP h3;obtain⟨h6,h5⟩:=aP h5;obtain⟨h7,h5⟩:=aP h5;have h7:=bG h7;simp only[bKG,dH,mC]at h7;obtain⟨⟨⟨⟨a1,a2⟩,a3⟩,a4⟩,a5⟩:=h7;have nin:∀ {q:Nat} {l:List Nat},inN q l=false->q∉l:=fun hq hm=>by rw[dW.2 hm]at hq; cases hq
   have hp:=hcon.h r hx;rw[bG h4,bG h6]at hp;exact ih r (acc:=⟨(j,k,as,.map d,Hs,some (d,.mp none m none))::acc.calls,acc.lits,acc.conds⟩)
    ⟨.cons (.inr <| .newH (bG hk) rfl rfl hcon.c (qK h1) (hp.renMap d (nin a1) (nin a2) (fun e he q hq e'=>qA (iL.1 a3 e he) q hq (cR.2 e')) (nin a4)) a5) ha.c,ha.l,ha.p⟩ h5 hB hl
  ·exact(aN h3).elim
 | @dap Y j n f x himp t ih=>intro lt lf acc g st Q R ha h hw hl;simp only[chk]at h;exact ih (acc:=⟨(j,fzN,[.t (.sl n f)],.t x,[],none)::acc.calls,acc.lits,acc.conds⟩) ⟨.cons (.inl ⟨rfl,n,f,x,rfl,rfl,himp⟩) ha.c,ha.l,ha.p⟩ h hw hl
 | @dlk Y K mk j ty ob v k t1 ih=>
  intro lt lf acc g st Q R ha h hw hl;simp only[chk]at h;obtain⟨h1,h2⟩:=aP h;obtain⟨c,hc,hB⟩:=hw;obtain⟨k',hk'⟩:=aRK hc;have hz:=bG h1;cases hm:pS I.ti ty (MKey.kT k) with
  | none=>simp_all
  | some et=>
   rw[hm]at hz;refine ih c (acc:=⟨(j,lkN+ty,[.map ob,.t (MKey.kT k)],.fn (.func c) 0 [],[(ob,.mp none (eM (fun c=>.d (.fv c)) v) none)],none)::acc.calls,acc.lits,acc.conds⟩) ⟨.cons (.inr <| .look (by cases hb:Nat.blt (lkN+ty) lkN with | false=>rfl | true=>rw[Nat.blt_eq]at hb; omega) ?_) ha.c,ha.l,ha.p⟩ (aDT h2 _ hk') hB hl
   rw[Nat.add_sub_cancel_left];exact aPR hG.ti v k hm (Ae hz) hc
 | dl j c t e iht ihe=>
  intro lt lf acc g st Q R ha h hw hl;simp only[chk]at h;obtain⟨h1,h2⟩:=aP h;cases hc:c with
  | true=>exact iht (acc:=⟨acc.calls,(j,c,true)::acc.lits,acc.conds⟩) ⟨ha.c,.cons hc ha.l,ha.p⟩ h1 (by simp only[Tr.wpT,hc,fZ]at hw; exact hw) hl
  | false=>exact ihe (acc:=⟨acc.calls,(j,c,false)::acc.lits,acc.conds⟩) ⟨ha.c,.cons hc ha.l,ha.p⟩ h2 (by simp only[Tr.wpT,hc]at hw; exact hw) hl
 | dg j p t ih=>intro lt lf acc g st Q R ha h hw hl;simp only[chk]at h;exact ih (acc:=⟨acc.calls,acc.lits,(j,[p])::acc.conds⟩) ⟨ha.c,ha.l,.cons hw.1 ha.p⟩ h hw.2 hl
 | dr n e ol ts t ih=>
  intro lt lf acc g st Q R ha h hw hl;rcases hr:run I n g st with _ | ⟨g',st',C,fs⟩
  ·simp only[chk,hr]at h; exact(aN h).elim
  ·cases g' with
   | c x ks=>
    cases x with
    | region id ops dw=>
     cases dw with
     | true=>
      simp only[chk,hr]at h;obtain⟨h1,h2⟩:=aP h;obtain⟨h3,h4⟩:=aP h2;obtain⟨hC,hf⟩:=dG h1 trivial;obtain⟨h5,h6⟩:=aP h3;obtain⟨h7,h8⟩:=aP h6;cases hk:(drS I ops.toList (ops.toList.take (ops.toList.length-e)) acc st' ts ol).keep (dY (drS I ops.toList (ops.toList.take (ops.toList.length-e)) acc st' ts ol).fr) (dY (drS I ops.toList (ops.toList.take (ops.toList.length-e)) acc st' ts ol).hp) with
      | none=>rw[hk]at h4; exact(aN h4).elim
      | some s=>
       rw[hk]at h4;have hq:=ih ⟨.nil,.nil,.nil⟩ h4 hw hl;refine dR hG hr hC hf ?_;have hops:ops=ops.toList.toArray:=by simp
       show pwp P E (.region id ops true) _ _;rw[hops];exact aUG hG (bG h7) (L:=ops.toList) (l:=ops.toList.take (ops.toList.length-e)) (tl:=ops.toList.drop (ops.toList.length-e)) (gG _ _).symm acc.calls acc.lits acc.conds ol ts ha.c ha.l ha.p _ _ (bG h5) (bG h8) hk hq
     | false=>simp only[chk,hr]at h; exact(aN h).elim
    | _=>simp only[chk,hr]at h; exact(aN h).elim
   | _=>simp only[chk,hr]at h; exact(aN h).elim
 | @mk Y K V mk n enc t ih=>
  intro lt lf acc g st Q R ha h hw hl;rcases hr:run I n g st with _ | ⟨g',st',C,fs⟩
  ·simp only[chk,hr]at h; exact(aN h).elim
  ·cases g' with
   | o all l ks=>
    cases l with
    | nil=>simp only[chk,hr]at h; exact(aN h).elim
    | cons op l=>
     simp only[chk,hr]at h;split at h
     case h_2=>exact(aN h).elim
     rename_i ty d e1 e2 e3;split at h
     case h_2=>exact(aN h).elim
     rename_i st1 e4 e5 e6;obtain⟨h1,h2⟩:=aP h;obtain⟨hC,hf⟩:=dG h1 trivial;exact dR hG hr hC hf (Xu hG (K:=K) enc rfl e1 e2 e3 e4 e5 e6 (ih ha h2 hw hl))
   | _=>simp only[chk,hr]at h; exact(aN h).elim
 | @mlen Y K V mk n enc v t ih=>
  intro lt lf acc g st Q R ha h hw hl;rcases hr:run I n g st with _ | ⟨g',st',C,fs⟩
  ·simp only[chk,hr]at h; exact(aN h).elim
  ·cases g' with
   | o all l ks=>
    cases l with
    | nil=>simp only[chk,hr]at h; exact(aN h).elim
    | cons op l=>
     simp only[chk,hr]at h;split at h
     case h_2=>exact(aN h).elim
     rename_i c d e1 e2 e3;split at h
     case h_2=>exact(aN h).elim
     rename_i x ty e4 e5 e6 e7;split at h
     case h_2=>exact(aN h).elim
     rename_i ob e8;split at h
     case h_2=>exact(aN h).elim
     rename_i it m ho e9;obtain⟨h1,h2⟩:=aP h;obtain⟨h3,h4⟩:=aP h2;obtain⟨h5,h6⟩:=aP h4;obtain⟨hC,hf⟩:=dG h1 trivial;have h5:=bG h5;cases h5;exact dR hG hr hC hf (aGX hG v rfl e1 e4 (Qn e5) e6 e2 e3 e7 e8 (bG h3) e9 (ih ha h6 hw hl))
   | _=>simp only[chk,hr]at h; exact(aN h).elim
 | @lkr Y K V mk n e s nn ff dflt v k t ih=>
  intro lt lf acc g st Q R ha h hw hl;rcases hr:run I n g st with _ | ⟨g',st',C,fs⟩
  ·simp only[chk,hr]at h; exact(aN h).elim
  ·cases g' with
   | o all l ks=>
    cases l with
    | nil=>simp only[chk,hr]at h; exact(aN h).elim
    | cons op l=>
     simp only[chk,hr]at h;rcases hlk:Lq I all op st' with _ | ⟨d,ty,ob,kp⟩
     ·rw[hlk]at h; exact(aN h).elim
     rw[hlk]at h;obtain⟨x,kx,e1,e2,e3,e4,e5,e6⟩:=Vq hlk;simp only at h;split at h
     case h_2=>exact(aN h).elim
     rename_i it m ho et e7 e8;obtain⟨h1,h2⟩:=aP h;obtain⟨h3,h4⟩:=aP h2;obtain⟨h5,h6⟩:=aP h4;obtain⟨h7,h8⟩:=aP h6;obtain⟨h9,h10⟩:=aP h8;obtain⟨h11,h12⟩:=aP h10;obtain⟨hC,hf⟩:=dG h1 trivial;have h3:=bG h3;subst h3;have h5:=bG h5;cases h5;split at h12
     ·rename_i s2 hs;exact dR hG hr hC hf (Pd hG v k dflt rfl e1 e2 e3 e4 e5 e6 e7 e8 (Ae (bG h7)) (bG h9) (bG h11) hs (ih ha h12 hw hl))
     ·exact(aN h12).elim
   | _=>simp only[chk,hr]at h; exact(aN h).elim
 | @lkd Y K V mk n zv eD v k t0 t1 ih0 ih1=>
  intro lt lf acc g st Q R ha h hw hl;rcases hr:run I n g st with _ | ⟨g',st',C,fs⟩
  ·simp only[chk,hr]at h; exact(aN h).elim
  ·cases g' with
   | o all l ks=>
    cases l with
    | nil=>simp only[chk,hr]at h; exact(aN h).elim
    | cons op l=>
     simp only[chk,hr]at h;rcases hlk:Lq I all op st' with _ | ⟨d,ty,ob,kp⟩
     ·rw[hlk]at h; exact(aN h).elim
     rw[hlk]at h;obtain⟨x,kx,e1,e2,e3,e4,e5,e6⟩:=Vq hlk;simp only at h;split at h
     case h_2=>exact(aN h).elim
     rename_i it m ho et zp e7 e8 e9;obtain⟨h1,h2⟩:=aP h;obtain⟨h3,h4⟩:=aP h2;obtain⟨h5,h6⟩:=aP h4;obtain⟨h7,h8⟩:=aP h6;obtain⟨h9,h10⟩:=aP h8;obtain⟨hC,hf⟩:=dG h1 trivial;have h3:=bG h3;subst h3;have h5:=bG h5;cases h5;refine dR hG hr hC hf (aAE hG v k rfl e1 e2 e3 e4 e5 e6 e7 e8 (Ae (bG h7)) e9 (fun hn=>?_) fun c hc=>?_)
     ·exact ih0 ha h9 (by simp only[Tr.wpT,hn]at hw; exact hw) hl
     ·exact ih1 c ha (mK h10 c) (by simp only[Tr.wpT,hc]at hw; exact hw) hl
   | _=>simp only[chk,hr]at h; exact(aN h).elim
 | @upd Y K V mk n enc v k t ih=>
  intro lt lf acc g st Q R ha h hw hl;rcases hr:run I n g st with _ | ⟨g',st',C,fs⟩
  ·simp only[chk,hr]at h; exact(aN h).elim
  ·cases g' with
   | o all l ks=>
    cases l with
    | nil=>simp only[chk,hr]at h; exact(aN h).elim
    | cons op l=>
     simp only[chk,hr]at h;split at h
     case h_2=>exact(aN h).elim
     rename_i ty x kx vx e1 e2 e3;split at h
     case h_2=>exact(aN h).elim
     rename_i ob kp p e4 e5 e6;split at h
     case h_2=>exact(aN h).elim
     rename_i it m ho et e7 e8;obtain⟨h1,h2⟩:=aP h;obtain⟨h3,h4⟩:=aP h2;obtain⟨h5,h6⟩:=aP h4;obtain⟨h9,h6⟩:=aP h6;obtain⟨hC,hf⟩:=dG h1 trivial;have h3:=bG h3;subst h3;have h5:=bG h5;cases h5;have hcur:Tw it (MKey.kT k):=by intro i hi;subst hi;exact bG h9
     exact dR hG hr hC hf (aQJ hG v k p rfl (aSD e1) e2 e3 e4 e5 e6 e7 e8 hcur (ih ha h6 hw hl))
   | _=>simp only[chk,hr]at h; exact(aN h).elim
 | @dlt Y K V mk n enc v k hp t ih=>
  intro lt lf acc g st Q R ha h hw hl;rcases hr:run I n g st with _ | ⟨g',st',C,fs⟩
  ·simp only[chk,hr]at h; exact(aN h).elim
  ·cases g' with
   | o all l ks=>
    cases l with
    | nil=>simp only[chk,hr]at h; exact(aN h).elim
    | cons op l=>
     simp only[chk,hr]at h;split at h
     case h_2=>exact(aN h).elim
     rename_i c e1 e2 e3;split at h
     case h_2=>exact(aN h).elim
     rename_i x kx ty e4 e5 e6;split at h
     case h_2=>exact(aN h).elim
     rename_i ob kp et e7 e8 e9;split at h
     case h_2=>exact(aN h).elim
     rename_i it m ho e10;obtain⟨h1,h2⟩:=aP h;obtain⟨h3,h4⟩:=aP h2;obtain⟨h5,h6⟩:=aP h4;obtain⟨h7,h8⟩:=aP h6;obtain⟨hC,hf⟩:=dG h1 trivial;have h3:=bG h3;subst h3;have h5:=bG h5;cases h5;have hcur:Tw it (MKey.kT k):=by intro i hi;subst hi;exact bG h7
     exact dR hG hr hC hf (Sr hG v k rfl e1 e4 (Qn e5) e6 e2 e3 e7 e8 e10 e9 hcur (ih ha h8 hw hl))
   | _=>simp only[chk,hr]at h; exact(aN h).elim
 | @rng Y K V mk n enc v t ih=>
  intro lt lf acc g st Q R ha h hw hl;rcases hr:run I n g st with _ | ⟨g',st',C,fs⟩
  ·simp only[chk,hr]at h; exact(aN h).elim
  ·cases g' with
   | o all l ks=>
    cases l with
    | nil=>simp only[chk,hr]at h; exact(aN h).elim
    | cons op l=>
     simp only[chk,hr]at h;split at h
     case h_2=>exact(aN h).elim
     rename_i ty x d e1 e2 e3;split at h
     case h_2=>exact(aN h).elim
     rename_i ob e4 e5;split at h
     case h_2=>exact(aN h).elim
     rename_i m ho s2 e6 e7;obtain⟨h1,h2⟩:=aP h;obtain⟨h3,h4⟩:=aP h2;obtain⟨h5,h6⟩:=aP h4;obtain⟨hC,hf⟩:=dG h1 trivial;have h5:=bG h5;cases h5;exact dR hG hr hC hf (Yf hG v rfl e1 e2 e3 e5 e4 (bG h3) e6 e7 (ih ha h6 hw hl))
   | _=>simp only[chk,hr]at h; exact(aN h).elim
 | @nxd Y K V mk n eD v rem t0 t1 ih0 ih1=>
  intro lt lf acc g st Q R ha h hw hl;rcases hr:run I n g st with _ | ⟨g',st',C,fs⟩
  ·simp only[chk,hr]at h; exact(aN h).elim
  ·cases g' with
   | o all l ks=>
    cases l with
    | nil=>simp only[chk,hr]at h; exact(aN h).elim
    | cons op l=>
     simp only[chk,hr]at h;rcases hnx:aBZ I all op st' with _ | ⟨d,di⟩
     ·rw[hnx]at h; exact(aN h).elim
     rw[hnx]at h;obtain⟨x,e1,e2,e3,e4,e5⟩:=aKQ hnx;simp only at h;split at h
     case h_2=>exact(aN h).elim
     rename_i ob _;split at h
     case h_2=>exact(aN h).elim
     rename_i it m ho e6;obtain⟨h1,h2⟩:=aP h;obtain⟨h3,h4⟩:=aP h2;obtain⟨h5,h6⟩:=aP h4;obtain⟨hC,hf⟩:=dG h1 trivial;have h3:=bG h3;obtain⟨io,irem,icur⟩:=it;cases h3;have h5:=bG h5;cases h5;obtain⟨h7,h8⟩:=aP h6;refine dR hG hr hC hf (Zq hG v rem rfl e1 e2 e3 e4 e5 e6 (fun hn=>ih0 ha h7 (hw.1 hn) hl) fun k c hk hc=>?_);refine gC (Le.trans (Le.gapd (o:=ob) (it:=some ⟨io,kTs (rem.erase k),some (MKey.kT k)⟩) (eD:=eD) v k c hc (by simp[Fg,St.put,look])) fun a w r=>?_) (ih1 k c ha (mK (mK h8 k) c) (hw.2.1 k c hk hc) hl);refine r.sub (fun e he=>he) (fun e he=>?_);simp only[St.put,Fg]at he ⊢;rcases bH.1 he with rfl | he
     ·simp_all
     ·obtain⟨k',y⟩:=e;obtain⟨h9,h10⟩:=bC.1 he;exact cZ _ (bC.2 ⟨cZ _ (bC.2 ⟨h9,h10⟩),h10⟩)
   | _=>simp only[chk,hr]at h; exact(aN h).elim
end
def pB(fn:Func):Code:=match fn.body with | some c=>c | none=>.skip
def Oi{Y:Type}(b:Bool)(I:Inf)(rs:List ResultVar)(ret:Y->PV)(Ht:Y->Hp)(y:Y)(e:Exit)(s:St):VT:=
 match e with
 | .normal=>.and (vt b (aRY I rs s) (some (ret y))) (vt b (nD s.hp (dY (Ht y))) (some (Ht y)))
 | .ret=>.and (vt b (aRY I rs s) (some (ret y))) (vt b (nD s.hp (dY (Ht y))) (some (Ht y)))
 | _=>bad b
section
variable {P:Program} {ti:Nat->Option dT} {k:FuncId} {fn:Func} {args:List PV} {Y:Type}
theorem If{ret:Y->PV}{Ht:Y->Hp}(hf:P.funcs[k]? = some fn)(hI:nT P ti)(t:Tr P Y)(h1:(fn.body.isSome,Nat.ble args.length fn.ntmps)=(true,true))
  (h2:chk P ⟨ti,N,fn.ntmps⟩ true t (Oi true ⟨ti,N,fn.ntmps⟩ fn.results.toList ret Ht) Df (.c (pB fn) []) ⟨kX args 0,H⟩=chk P ⟨ti,N,fn.ntmps⟩ false t (Oi false ⟨ti,N,fn.ntmps⟩ fn.results.toList ret Ht) Df (.c (pB fn) []) ⟨kX args 0,H⟩)
  {y:Y}(hy:t.wpT (·=y)):gW P k args H N (vZ (ret y) (Ht y)):=by
 injection h1 with h3 h4;obtain⟨c,hc⟩:=Ck.1 h3;have hb:pB fn=c:=by unfold pB; rw[hc]
 rw[hb]at h2;refine aPW (I:=⟨ti,N,fn.ntmps⟩) hf hc hI rfl (fY h4) fun E hG=>?_;refine Qp (t.sound hG ⟨.nil,.nil,.nil⟩ h2 hy (Q:=bKF ⟨ti,N,fn.ntmps⟩ fn.results.toList (vZ (ret y) (Ht y))) fun y' e s hy' he=>?_) fun e s he=>⟨s,.refl,he⟩;subst hy';refine⟨s,.refl,?_⟩;unfold Oi at he;cases e with
 | normal=>obtain⟨h5,h6⟩:=aP he; exact⟨.inl rfl,_,_,_,bG h5,bG h6,rfl,rfl⟩
 | ret=>obtain⟨h5,h6⟩:=aP he; exact⟨.inr rfl,_,_,_,bG h5,bG h6,rfl,rfl⟩
 | _=>exact(aN he).elim
theorem gW.noH{H N:_}{ret:PV}{Ht:Hp}(h:gW P k args H N (vZ ret Ht)):gW P k args H N (Ret ret):=h.mono fun _ _ hr=>hr.1
theorem eC{ret:Y->PV}{Ht:Y->Hp}(hf:P.funcs[k]? = some fn)(hI:nT P ti)(t:Tr P Y)
  (h1:(fn.body.isSome,Nat.ble args.length fn.ntmps)=(true,true):=by kernel_rfl)(h3:(fn.body.isNone,fn.name == "runtime.NumGoroutine")=(false,false):=by kernel_rfl)
  (h2:chk P ⟨ti,N,fn.ntmps⟩ true t (Oi true ⟨ti,N,fn.ntmps⟩ fn.results.toList ret Ht) Df (.c (pB fn) []) ⟨kX args 0,H⟩=chk P ⟨ti,N,fn.ntmps⟩ false t (Oi false ⟨ti,N,fn.ntmps⟩ fn.results.toList ret Ht) Df (.c (pB fn) []) ⟨kX args 0,H⟩:=by kernel_rfl):
  dD P k args H N t.den ret Ht:=⟨bL hf h3,fun _ hy=>If hf hI t h1 h2 (t.of_den hy rfl)⟩
theorem So{ret:Y->PV}{Ht:Y->Hp}(hf:P.funcs[k]? = some fn)(hI:nT P ti)(t:Tr P Y)
  (h1:(fn.body.isSome,Nat.ble args.length fn.ntmps)=(true,true):=by kernel_rfl)(h3:(fn.body.isNone,fn.name == "runtime.NumGoroutine")=(false,false):=by kernel_rfl)
  (h2:chk P ⟨ti,N,fn.ntmps⟩ true t (Oi true ⟨ti,N,fn.ntmps⟩ fn.results.toList ret Ht) Df (.c (pB fn) []) ⟨kX args 0,H⟩=chk P ⟨ti,N,fn.ntmps⟩ false t (Oi false ⟨ti,N,fn.ntmps⟩ fn.results.toList ret Ht) Df (.c (pB fn) []) ⟨kX args 0,H⟩:=by kernel_rfl):
  dD P k args H N (Det t) ret Ht:=⟨bL hf h3,fun _ hy=>If hf hI t h1 h2 (Det.ok hy)⟩
theorem con{ret:Y->PV}(hf:P.funcs[k]? = some fn)(hI:nT P ti)(t:Tr P Y)
  (h1:(fn.body.isSome,Nat.ble args.length fn.ntmps)=(true,true):=by kernel_rfl)(h3:(fn.body.isNone,fn.name == "runtime.NumGoroutine")=(false,false):=by kernel_rfl)
  (h2:chk P ⟨ti,[],fn.ntmps⟩ true t (Oi true ⟨ti,[],fn.ntmps⟩ fn.results.toList ret (fun _=>[])) Df (.c (pB fn) []) ⟨kX args 0,[]⟩=chk P ⟨ti,[],fn.ntmps⟩ false t (Oi false ⟨ti,[],fn.ntmps⟩ fn.results.toList ret (fun _=>[])) Df (.c (pB fn) []) ⟨kX args 0,[]⟩:=by kernel_rfl):
  Con P k args t.den ret:=⟨bL hf h3,fun _ hy=>(If hf hI t h1 h2 (t.of_den hy rfl)).noH⟩
def jL{K:Type}[MKey K](l:List K)(k:K):List K:=l.erase k
theorem bLE{α R:Type}[Inhabited α](l1:List PV)(c:α->List T)(xs:List α)(lo hi:Int)(l2:List PV){x:Option R}{ret:R->PV}(h:Con P k (l1 ++ .t (eL c ((xs.drop lo.toNat).take (hi-lo).toNat))::l2) x ret):
  Con P k (l1 ++ .t (.sl (hi-lo).toNat (fun q=>eF c xs (lo.toNat+q)))::l2) (if 0<=lo/\lo<=hi/\hi<=(xs.length:Int) then x else none) ret:=by
 refine⟨h.c,fun y hy=>?_⟩;split at hy
 case isFalse=>cases hy
 rename_i hc;intro F g w vs hs hv;refine h.h y hy F g w vs (by simp_all) fun j p v hj hvj=>?_;by_cases hj1:j=l1.length
 ·subst hj1;have hj:PV.t (eL c ((xs.drop lo.toNat).take (hi-lo).toNat))=p:=by simp_all
  subst hj;exact Uw hc rfl F g w v (hv l1.length _ v (by simp) hvj)
 grind
theorem aJW{α:Type}[Inhabited α](c:α->List T)(xs ys:List α)(m:Nat)(f2:Nat->List T)(hm:m=ys.length)(hf:(List.range m).map f2=(List.range m).map (eF c ys)):
  ∀ F g w v,VR F g w (.t (.sl (xs.length+m) (sP xs.length (eF c xs) f2))) v->VR F g w (.t (eL c (xs++ys))) v:=by
 subst hm;refine Cw (x:=eL c (xs++ys)) rfl cE (fun i hi=>?_);unfold sP;split
 ·rename_i h; simp only[eF,eU,pZ h]
 ·rename_i h;rw[jG hf _ (by omega)];simp only[eF,eU,nJ (Nat.le_of_not_lt h)]
variable {A R:Type}
noncomputable def aPD {C:A->Option R->Prop}(c0:∀ a,C a none)(B:{f:A->Option R // ∀ a,C a (f a)}->A->Tr P R)(ok:∀ f a,C a (B f a).den):Nat->{f:A->Option R // ∀ a,C a (f a)}
 | 0=>⟨fun _=>none,c0⟩
 | n+1=>⟨fun a=>(B (aPD c0 B ok n) a).den,ok _⟩
noncomputable def sG {C:A->Option R->Prop}(c0:∀ a,C a none)(B:{f:A->Option R // ∀ a,C a (f a)}->A->Tr P R)(ok:∀ f a,C a (B f a).den)(a:A):Option R:=Lim fun n=>(aPD c0 B ok n).1 a
theorem lX{C:A->Option R->Prop}(c0:∀ a,C a none)(B:{f:A->Option R // ∀ a,C a (f a)}->A->Tr P R)(ok:∀ f a,C a (B f a).den)(a:A):C a (sG c0 B ok a):=by
 unfold sG Lim;split
 all_goals grind
end
end Go.PL
