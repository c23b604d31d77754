/-
  Parts: Functions as trees: A TREE THAT IS CHECKED TELLS WHAT THE CODE DOES. Own work. Functions as trees: functions of the program, from their trees. Own work.
-/
import Derived.Test.YtjefblkdnolgaaaGreatDoorMc
import Derived.KernelRfl
set_option maxHeartbeats 4000000
namespace Go.PL
open Go
variable {H:Hp} {N:List Nat}
section
variable {P:Program} {E:Env} {I:Inf}
theorem aJY{st:St}{t:Nat}{x y:PV}(h:look st.fr t=some x)(hx:∀ F g w v,VR F g w x v->VR F g w y v):Le E st { st with fr:=(t,y)::del t st.fr }:=fun _ _ r=>r.slot h hx
theorem Td{α:Type}:∀ (l:List (Nat×α)) (xs:List α),(l.foldl (fun xs p=>xs.set p.1 p.2) xs).length=xs.length
 | [],xs=>rfl
 | p::l,xs=>by simp only[lU]; rw[Td l]; simp
theorem Ca{α:Type}(c:α->List T):∀ (l:List (Nat×α)) {f g:Nat->List T},(∀ q,f q=g q)->∀ q,l.foldl (fun f p=>vE f p.1 (c p.2)) f q=l.foldl (fun f p=>vE f p.1 (c p.2)) g q
 | [],_,_,h,q=>h q
 | p::l,f,g,h,q=>by simp only[lU];exact Ca c l (fun q=>by simp only[vE]; rw[h q]) q
theorem Ue{α:Type}[Inhabited α](c:α->List T):∀ (l:List (Nat×α)) (xs:List α),(l.all fun p=>decide (p.1<xs.length))=true->∀ q,l.foldl (fun f p=>vE f p.1 (c p.2)) (eF c xs) q=eF c (l.foldl (fun xs p=>xs.set p.1 p.2) xs) q
 | [],xs,_,q=>rfl
 | p::l,xs,h,q=>by simp only[List.all_cons,cQ,jX]at h;simp only[lU];rw[<-Ue c l (xs.set p.1 p.2) (by grind) q];refine Ca c l (fun q=>?_) q;simp only[vE,eF];grind
theorem Kd{t:Nat}{j:dO}(h:Oj I t=some j):∃ i e,I.ti t=some i/\i.und = .sl e/\I.ti e=some j:=by unfold Oj at h;grind
theorem Tr.sound(M:gN P E I){Y:Type}(t:Tr P Y):∀ {lt lf:Y->Exit->St->VT} {acc:Acc} {g:Cfg} {st:St} {Q:iK} {R:Y->Prop},bFA P acc->chk P I true t lt acc g st=chk P I false t lf acc g st->t.wpT R ->
  (∀ y e s,R y->lt y e s=lf y e s->∃ u,Le E s u/\Q e u)->cwp P E g Q st:=by
 induction t with
 | ret n y=>
  intro lt lf acc g st Q R ha h D hl;rcases hr:run I n g st with _ | ⟨g',G,C,fs⟩
  ·simp only[chk,hr]at h; exact(aN h).elim
  ·cases g' with
   | x e ks=>
    cases ks with
    | nil=>simp only[chk,hr]at h;obtain⟨h1,h2⟩:=aQ h;obtain⟨J,hf⟩:=dL h1 trivial;exact dS M hr J hf (hl y e G D h2)
    | cons=>simp only[chk,hr]at h; exact(aN h).elim
   | _=>simp only[chk,hr]at h; exact(aN h).elim
 | ite n c t e iht ihe=>
  intro lt lf acc g st Q R ha h D hl;have hw1:c=true->t.wpT R:=fun hc=>by simp only[Tr.wpT,hc,gT]at D; exact D
  have hw0:c=false->e.wpT R:=fun hc=>by simp only[Tr.wpT,hc]at D; exact D
  rcases hr:run I n g st with _ | ⟨g',G,C,fs⟩
  ·simp only[chk,hr]at h; exact(aN h).elim
  ·cases g' with
   | c x ks=>
    cases x with
    | cond o u v=>simp only[chk,hr]at h;obtain⟨h1,h2⟩:=aQ h;obtain⟨h3,h4⟩:=aQ h2;obtain⟨h5,h6⟩:=aQ h4;obtain⟨J,hf⟩:=dL h1 trivial;exact dS M hr J hf (Gx (bH h3) (fun hc=>iht ha h5 (hw1 hc) hl) (fun hc=>ihe ha h6 (hw0 hc) hl))
    | _=>simp only[chk,hr]at h; exact(aN h).elim
   | o all l ks=>
    cases l with
    | nil=>simp only[chk,hr]at h; exact(aN h).elim
    | cons op l=>
     simp only[chk,hr]at h;cases hg:aIP all op with
     | none=>rw[hg]at h; exact(aN h).elim
     | some d=>rw[hg]at h;obtain⟨h1,h2⟩:=aQ h;obtain⟨h3,h4⟩:=aQ h2;obtain⟨h5,h6⟩:=aQ h4;obtain⟨J,hf⟩:=dL h1 trivial;exact dS M hr J hf (aCZ (bH h3) (fun hc=>iht ha h5 (hw1 hc) hl) (fun hc=>ihe ha h6 (hw0 hc) hl))
   | x=>simp only[chk,hr]at h; exact(aN h).elim
 | grd n p t ih=>
  intro lt lf acc g st Q R ha h D hl;rcases hr:run I n g st with _ | ⟨g',G,C,fs⟩
  ·simp only[chk,hr]at h; exact(aN h).elim
  ·simp only[chk,hr]at h;obtain⟨h1,h2⟩:=aQ h;obtain⟨J,hf⟩:=dL h1 D.1;exact dS M hr J hf (ih ha h2 D.2 hl)
 | gd n p hp t ih=>
  intro lt lf acc g st Q R ha h D hl;rcases hr:run I n g st with _ | ⟨g',G,C,fs⟩
  ·simp only[chk,hr]at h; exact(aN h).elim
  ·simp only[chk,hr]at h;obtain⟨h1,h2⟩:=aQ h;obtain⟨J,hf⟩:=dL h1 hp;exact dS M hr J hf (ih ha h2 D hl)
 | cv n l t ih=>
  intro lt lf acc g st Q R ha h D hl;rcases hr:run I n g st with _ | ⟨g',G,C,fs⟩
  ·simp only[chk,hr]at h; exact(aN h).elim
  ·simp only[chk,hr]at h;obtain⟨h1,h2⟩:=aQ h;obtain⟨h3,h4⟩:=aQ h2;obtain⟨J,hf⟩:=dL h1 trivial;cases hc:cvL I l G with
   | none=>rw[hc]at h4; exact(aN h4).elim
   | some st''=>rw[hc]at h4;exact dS M hr J hf (sG (aLW M h3 hc) (ih ha h4 D hl))
 | no=>intro lt lf acc g st Q R ha h D hl; exact D.elim
 | @foc Y α inh n o q i j c xs t ih=>
  intro lt lf acc g st Q R ha h D hl;rcases hr:run I n g st with _ | ⟨g',G,C,fs⟩
  ·simp only[chk,hr]at h; exact(aN h).elim
  ·simp only[chk,hr]at h;obtain⟨h1,h2⟩:=aQ h;obtain⟨J,hf⟩:=dL h1 trivial;split at h2
   ·rename_i e s n' f hlk;obtain⟨h3,h4⟩:=aQ h2;have h3:=bH h3;cases h3;split at h4
    ·rename_i e' s' m f' hx;split at h4
     ·rename_i s2 hs;exact dS M hr J hf (sG (fun _ _ r=>Rel.armFocus M.N hlk D.1 hx hs r) (ih ha h4 D.2 hl))
     ·exact(aN h4).elim
    ·exact(aN h4).elim
   ·exact(aN h2).elim
 | @ca Y R' n k bps x ret hcon B ih=>
  intro lt lf acc g st Q R ha h D hl;rcases hr:run I n g st with _ | ⟨g',G,C,fs⟩
  ·simp only[chk,hr]at h; exact(aN h).elim
  ·cases g' with
   | o all l ks=>
    cases l with
    | nil=>simp only[chk,hr]at h; exact(aN h).elim
    | cons op l=>
     simp only[chk,hr]at h;rcases hc:Kg I all op G with _ | ⟨d,k',as⟩
     ·rw[hc]at h; exact(aN h).elim
     ·rw[hc]at h;obtain⟨h1,h2⟩:=aQ h;obtain⟨h3,h4⟩:=aQ h2;obtain⟨h5,h6⟩:=aQ h4;obtain⟨J,hf⟩:=dL h1 trivial;have h3:=bH h3;subst h3;obtain⟨c,f,nf,caps,aps,e1,e2,e3,e4,e5,e6,e7,rfl⟩:=Sx hc;obtain⟨r,hx,hB⟩:=D;obtain⟨h7,h8⟩:=aQ (oS h6 r);have h7:=bH h7;have h5:=aLC h5;obtain⟨L,hL⟩:∃ L,L=pZ (List.take nf caps++aps++List.drop nf caps) bps:=⟨_,rfl⟩;rw[<-hL]at h5 h7;refine dS M hr J hf (aDK M L rfl e1 e2 e3 e4 e5 e6 e7 hcon.c h5 (hcon.h r hx) fun r' H' hr'=>?_);unfold Ret at hr'; subst hr';exact⟨by cases L <;> exact h7,ih r ha h8 hB hl⟩
   | _=>simp only[chk,hr]at h; exact(aN h).elim
 | @ch Y R' cur n k bps Hs N x ret Ht nw hcon B ih=>
  intro lt lf acc g st Q R ha h D hl;rcases hr:run I n g st with _ | ⟨g',G,C,fs⟩
  ·simp only[chk,hr]at h; exact(aN h).elim
  ·cases g' with
   | o all l ks=>
    cases l with
    | nil=>simp only[chk,hr]at h; exact(aN h).elim
    | cons op l=>
     simp only[chk,hr]at h;rcases hc:Kg I all op G with _ | ⟨d,k',as⟩
     ·rw[hc]at h; exact(aN h).elim
     ·rw[hc]at h;obtain⟨h1,h2⟩:=aQ h;obtain⟨h3,h4⟩:=aQ h2;obtain⟨h5,h6⟩:=aQ h4;obtain⟨h7,h8⟩:=aQ h6;obtain⟨h9,h10⟩:=aQ h8;obtain⟨J,hf⟩:=dL h1 trivial;have h3:=bH h3;subst h3;obtain⟨c,f,nf,caps,aps,e1,e2,e3,e4,e5,e6,e7,rfl⟩:=Sx hc;obtain⟨r,hx,hB⟩:=D;obtain⟨h11,h12⟩:=aQ (cur.ok _ _ h10 r);refine dS M hr J hf (Vy M (dZ Hs) N nw rfl e1 e2 e3 e4 e5 e6 e7 hcon.c (uX h5 _) (bH h7) (bH h9) (hcon.h r hx) fun r' H' hr'=>?_);unfold vF at hr'; obtain⟨rfl,rfl⟩:=hr';exact⟨bH h11,ih r ha h12 hB hl⟩
   | _=>simp only[chk,hr]at h; exact(aN h).elim
 | @jn Y S cur n m tm A B ihA ihB=>
  intro lt lf acc g st Q R ha h D hl;rcases hr:run I n g st with _ | ⟨g',G,C,fs⟩
  ·simp only[chk,hr]at h; exact(aN h).elim
  ·simp only[chk,hr]at h;obtain⟨h1,h2⟩:=aQ h;obtain⟨h3,h4⟩:=aQ h2;obtain⟨J,hf⟩:=dL h1 trivial;refine dS M hr J hf ?_;have hA:cwp P E (aHU m g') (fun e s=>e = .normal/\∃ v,(B v).wpT R/\Le E s (tm v)) G:=ihA ⟨.nil,.nil,.nil⟩ h3 D fun v e s hv hk=>⟨s,.refl,(pL (E:=E) hk).1,v,hv,(pL hk).2⟩;refine aHW hA fun e s he=>?_;obtain⟨rfl,v,hv,hle⟩:=he;obtain⟨u,hu,hq⟩:=ihB v ha (cur.ok _ _ h4 v) hv hl;exact⟨u,hle.trans hu,hq⟩
 | @pc Y S cur n m tm A B ihA ihB=>
  intro lt lf acc g st Q R ha h D hl;rcases hr:run I n g st with _ | ⟨g',G,C,fs⟩
  ·simp only[chk,hr]at h; exact(aN h).elim
  ·simp only[chk,hr]at h;obtain⟨h1,h2⟩:=aQ h;obtain⟨h3,h4⟩:=aQ h2;obtain⟨J,hf⟩:=dL h1 trivial;refine dS M hr J hf ?_;have hA:cwp P E (aHU m g') (fun e s=>(e = .normal/\∃ v,(B v).wpT R/\Le E s (tm v))\/∃ t,Le E s t/\kQ P E (Qu m g') Q e t) G:=ihA ⟨.nil,.nil,.nil⟩ h3 D fun z e s hz hk=>by
    cases z with
    | inl v=>exact⟨s,.refl,.inl ⟨(pL (E:=E) hk).1,v,hz,(pL hk).2⟩⟩
    | inr y=>exact⟨s,.refl,.inr (Kh (P:=P) (E:=E) (Q:=Q) hk fun e s he=>hl y e s hz he).2⟩
   refine aHW hA fun e s he=>?_;rcases he with⟨rfl,v,hv,hle⟩ | he
   ·obtain⟨u,hu,hq⟩:=ihB v ha (cur.ok _ _ h4 v) hv hl;exact⟨u,hle.trans hu,hq⟩
   omega
 | @lp Y S R' curS curR n tm bt ex s0 L B ihL ihB=>
  intro lt lf acc g st Q R ha h D hl;rcases hr:run I n g st with _ | ⟨g',G,C,fs⟩
  ·simp only[chk,hr]at h; exact(aN h).elim
  ·cases g' with
   | c c ks=>
    cases c with
    | loop c=>
     simp only[chk,hr]at h;obtain⟨h1,h2⟩:=aQ h;obtain⟨h3,h4⟩:=aQ h2;obtain⟨h5,h6⟩:=aQ h4;obtain⟨J,hf⟩:=dL h1 trivial;refine dS M hr J hf ?_;refine sG (Nk (bH h3)) ?_;refine aCV (Out:=fun (z:R'⊕Y) e s=>match z with | .inl r=>e = .exit ex/\Le E s (bt r) | .inr y=>R y->∃ t,Le E s t/\kQ P E ks Q e t) (fun s Z hZ=>?_) D fun z e s hz ho=>?_
     ·refine Pt (ihL s ⟨.nil,.nil,.nil⟩ (curS.ok _ _ h5 s) hZ (Q:=fun e st=>∃ z,Z z/\aJJ E tm (fun (z:R'⊕Y) e s=>match z with | .inl r=>e = .exit ex/\Le E s (bt r) | .inr y=>R y->∃ t,Le E s t/\kQ P E ks Q e t) z e st) fun z e s hz hk=>?_) fun e s he=>⟨s,.refl,he⟩
      cases z with
      | inl v=>exact⟨s,.refl,_,hz,(pL (E:=E) hk).1,(pL hk).2⟩
      | inr z=>
       cases z with
       | inl r=>obtain⟨he,hle⟩:=aUK (E:=E) (bt:=bt) (ex:=ex) (r:=r) hk;exact⟨s,.refl,_,hz,by rw[he]; simp,he,hle⟩
       | inr y=>
        have hk:wL true lt ks y e s=wL false lf ks y e s:=hk;have hne:e ≠ .normal:=by rintro rfl; exact aN hk
        exact⟨s,.refl,_,hz,hne,fun hy=>(Kh (P:=P) (E:=E) (Q:=Q) hk fun e s he=>hl y e s hy he).2⟩
     ·cases z with
      | inl r=>obtain⟨rfl,hle⟩:=ho;obtain⟨u,hu,hq⟩:=ihB r ha (curR.ok _ _ h6 r) hz hl;exact⟨u,hle.trans hu,hq⟩
      | inr y=>exact ho hz
    | _=>simp only[chk,hr]at h; exact(aN h).elim
   | _=>simp only[chk,hr]at h; exact(aN h).elim
 | slc n t c xs lo hi k ih=>
  intro lt lf acc g st Q R ha h D hl;rcases hr:run I n g st with _ | ⟨g',G,C,fs⟩
  ·simp only[chk,hr]at h; exact(aN h).elim
  ·simp only[chk,hr]at h;obtain⟨h1,h2⟩:=aQ h;obtain⟨h3,h4⟩:=aQ h2;obtain⟨J,hf⟩:=dL h1 D.1;exact dS M hr J hf (sG (aJY (bH h3) (Ry D.1 rfl)) (ih ha h4 D.2 hl))
 | sto n o c xs l k ih=>
  intro lt lf acc g st Q R ha h D hl;rcases hr:run I n g st with _ | ⟨g',G,C,fs⟩
  ·simp only[chk,hr]at h; exact(aN h).elim
  ·simp only[chk,hr]at h;rcases hx:look G.hp o with _ | x
   ·rw[hx]at h; exact(aN h).elim
   ·rw[hx]at h;cases x with
    | arr e s n' f=>simp only at h;obtain⟨h1,h2⟩:=aQ h;obtain⟨h3,h4⟩:=aQ h2;obtain⟨J,hf⟩:=dL h1 trivial;have h3:=bH h3;cases h3;refine dS M hr J hf (sG (Le.obj _ hx (fun _ _ _=>dA.row (Td l xs).symm fun q _=>Ue c l xs D.1 q) rfl) (ih ha h4 D.2 hl))
    | _=>exact(aN h).elim
 | cut n c xs hi k ih=>
  intro lt lf acc g st Q R ha h D hl;rcases hr:run I n g st with _ | ⟨g',G,C,fs⟩
  ·simp only[chk,hr]at h; exact(aN h).elim
  ·cases g' with
   | o all l ks=>
    cases l with
    | nil=>simp only[chk,hr]at h; exact(aN h).elim
    | cons op l=>
     simp only[chk,hr]at h;split at h
     case h_2=>exact(aN h).elim
     rename_i t x lo hx d e1 e2 e3;split at h
     case h_2=>exact(aN h).elim
     rename_i q e4;split at h
     case h_2=>exact(aN h).elim
     rename_i e s n' f st1 j e5 e6 e7;split at h
     case h_2=>exact(aN h).elim
     rename_i s2 e8;obtain⟨h1,h2⟩:=aQ h;obtain⟨h3,h4⟩:=aQ h2;obtain⟨h5,h6⟩:=aQ h4;obtain⟨h7,h8⟩:=aQ h6;obtain⟨J,hf⟩:=dL h1 trivial;have h3:=bH h3;cases h3;obtain⟨i,e',e9,e10,e11⟩:=Kd e7;have hlk:look s2.hp d=some (.arr e s hi.toNat (eF c xs)):=by
      unfold fS at e8;split at e8
      ·cases e8; simp[St.put,look]
      ·cases e8
     have hle:hi.toNat<=xs.length:=by have:=D.1; omega
     refine dS M hr J hf (aHX M rfl e1 e2 e3 e4 e5 (bH h5) (bH h7) e9 e10 e11 D.1 e6 e8 (gH (Le.obj _ hlk (fun _ _ _=>dA.row (by simp; omega) fun q hq=>?_) rfl) (ih ha h8 D.2 hl)));simp only[eF];rw[dV,dV,tC,aA hq]
   | _=>simp only[chk,hr]at h; exact(aN h).elim
 | @clr Y α inst n c xs lo k ih=>
  intro lt lf acc g st Q R ha h D hl;rcases hr:run I n g st with _ | ⟨g',G,C,fs⟩
  ·simp only[chk,hr]at h; exact(aN h).elim
  ·cases g' with
   | o all l ks=>
    cases l with
    | nil=>simp only[chk,hr]at h; exact(aN h).elim
    | cons o1 l=>
     cases l with
     | nil=>simp only[chk,hr]at h; exact(aN h).elim
     | cons o2 l=>
      simp only[chk,hr]at h;split at h
      case h_2=>exact(aN h).elim
      rename_i t x lx d cl e1 e2 e3 e4 e5 e6;split at h
      case h_2=>exact(aN h).elim
      rename_i d' t2 e7 e8 e9;split at h
      case h_2=>exact(aN h).elim
      rename_i q j e10 e11 e12;split at h
      case h_2=>exact(aN h).elim
      rename_i e s n' f e13;obtain⟨h1,h2⟩:=aQ h;obtain⟨h3,h4⟩:=aQ h2;obtain⟨h5,h6⟩:=aQ h4;obtain⟨h7,h8⟩:=aQ h6;obtain⟨h9,h10⟩:=aQ h8;obtain⟨h11,h12⟩:=aQ h10;obtain⟨J,hf⟩:=dL h1 trivial;have h3:=bH h3;cases h3;have h7:=bH h7;injection h7 with h7 h7';subst h7;have h9:=bH h9;injection h9 with h13 h9;injection h9 with h14 h9;injection h9 with h15 h16;obtain⟨i,e',e14,e15,e16⟩:=Kd e11;have himp:zY j.zero (c default):=(gD h11).get;refine dS M hr J hf (aMO M rfl e1 e2 e3 e4 e7 (aOJ e8) e9 h7' e5 e6 e12 e10 e13 (bH h5) e14 e15 e16 h13 (fI h14) (bS h15) h16 himp D.1 ?_);have hle:lo.toNat<=xs.length:=by have:=D.1; omega
      have hlk:look ((({ G with hp:=(q,.arr e s xs.length (On (eF c xs) lo.toNat (c default)))::del q G.hp }:St).put d' .any).hp) q=some (.arr e s xs.length (On (eF c xs) lo.toNat (c default))):=by simp[St.put,look]
      refine gH (Le.trans (Le.obj (.arr e s (xs.take lo.toNat++List.replicate (xs.length-lo.toNat) default).length (eF c (xs.take lo.toNat++List.replicate (xs.length-lo.toNat) default))) hlk (fun _ _ _=>dA.row (by simp; omega) fun q hq=>?_) rfl) ?_) (ih ha h12 D.2 hl)
      ·simp only[On,eF];grind
      ·refine fun a w r=>r.sub (fun e he=>he) (fun e he=>?_);simp only[St.put]at he ⊢;rcases bE.1 he with rfl | he
       ·simp_all
       ·refine cO _ ?_;obtain⟨k,y⟩:=e;obtain⟨h9,h10⟩:=bB.1 he;exact bB.2 ⟨cO _ (bB.2 ⟨h9,h10⟩),h10⟩
   | _=>simp only[chk,hr]at h; exact(aN h).elim
 | apz n c byt m k ih=>
  intro lt lf acc g st Q R ha h D hl;rcases hr:run I n g st with _ | ⟨g',G,C,fs⟩
  ·simp only[chk,hr]at h; exact(aN h).elim
  ·cases g' with
   | o all l ks=>
    cases l with
    | nil=>simp only[chk,hr]at h; exact(aN h).elim
    | cons op l=>
     simp only[chk,hr]at h;split at h
     case h_2=>exact(aN h).elim
     rename_i d e j k' e1;split at h
     case h_2=>exact(aN h).elim
     rename_i s2 e2;obtain⟨h1,h2⟩:=aQ h;obtain⟨h3,h4⟩:=aQ h2;obtain⟨h5,h6⟩:=aQ h4;obtain⟨J,hf⟩:=dL h1 trivial;have h3:=bH h3;injection h3 with h3 h3';subst h3; subst h3';have himp:zY j.zero (c default):=(gD h5).get;have hlk:look s2.hp d=some (.arr e j.size k'.toNat (fun _=>c default)):=by
      unfold fS at e2;split at e2
      ·cases e2; simp[St.put,look]
      ·cases e2
     refine dS M hr J hf (aLE M e1 himp D.1.1 D.1.2 e2 (gH (Le.obj _ hlk (fun _ _ _=>dA.row (by simp) fun q hq=>?_) rfl) (ih ha h6 D.2 hl)));simp only[eF];simp_all
   | _=>simp only[chk,hr]at h; exact(aN h).elim
 | mks n c byt lv cv k ih=>
  intro lt lf acc g st Q R ha h D hl;rcases hr:run I n g st with _ | ⟨g',G,C,fs⟩
  ·simp only[chk,hr]at h; exact(aN h).elim
  ·cases g' with
   | o all l ks=>
    cases l with
    | nil=>simp only[chk,hr]at h; exact(aN h).elim
    | cons op l=>
     simp only[chk,hr]at h;split at h
     case h_2=>exact(aN h).elim
     rename_i d e j lv' cv' e1;split at h
     case h_2=>exact(aN h).elim
     rename_i s2 e2;obtain⟨h1,h2⟩:=aQ h;obtain⟨h3,h4⟩:=aQ h2;obtain⟨h5,h6⟩:=aQ h4;obtain⟨J,hf⟩:=dL h1 trivial;have h3:=bH h3;injection h3 with h3 h3';injection h3' with h3' h3'';subst h3; subst h3'; subst h3'';have himp:zY j.zero (c default):=(gD h5).get;have hlk:look s2.hp d=some (.arr e j.size lv'.toNat (fun _=>c default)):=by
      unfold fS at e2;split at e2
      ·cases e2; simp[St.put,look]
      ·cases e2
     refine dS M hr J hf (aLP M e1 himp D.1.1 D.1.2 e2 (gH (Le.obj _ hlk (fun _ _ _=>dA.row (by simp) fun q hq=>?_) rfl) (ih ha h6 D.2 hl)));simp only[eF];simp_all
   | _=>simp only[chk,hr]at h; exact(aN h).elim
 | abl n e k ih=>
  intro lt lf acc g st Q R ha h D hl;rcases hr:run I n g st with _ | ⟨g',G,C,fs⟩
  ·simp only[chk,hr]at h; exact(aN h).elim
  ·cases g' with
   | o all l ks=>
    cases l with
    | nil=>simp only[chk,hr]at h; exact(aN h).elim
    | cons op l=>
     simp only[chk,hr]at h;split at h
     case h_2=>exact(aN h).elim
     rename_i t d e1 e2 e3;split at h
     case h_2=>exact(aN h).elim
     rename_i st1 i e4 e5 e6 e7;obtain⟨h1,h2⟩:=aQ h;obtain⟨h3,h4⟩:=aQ h2;obtain⟨J,hf⟩:=dL h1 trivial;exact dS M hr J hf (aHJ M e1 e2 e3 e4 e5 e7 (bH h3) e6 (ih ha h4 D hl))
   | _=>simp only[chk,hr]at h; exact(aN h).elim
 | bs n own c xs t ih=>
  intro lt lf acc g st Q R ha h D hl;rcases hr:run I n g st with _ | ⟨g',G,C,fs⟩
  ·simp only[chk,hr]at h; exact(aN h).elim
  ·cases g' with
   | o all l ks=>
    cases l with
    | nil=>simp only[chk,hr]at h; exact(aN h).elim
    | cons op l=>
     simp only[chk,hr]at h;rcases hb:bsI I all op G with _ | ⟨d,e,j,len,cs⟩
     ·rw[hb]at h; exact(aN h).elim
     rw[hb]at h;obtain⟨h1,h2⟩:=aQ h;obtain⟨h3,h4⟩:=aQ h2;obtain⟨h5,h6⟩:=aQ h4;obtain⟨h7,h8⟩:=aQ h6;obtain⟨J,hf⟩:=dL h1 trivial;have h5:=bH h5;have h7:=iN (bH h7);have himp:zY cs (xs.flatMap c):=(gD h3).get;cases own with
     | false=>
      refine dS M hr J hf (aFQ M hb himp ?_);refine gH (aJY (st:=G.put d (.t (.sl len (jM (xs.flatMap c) j.size)))) (t:=d) (y:=.t (eL c xs)) (by simp[St.put,look]) (Bw (x:=eL c xs) (n':=xs.length) (f':=eF c xs) rfl h5.symm h7)) ?_;refine gH (fun a w r=>?_) (ih ha h8 D hl);refine r.sub (fun e he=>?_) (fun e he=>he);simp only[St.put]at he ⊢;rcases bE.1 he with rfl | he
      ·simp_all
      ·refine cO _ ?_;obtain⟨k,y⟩:=e;obtain⟨h9,h10⟩:=bB.1 he;exact bB.2 ⟨cO _ (bB.2 ⟨h9,h10⟩),h10⟩
     | true=>
      simp only at h8;split at h8
      ·rename_i s2 hs2;refine dS M hr J hf (aGX M hb himp hs2 ?_);have hlk:look s2.hp d=some (.arr e j.size len (jM (xs.flatMap c) j.size)):=by
        unfold fS at hs2;split at hs2
        ·cases hs2; simp[St.put,look]
        ·cases hs2
       exact gH (Le.obj _ hlk (fun _ _ _=>dA.row h5 h7) rfl) (ih ha h8 D hl)
      ·exact(aN h8).elim
   | _=>simp only[chk,hr]at h; exact(aN h).elim
 | ndb n m a e iha ihe=>
  intro lt lf acc g st Q R ha h D hl;rcases hr:run I n g st with _ | ⟨g',G,C,fs⟩
  ·simp only[chk,hr]at h; exact(aN h).elim
  ·cases g' with
   | o all l ks=>
    cases l with
    | nil=>simp only[chk,hr]at h; exact(aN h).elim
    | cons op l=>
     simp only[chk,hr]at h;rcases hb:aIZ I all op G with _ | ⟨d,ng,m'⟩
     ·rw[hb]at h; exact(aN h).elim
     rw[hb]at h;obtain⟨h1,h2⟩:=aQ h;obtain⟨h2a,h2b⟩:=aQ h2;obtain⟨h3,h4⟩:=aQ h2b;have hmm:=bH h2a;subst hmm;obtain⟨J,hf⟩:=dL h1 trivial;exact dS M hr J hf (aCJ M hb (fun hm=>iha ha h3 (D.1 hm) hl) (ihe ha h4 D.2 hl))
   | _=>simp only[chk,hr]at h; exact(aN h).elim
 | @dc Y R' j as k bps x ret hcon B ih=>intro lt lf acc g st Q R ha h D hl;simp only[chk]at h;obtain⟨h1,h2⟩:=aQ h;obtain⟨hk,h2⟩:=aQ h2;obtain⟨r,hx,hB⟩:=D;obtain⟨h3,h4⟩:=aQ (oS h2 r);exact ih r (acc:=⟨(j,k,as,ret r,[],none)::acc.calls,acc.lits,acc.conds⟩) ⟨.cons (.inr <| .call (bH hk) (Br (bH h3)) ⟨hcon.c,.inl ⟨rfl,rfl,bps,uX h1,hcon.h r hx⟩,bH h3⟩) ha.c,ha.l,ha.p⟩ h4 hB hl
 | @dch Y R' j as k bps Hs N x ret Ht hcon ch B ih=>intro lt lf acc g st Q R ha h D hl;simp only[chk]at h;obtain⟨h1,h2⟩:=aQ h;obtain⟨hk,h2⟩:=aQ h2;obtain⟨r,hx,hB⟩:=D;obtain⟨h3,h4⟩:=aQ (oS h2 r);obtain⟨h5,h6⟩:=aQ h4;obtain⟨h7,h8⟩:=aQ h6;obtain⟨h9,h10⟩:=aQ h8;have hp:=hcon.h r hx;rw[bH h5]at hp;exact ih r (acc:=⟨(j,k,as,ret r,Hs,ch r)::acc.calls,acc.lits,acc.conds⟩) ⟨.cons (.inr <| .call (bH hk) (Br (bH h3)) ⟨hcon.c,.inr ⟨bps,N,uX h1,hp,bH h7,bDQ (bH h9)⟩,bH h3⟩) ha.c,ha.l,ha.p⟩ h10 hB hl
 | @dcn Y R' j d as k bps Hs N x ret Ht hcon B ih=>
  intro lt lf acc g st Q R ha h D hl;simp only[chk]at h;obtain⟨h1,h2⟩:=aQ h;obtain⟨hk,h2⟩:=aQ h2;obtain⟨hHs,h2⟩:=aQ h2;obtain⟨hN,h2⟩:=aQ h2;obtain⟨r,hx,hB⟩:=D;have h3:=oS h2 r;have hHs:=bH hHs;have hN:=bH hN;subst hHs hN;split at h3
  ·rename_i o e s n f o' e1 e2;obtain⟨h4,h5⟩:=aQ h3;have h4:=bH h4;subst h4;have hp:=hcon.h r hx;rw[e1,e2]at hp;exact ih r (acc:=⟨(j,k,as,.own d,[],some (d,.arr e s n f))::acc.calls,acc.lits,acc.conds⟩) ⟨.cons (.inr <| .new (bH hk) rfl rfl rfl hcon.c (uX h1) (hp.renNew d)) ha.c,ha.l,ha.p⟩ h5 hB hl
  ·exact(aN h3).elim
 | @dap Y j n f x himp t ih=>intro lt lf acc g st Q R ha h D hl;simp only[chk]at h;exact ih (acc:=⟨(j,fzN,[.t (.sl n f)],.t x,[],none)::acc.calls,acc.lits,acc.conds⟩) ⟨.cons (.inl ⟨rfl,n,f,x,rfl,rfl,himp⟩) ha.c,ha.l,ha.p⟩ h D hl
 | @dlk Y K mk j ty ob v k t1 ih=>
  intro lt lf acc g st Q R ha h D hl;simp only[chk]at h;obtain⟨h1,h2⟩:=aQ h;obtain⟨c,hc,hB⟩:=D;obtain⟨k',hk'⟩:=aGW hc;have hz:=bH h1;cases hm:pH I.ti ty (MKey.kT k) with
  | none=>simp_all
  | some et=>
   rw[hm]at hz;refine ih c (acc:=⟨(j,lkN+ty,[.map ob,.t (MKey.kT k)],.fn (.func c) 0 [],[(ob,.mp none (eM (fun c=>.d (.fv c)) v) none)],none)::acc.calls,acc.lits,acc.conds⟩) ⟨.cons (.inr <| .look (by cases hb:Nat.blt (lkN+ty) lkN with | false=>rfl | true=>rw[Nat.blt_eq]at hb; omega) ?_) ha.c,ha.l,ha.p⟩ (Ys h2 _ hk') hB hl
   rw[Nat.add_sub_cancel_left];exact aIR M.ti v k hm (uR hz) hc
 | dl j c t e iht ihe=>
  intro lt lf acc g st Q R ha h D hl;simp only[chk]at h;obtain⟨h1,h2⟩:=aQ h;cases hc:c with
  | true=>exact iht (acc:=⟨acc.calls,(j,c,true)::acc.lits,acc.conds⟩) ⟨ha.c,.cons hc ha.l,ha.p⟩ h1 (by simp only[Tr.wpT,hc,gT]at D; exact D) hl
  | false=>exact ihe (acc:=⟨acc.calls,(j,c,false)::acc.lits,acc.conds⟩) ⟨ha.c,.cons hc ha.l,ha.p⟩ h2 (by simp only[Tr.wpT,hc]at D; exact D) hl
 | dg j p t ih=>intro lt lf acc g st Q R ha h D hl;simp only[chk]at h;exact ih (acc:=⟨acc.calls,acc.lits,(j,[p])::acc.conds⟩) ⟨ha.c,ha.l,.cons D.1 ha.p⟩ h D.2 hl
 | dr n e ol ts t ih=>
  intro lt lf acc g st Q R ha h D hl;rcases hr:run I n g st with _ | ⟨g',G,C,fs⟩
  ·simp only[chk,hr]at h; exact(aN h).elim
  ·cases g' with
   | c x ks=>
    cases x with
    | region id ops dw=>
     cases dw with
     | true=>
      simp only[chk,hr]at h;obtain⟨h1,h2⟩:=aQ h;obtain⟨h3,h4⟩:=aQ h2;obtain⟨J,hf⟩:=dL h1 trivial;obtain⟨h5,h6⟩:=aQ h3;obtain⟨h7,h8⟩:=aQ h6;cases hk:(drS I ops.toList (ops.toList.take (ops.toList.length-e)) acc G ts ol).keep (dZ (drS I ops.toList (ops.toList.take (ops.toList.length-e)) acc G ts ol).fr) (dZ (drS I ops.toList (ops.toList.take (ops.toList.length-e)) acc G ts ol).hp) with
      | none=>rw[hk]at h4; exact(aN h4).elim
      | some s=>
       rw[hk]at h4;have hq:=ih ⟨.nil,.nil,.nil⟩ h4 D hl;refine dS M hr J hf ?_;have hops:ops=ops.toList.toArray:=by simp
       show pwp P E (.region id ops true) _ _;rw[hops];exact aQG M (bH h7) (L:=ops.toList) (l:=ops.toList.take (ops.toList.length-e)) (tl:=ops.toList.drop (ops.toList.length-e)) (gV _ _).symm acc.calls acc.lits acc.conds ol ts ha.c ha.l ha.p _ _ (bH h5) (bH h8) hk hq
     | false=>simp only[chk,hr]at h; exact(aN h).elim
    | _=>simp only[chk,hr]at h; exact(aN h).elim
   | _=>simp only[chk,hr]at h; exact(aN h).elim
 | @mk Y K V mk n enc t ih=>
  intro lt lf acc g st Q R ha h D hl;rcases hr:run I n g st with _ | ⟨g',G,C,fs⟩
  ·simp only[chk,hr]at h; exact(aN h).elim
  ·cases g' with
   | o all l ks=>
    cases l with
    | nil=>simp only[chk,hr]at h; exact(aN h).elim
    | cons op l=>
     simp only[chk,hr]at h;split at h
     case h_2=>exact(aN h).elim
     rename_i ty d e1 e2 e3;split at h
     case h_2=>exact(aN h).elim
     rename_i st1 e4 e5 e6;obtain⟨h1,h2⟩:=aQ h;obtain⟨J,hf⟩:=dL h1 trivial;exact dS M hr J hf (Xf M (K:=K) enc rfl e1 e2 e3 e4 e5 e6 (ih ha h2 D hl))
   | _=>simp only[chk,hr]at h; exact(aN h).elim
 | @lkr Y K V mk n e s nn ff dflt v k t ih=>
  intro lt lf acc g st Q R ha h D hl;rcases hr:run I n g st with _ | ⟨g',G,C,fs⟩
  ·simp only[chk,hr]at h; exact(aN h).elim
  ·cases g' with
   | o all l ks=>
    cases l with
    | nil=>simp only[chk,hr]at h; exact(aN h).elim
    | cons op l=>
     simp only[chk,hr]at h;rcases hlk:Cj I all op G with _ | ⟨d,ty,ob,kp⟩
     ·rw[hlk]at h; exact(aN h).elim
     rw[hlk]at h;obtain⟨x,kx,e1,e2,e3,e4,e5,e6⟩:=Ik hlk;simp only at h;split at h
     case h_2=>exact(aN h).elim
     rename_i it m ho et e7 e8;obtain⟨h1,h2⟩:=aQ h;obtain⟨h3,h4⟩:=aQ h2;obtain⟨h5,h6⟩:=aQ h4;obtain⟨h7,h8⟩:=aQ h6;obtain⟨h9,h10⟩:=aQ h8;obtain⟨h11,h12⟩:=aQ h10;obtain⟨J,hf⟩:=dL h1 trivial;have h3:=bH h3;subst h3;have h5:=bH h5;cases h5;split at h12
     ·rename_i s2 hs;exact dS M hr J hf (Nu M v k dflt rfl e1 e2 e3 e4 e5 e6 e7 e8 (uR (bH h7)) (bH h9) (bH h11) hs (ih ha h12 D hl))
     ·exact(aN h12).elim
   | _=>simp only[chk,hr]at h; exact(aN h).elim
 | @lkt Y B K mk n e s nn ff v k t ih=>
  intro lt lf acc g st Q R ha h D hl;rcases hr:run I n g st with _ | ⟨g',G,C,fs⟩
  ·simp only[chk,hr]at h; exact(aN h).elim
  ·cases g' with
   | o all l ks=>
    cases l with
    | nil=>simp only[chk,hr]at h; exact(aN h).elim
    | cons op l=>
     simp only[chk,hr]at h;rcases hlk:Cj I all op G with _ | ⟨d,ty,ob,kp⟩
     ·rw[hlk]at h; exact(aN h).elim
     rw[hlk]at h;obtain⟨x,kx,e1,e2,e3,e4,e5,e6⟩:=Ik hlk;simp only at h;split at h
     case h_2=>exact(aN h).elim
     rename_i it m ho et e7 e8;obtain⟨h1,h2⟩:=aQ h;obtain⟨h3,h4⟩:=aQ h2;obtain⟨h5,h6⟩:=aQ h4;obtain⟨h7,h8⟩:=aQ h6;obtain⟨h9,h12⟩:=aQ h8;obtain⟨J,hf⟩:=dL h1 trivial;have h3:=bH h3;subst h3;have h5:=bH h5;cases h5;simp only[Tr.wpT]at D;rcases hm:bG v k with _ | _ | c
     ·simp_all
     ·simp_all
     ·rw[hm]at D;have h13:=oS h12 c;split at h13
      ·rename_i s2 hs;exact dS M hr J hf (aEL M (enc:=Gt e s nn ff) v (some c) none rfl e1 e2 e3 e4 e5 e6 e7 e8 (uR (bH h7)) (bH h9) hm rfl rfl hs (ih c ha h13 D hl))
      ·exact(aN h13).elim
   | _=>simp only[chk,hr]at h; exact(aN h).elim
 | @lkd Y K V mk n zv eD v k t0 t1 ih0 ih1=>
  intro lt lf acc g st Q R ha h D hl;rcases hr:run I n g st with _ | ⟨g',G,C,fs⟩
  ·simp only[chk,hr]at h; exact(aN h).elim
  ·cases g' with
   | o all l ks=>
    cases l with
    | nil=>simp only[chk,hr]at h; exact(aN h).elim
    | cons op l=>
     simp only[chk,hr]at h;rcases hlk:Cj I all op G with _ | ⟨d,ty,ob,kp⟩
     ·rw[hlk]at h; exact(aN h).elim
     rw[hlk]at h;obtain⟨x,kx,e1,e2,e3,e4,e5,e6⟩:=Ik hlk;simp only at h;split at h
     case h_2=>exact(aN h).elim
     rename_i it m ho et zp e7 e8 e9;obtain⟨h1,h2⟩:=aQ h;obtain⟨h3,h4⟩:=aQ h2;obtain⟨h5,h6⟩:=aQ h4;obtain⟨h7,h8⟩:=aQ h6;obtain⟨h9,h10⟩:=aQ h8;obtain⟨J,hf⟩:=dL h1 trivial;have h3:=bH h3;subst h3;have h5:=bH h5;cases h5;refine dS M hr J hf (Wd M v k rfl e1 e2 e3 e4 e5 e6 e7 e8 (uR (bH h7)) e9 (fun hn=>?_) fun c hc=>?_)
     ·exact ih0 ha h9 (by simp only[Tr.wpT,hn]at D; exact D) hl
     ·exact ih1 c ha (oS h10 c) (by simp only[Tr.wpT,hc]at D; exact D) hl
   | _=>simp only[chk,hr]at h; exact(aN h).elim
 | @upd Y K V mk n enc v k t ih=>
  intro lt lf acc g st Q R ha h D hl;rcases hr:run I n g st with _ | ⟨g',G,C,fs⟩
  ·simp only[chk,hr]at h; exact(aN h).elim
  ·cases g' with
   | o all l ks=>
    cases l with
    | nil=>simp only[chk,hr]at h; exact(aN h).elim
    | cons op l=>
     simp only[chk,hr]at h;split at h
     case h_2=>exact(aN h).elim
     rename_i ty x kx vx e1 e2 e3;split at h
     case h_2=>exact(aN h).elim
     rename_i ob kp p e4 e5 e6;split at h
     case h_2=>exact(aN h).elim
     rename_i it m ho et e7 e8;obtain⟨h1,h2⟩:=aQ h;obtain⟨h3,h4⟩:=aQ h2;obtain⟨h5,h6⟩:=aQ h4;obtain⟨h9,h6⟩:=aQ h6;obtain⟨J,hf⟩:=dL h1 trivial;have h3:=bH h3;subst h3;have h5:=bH h5;cases h5;have hcur:aJR it (MKey.kT k):=by intro i hi;subst hi;exact bH h9
     exact dS M hr J hf (aKG M v k p rfl (aFV e1) e2 e3 e4 e5 e6 e7 e8 hcur (ih ha h6 D hl))
   | _=>simp only[chk,hr]at h; exact(aN h).elim
end
def oP(fn:Func):Code:=match fn.body with | some c=>c | none=>.skip
def Pw{Y:Type}(b:Bool)(I:Inf)(rs:List ResultVar)(ret:Y->PV)(Ht:Y->Hp)(y:Y)(e:Exit)(s:St):VT:=
 match e with
 | .normal=>.and (vt b (aGK I rs s) (some (ret y))) (vt b (mS s.hp (dZ (Ht y))) (some (Ht y)))
 | .ret=>.and (vt b (aGK I rs s) (some (ret y))) (vt b (mS s.hp (dZ (Ht y))) (some (Ht y)))
 | _=>bad b
section
variable {P:Program} {ti:Nat->Option dO} {k:FuncId} {fn:Func} {args:List PV} {Y:Type}
theorem Fv{ret:Y->PV}{Ht:Y->Hp}(hf:P.funcs[k]? = some fn)(M:mP P ti)(t:Tr P Y)(h1:(fn.body.isSome,Nat.ble args.length fn.ntmps)=(true,true))
  (h2:chk P ⟨ti,N,fn.ntmps⟩ true t (Pw true ⟨ti,N,fn.ntmps⟩ fn.results.toList ret Ht) Db (.c (oP fn) []) ⟨kH args 0,H⟩=chk P ⟨ti,N,fn.ntmps⟩ false t (Pw false ⟨ti,N,fn.ntmps⟩ fn.results.toList ret Ht) Db (.c (oP fn) []) ⟨kH args 0,H⟩)
  {y:Y}(hy:t.wpT (·=y)):gX P k args H N (vF (ret y) (Ht y)):=by
 injection h1 with h3 h4;obtain⟨c,hc⟩:=Cc.1 h3;have hb:oP fn=c:=by unfold oP; rw[hc]
 rw[hb]at h2;refine aJB (I:=⟨ti,N,fn.ntmps⟩) hf hc M rfl (fI h4) fun E Z=>?_;refine Pt (t.sound Z ⟨.nil,.nil,.nil⟩ h2 hy (Q:=bFJ ⟨ti,N,fn.ntmps⟩ fn.results.toList (vF (ret y) (Ht y))) fun y' e s J he=>?_) fun e s he=>⟨s,.refl,he⟩;subst J;refine⟨s,.refl,?_⟩;unfold Pw at he;cases e with
 | normal=>obtain⟨G,D⟩:=aQ he; exact⟨.inl rfl,_,_,_,bH G,bH D,rfl,rfl⟩
 | ret=>obtain⟨G,D⟩:=aQ he; exact⟨.inr rfl,_,_,_,bH G,bH D,rfl,rfl⟩
 | _=>exact(aN he).elim
theorem gX.noH{H N:_}{ret:PV}{Ht:Hp}(h:gX P k args H N (vF ret Ht)):gX P k args H N (Ret ret):=h.mono fun _ _ hr=>hr.1
theorem lR{ret:Y->PV}{Ht:Y->Hp}(hf:P.funcs[k]? = some fn)(hI:mP P ti)(t:Tr P Y)
  (h1:(fn.body.isSome,Nat.ble args.length fn.ntmps)=(true,true):=by kernel_rfl)(h3:(fn.body.isNone,fn.name == "runtime.NumGoroutine")=(false,false):=by kernel_rfl)
  (h2:chk P ⟨ti,N,fn.ntmps⟩ true t (Pw true ⟨ti,N,fn.ntmps⟩ fn.results.toList ret Ht) Db (.c (oP fn) []) ⟨kH args 0,H⟩=chk P ⟨ti,N,fn.ntmps⟩ false t (Pw false ⟨ti,N,fn.ntmps⟩ fn.results.toList ret Ht) Db (.c (oP fn) []) ⟨kH args 0,H⟩:=by kernel_rfl):
  eT P k args H N t.den ret Ht:=⟨bM hf h3,fun _ hy=>Fv hf hI t h1 h2 (t.of_den hy rfl)⟩
theorem aVT{ret:Y->PV}{Ht:Y->Hp}(hf:P.funcs[k]? = some fn)(hI:mP P ti)(t:Tr P Y)
  (h1:(fn.body.isSome,Nat.ble args.length fn.ntmps)=(true,true):=by kernel_rfl)(h3:(fn.body.isNone,fn.name == "runtime.NumGoroutine")=(false,false):=by kernel_rfl)
  (h2:chk P ⟨ti,N,fn.ntmps⟩ true t (Pw true ⟨ti,N,fn.ntmps⟩ fn.results.toList ret Ht) Db (.c (oP fn) []) ⟨kH args 0,H⟩=chk P ⟨ti,N,fn.ntmps⟩ false t (Pw false ⟨ti,N,fn.ntmps⟩ fn.results.toList ret Ht) Db (.c (oP fn) []) ⟨kH args 0,H⟩:=by kernel_rfl):
  eT P k args H N (Det t) ret Ht:=⟨bM hf h3,fun _ hy=>Fv hf hI t h1 h2 (Det.ok hy)⟩
theorem con{ret:Y->PV}(hf:P.funcs[k]? = some fn)(hI:mP P ti)(t:Tr P Y)
  (h1:(fn.body.isSome,Nat.ble args.length fn.ntmps)=(true,true):=by kernel_rfl)(h3:(fn.body.isNone,fn.name == "runtime.NumGoroutine")=(false,false):=by kernel_rfl)
  (h2:chk P ⟨ti,[],fn.ntmps⟩ true t (Pw true ⟨ti,[],fn.ntmps⟩ fn.results.toList ret (fun _=>[])) Db (.c (oP fn) []) ⟨kH args 0,[]⟩=chk P ⟨ti,[],fn.ntmps⟩ false t (Pw false ⟨ti,[],fn.ntmps⟩ fn.results.toList ret (fun _=>[])) Db (.c (oP fn) []) ⟨kH args 0,[]⟩:=by kernel_rfl):
  Con P k args t.den ret:=⟨bM hf h3,fun _ hy=>(Fv hf hI t h1 h2 (t.of_den hy rfl)).noH⟩
theorem bFY{α R:Type}[Inhabited α](D:List PV)(c:α->List T)(xs:List α)(lo hi:Int)(M:List PV){x:Option R}{ret:R->PV}(h:Con P k (D ++ .t (eL c ((xs.drop lo.toNat).take (hi-lo).toNat))::M) x ret):
  Con P k (D ++ .t (.sl (hi-lo).toNat (fun q=>eF c xs (lo.toNat+q)))::M) (if 0<=lo/\lo<=hi/\hi<=(xs.length:Int) then x else none) ret:=by
 refine⟨h.c,fun y hy=>?_⟩;split at hy
 case isFalse=>cases hy
 rename_i hc;intro F g w vs hs hv;refine h.h y hy F g w vs (by simp_all) fun j p v Q G=>?_;by_cases J:j=D.length
 ·subst J;have Q:PV.t (eL c ((xs.drop lo.toNat).take (hi-lo).toNat))=p:=by simp_all
  subst Q;exact Ry hc rfl F g w v (hv D.length _ v (by simp) G)
 grind
theorem Mq{α:Type}[Inhabited α](c:α->List T)(xs ys:List α)(m:Nat)(D:Nat->List T)(hm:m=ys.length)(hf:(List.range m).map D=(List.range m).map (eF c ys)):
  ∀ F g w v,VR F g w (.t (.sl (xs.length+m) (pJ xs.length (eF c xs) D))) v->VR F g w (.t (eL c (xs++ys))) v:=by
 subst hm;refine Bw (x:=eL c (xs++ys)) rfl dR (fun i hi=>?_);unfold pJ;split
 ·rename_i h; simp only[eF,dV,pO h]
 ·rename_i h;rw[iN hf _ (by omega)];simp only[eF,dV,nD (Nat.le_of_not_lt h)]
variable {A R:Type}
noncomputable def aMR {C:A->Option R->Prop}(c0:∀ a,C a none)(B:{f:A->Option R // ∀ a,C a (f a)}->A->Tr P R)(ok:∀ f a,C a (B f a).den):Nat->{f:A->Option R // ∀ a,C a (f a)}
 | 0=>⟨fun _=>none,c0⟩
 | n+1=>⟨fun a=>(B (aMR c0 B ok n) a).den,ok _⟩
noncomputable def rT {C:A->Option R->Prop}(c0:∀ a,C a none)(B:{f:A->Option R // ∀ a,C a (f a)}->A->Tr P R)(ok:∀ f a,C a (B f a).den)(a:A):Option R:=Lim fun n=>(aMR c0 B ok n).1 a
theorem lZ{C:A->Option R->Prop}(D:∀ a,C a none)(B:{f:A->Option R // ∀ a,C a (f a)}->A->Tr P R)(ok:∀ f a,C a (B f a).den)(a:A):C a (rT D B ok a):=by
 unfold rT Lim;split
 all_goals grind
end
end Go.PL
