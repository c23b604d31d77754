/-
  Parts: Functions as trees: A TREE THAT IS CHECKED TELLS WHAT THE CODE DOES. Own work. Functions as trees: functions of the program, from their trees. Own work.
-/
import Derived.Test.YthifkbcpnbcenaaGreatDoorMc
import Derived.KernelRfl
namespace Go.PL
open Go
section
variable {P:Program} {E:Env} {I:Inf}
theorem set_le{st:St}{t:Nat}{x y:PV}(h:look st.fr t=some x)(hx:∀ F g w v,VR F g w x v→VR F g w y v):Le E st { st with fr:=(t,y)::del t st.fr }:=fun _ _ r=>r.slot h hx
theorem sets_len{α:Type}:∀ (l:List (Nat×α)) (xs:List α),(l.foldl (fun xs p=>xs.set p.1 p.2) xs).length=xs.length
 | [],xs=>rfl
 | p::l,xs=>by simp only[List.foldl_cons]; rw[sets_len l]; simp
theorem foldF_congr{α:Type}(c:α→List T):∀ (l:List (Nat×α)) {f g:Nat→List T},(∀ q,f q=g q)→∀ q,l.foldl (fun f p=>updF f p.1 (c p.2)) f q=l.foldl (fun f p=>updF f p.1 (c p.2)) g q
 | [],_,_,h,q=>h q
 | p::l,f,g,h,q=>by
  simp only[List.foldl_cons]
  exact foldF_congr c l (fun q=>by simp only[updF]; rw[h q]) q
theorem sets_row{α:Type}[Inhabited α](c:α→List T):∀ (l:List (Nat×α)) (xs:List α),(l.all fun p=>decide (p.1<xs.length))=true→∀ q,l.foldl (fun f p=>updF f p.1 (c p.2)) (eF c xs) q=eF c (l.foldl (fun xs p=>xs.set p.1 p.2) xs) q
 | [],xs,_,q=>rfl
 | p::l,xs,h,q=>by
  simp only[List.all_cons,Bool.and_eq_true,decide_eq_true_eq]at h
  simp only[List.foldl_cons]
  rw[←sets_row c l (xs.set p.1 p.2) (by simpa using h.2) q]
  refine foldF_congr c l (fun q=>?_) q
  simp only[updF,eF]
  split
  ·rename_i e; subst e; simp[h.1]
  ·rename_i e; rw[List.getD_eq_getElem?_getD,List.getD_eq_getElem?_getD,List.getElem?_set,if_neg (fun e'=>e e'.symm)]
theorem sliceI_ok{t:Nat}{j:TInf}(h:sliceI I t=some j):∃ i e,I.ti t=some i∧i.und = .sl e∧I.ti e=some j:=by
 unfold sliceI at h
 split at h
 ·rename_i i hi
  split at h
  ·rename_i e he; exact⟨i,e,hi,he,h⟩
  ·cases h
 ·cases h
set_option maxHeartbeats 4000000 in
theorem Tr.sound(hG:Good P E I){Y:Type}(t:Tr P Y):∀ {lt lf:Y→Exit→St→VT} {acc:Acc} {g:Cfg} {st:St} {Q:Post} {R:Y→Prop},AccOk P acc→chk P I true t lt acc g st=chk P I false t lf acc g st→t.wpT R →
  (∀ y e s,R y→lt y e s=lf y e s→∃ u,Le E s u∧Q e u)→cwp P E g Q st:=by
 induction t with
 | ret n y=>
  intro lt lf acc g st Q R ha h hw hl
  rcases hr:run I n g st with _ | ⟨g',st',C,fs⟩
  ·simp only[chk,hr]at h; exact(bad_ok h).elim
  ·cases g' with
   | x e ks=>
    cases ks with
    | nil=>
     simp only[chk,hr]at h
     obtain⟨h1,h2⟩:=and_ok h
     obtain⟨hC,hf⟩:=asks_ok h1 trivial
     exact run_ok hG hr hC hf (hl y e st' hw h2)
    | cons=>simp only[chk,hr]at h; exact(bad_ok h).elim
   | _=>simp only[chk,hr]at h; exact(bad_ok h).elim
 | ite n c t e iht ihe=>
  intro lt lf acc g st Q R ha h hw hl
  have hw1:c=true→t.wpT R:=fun hc=>by simp only[Tr.wpT,hc,if_true]at hw; exact hw
  have hw0:c=false→e.wpT R:=fun hc=>by simp only[Tr.wpT,hc]at hw; exact hw
  rcases hr:run I n g st with _ | ⟨g',st',C,fs⟩
  ·simp only[chk,hr]at h; exact(bad_ok h).elim
  ·cases g' with
   | c x ks=>
    cases x with
    | cond o u v=>
     simp only[chk,hr]at h
     obtain⟨h1,h2⟩:=and_ok h
     obtain⟨h3,h4⟩:=and_ok h2
     obtain⟨h5,h6⟩:=and_ok h4
     obtain⟨hC,hf⟩:=asks_ok h1 trivial
     exact run_ok hG hr hC hf (pwp_cond (vt_ok h3) (fun hc=>iht ha h5 (hw1 hc) hl) (fun hc=>ihe ha h6 (hw0 hc) hl))
    | _=>simp only[chk,hr]at h; exact(bad_ok h).elim
   | o all l ks=>
    cases l with
    | nil=>simp only[chk,hr]at h; exact(bad_ok h).elim
    | cons op l=>
     simp only[chk,hr]at h
     cases hg:guardT all op with
     | none=>rw[hg]at h; exact(bad_ok h).elim
     | some d=>
      rw[hg]at h
      obtain⟨h1,h2⟩:=and_ok h
      obtain⟨h3,h4⟩:=and_ok h2
      obtain⟨h5,h6⟩:=and_ok h4
      obtain⟨hC,hf⟩:=asks_ok h1 trivial
      exact run_ok hG hr hC hf (pops_bool (vt_ok h3) (fun hc=>iht ha h5 (hw1 hc) hl) (fun hc=>ihe ha h6 (hw0 hc) hl))
   | x=>simp only[chk,hr]at h; exact(bad_ok h).elim
 | grd n p t ih=>
  intro lt lf acc g st Q R ha h hw hl
  rcases hr:run I n g st with _ | ⟨g',st',C,fs⟩
  ·simp only[chk,hr]at h; exact(bad_ok h).elim
  ·simp only[chk,hr]at h
   obtain⟨h1,h2⟩:=and_ok h
   obtain⟨hC,hf⟩:=asks_ok h1 hw.1
   exact run_ok hG hr hC hf (ih ha h2 hw.2 hl)
 | gd n p hp t ih=>
  intro lt lf acc g st Q R ha h hw hl
  rcases hr:run I n g st with _ | ⟨g',st',C,fs⟩
  ·simp only[chk,hr]at h; exact(bad_ok h).elim
  ·simp only[chk,hr]at h
   obtain⟨h1,h2⟩:=and_ok h
   obtain⟨hC,hf⟩:=asks_ok h1 hp
   exact run_ok hG hr hC hf (ih ha h2 hw hl)
 | cv n l t ih=>
  intro lt lf acc g st Q R ha h hw hl
  rcases hr:run I n g st with _ | ⟨g',st',C,fs⟩
  ·simp only[chk,hr]at h; exact(bad_ok h).elim
  ·simp only[chk,hr]at h
   obtain⟨h1,h2⟩:=and_ok h
   obtain⟨h3,h4⟩:=and_ok h2
   obtain⟨hC,hf⟩:=asks_ok h1 trivial
   cases hc:cvL I l st' with
   | none=>rw[hc]at h4; exact(bad_ok h4).elim
   | some st''=>
    rw[hc]at h4
    exact run_ok hG hr hC hf (cwp_weak (cvL_ok hG h3 hc) (ih ha h4 hw hl))
 | no=>intro lt lf acc g st Q R ha h hw hl; exact hw.elim
 | @ca Y R' n k bps x ret hcon B ih=>
  intro lt lf acc g st Q R ha h hw hl
  rcases hr:run I n g st with _ | ⟨g',st',C,fs⟩
  ·simp only[chk,hr]at h; exact(bad_ok h).elim
  ·cases g' with
   | o all l ks=>
    cases l with
    | nil=>simp only[chk,hr]at h; exact(bad_ok h).elim
    | cons op l=>
     simp only[chk,hr]at h
     rcases hc:callI I all op st' with _ | ⟨d,k',as⟩
     ·rw[hc]at h; exact(bad_ok h).elim
     ·rw[hc]at h
      obtain⟨h1,h2⟩:=and_ok h
      obtain⟨h3,h4⟩:=and_ok h2
      obtain⟨h5,h6⟩:=and_ok h4
      obtain⟨hC,hf⟩:=asks_ok h1 trivial
      have h3:=vt_ok h3
      subst h3
      obtain⟨c,f,nf,caps,aps,e1,e2,e3,e4,e5,e6,e7,rfl⟩:=callI_ok hc
      obtain⟨r,hx,hB⟩:=hw
      obtain⟨h7,h8⟩:=and_ok (all_ok h6 r)
      have h7:=vt_ok h7
      have h5:=argsV_ok h5
      obtain⟨L,hL⟩:∃ L,L=lentL (List.take nf caps++aps++List.drop nf caps) bps:=⟨_,rfl⟩
      rw[←hL]at h5 h7
      refine run_ok hG hr hC hf (pops_call hG L rfl e1 e2 e3 e4 e5 e6 e7 hcon.c h5 (hcon.h r hx) fun r' H' hr'=>?_)
      unfold Ret at hr'; subst hr'
      exact⟨by cases L <;> exact h7,ih r ha h8 hB hl⟩
   | _=>simp only[chk,hr]at h; exact(bad_ok h).elim
 | @cas Y n k bps x ret hcon m B ih=>
  intro lt lf acc g st Q R ha h hw hl
  rcases hr:run I n g st with _ | ⟨g',st',C,fs⟩
  ·simp only[chk,hr]at h; exact(bad_ok h).elim
  ·cases g' with
   | o all l ks=>
    cases l with
    | nil=>simp only[chk,hr]at h; exact(bad_ok h).elim
    | cons op l=>
     simp only[chk,hr]at h
     rcases hc:callI I all op st' with _ | ⟨d,k',as⟩
     ·rw[hc]at h; exact(bad_ok h).elim
     ·rw[hc]at h
      obtain⟨h1,h2⟩:=and_ok h
      obtain⟨h3,h4⟩:=and_ok h2
      obtain⟨h5,h6⟩:=and_ok h4
      obtain⟨hC,hf⟩:=asks_ok h1 trivial
      have h3:=vt_ok h3
      subst h3
      obtain⟨c,f,nf,caps,aps,e1,e2,e3,e4,e5,e6,e7,rfl⟩:=callI_ok hc
      obtain⟨r,hx,hm,hB⟩:=hw
      have key:∀ m,r<m→Nat.rec (motive:=fun _=>VT) .ok (fun r acc'=>VT.and (.and (vt true (lentOk (lentL (List.take nf caps++aps++List.drop nf caps) bps) (ret r)) true) (chk P I true (B r) lt acc (.o all l ks) (st'.put d (ret r)))) acc') m =
        Nat.rec (motive:=fun _=>VT) .ok (fun r acc'=>VT.and (.and (vt false (lentOk (lentL (List.take nf caps++aps++List.drop nf caps) bps) (ret r)) true) (chk P I false (B r) lf acc (.o all l ks) (st'.put d (ret r)))) acc') m →
        lentOk (lentL (List.take nf caps++aps++List.drop nf caps) bps) (ret r)=true∧chk P I true (B r) lt acc (.o all l ks) (st'.put d (ret r))=chk P I false (B r) lf acc (.o all l ks) (st'.put d (ret r)):=by
       intro m
       induction m with
       | zero=>intro hm; omega
       | succ m ihm=>
        intro hm he
        obtain⟨a1,a2⟩:=and_ok he
        by_cases hrm:r=m
        ·subst hrm
         obtain⟨a3,a4⟩:=and_ok a1
         exact⟨vt_ok a3,a4⟩
        ·exact ihm (by omega) a2
      obtain⟨h7,h8⟩:=key m hm h6
      have h5:=argsV_ok h5
      obtain⟨L,hL⟩:∃ L,L=lentL (List.take nf caps++aps++List.drop nf caps) bps:=⟨_,rfl⟩
      rw[←hL]at h5 h7
      refine run_ok hG hr hC hf (pops_call hG L rfl e1 e2 e3 e4 e5 e6 e7 hcon.c h5 (hcon.h r hx) fun r' H' hr'=>?_)
      unfold Ret at hr'; subst hr'
      exact⟨by cases L <;> exact h7,ih r ha h8 hB hl⟩
   | _=>simp only[chk,hr]at h; exact(bad_ok h).elim
 | @ch Y R' cur n k bps Hs N x ret Ht nw hcon B ih=>
  intro lt lf acc g st Q R ha h hw hl
  rcases hr:run I n g st with _ | ⟨g',st',C,fs⟩
  ·simp only[chk,hr]at h; exact(bad_ok h).elim
  ·cases g' with
   | o all l ks=>
    cases l with
    | nil=>simp only[chk,hr]at h; exact(bad_ok h).elim
    | cons op l=>
     simp only[chk,hr]at h
     rcases hc:callI I all op st' with _ | ⟨d,k',as⟩
     ·rw[hc]at h; exact(bad_ok h).elim
     ·rw[hc]at h
      obtain⟨h1,h2⟩:=and_ok h
      obtain⟨h3,h4⟩:=and_ok h2
      obtain⟨h5,h6⟩:=and_ok h4
      obtain⟨h7,h8⟩:=and_ok h6
      obtain⟨h9,h10⟩:=and_ok h8
      obtain⟨hC,hf⟩:=asks_ok h1 trivial
      have h3:=vt_ok h3
      subst h3
      obtain⟨c,f,nf,caps,aps,e1,e2,e3,e4,e5,e6,e7,rfl⟩:=callI_ok hc
      obtain⟨r,hx,hB⟩:=hw
      obtain⟨h11,h12⟩:=and_ok (cur.ok _ _ h10 r)
      refine run_ok hG hr hC hf (pops_callH hG (keysL Hs) N nw rfl e1 e2 e3 e4 e5 e6 e7 hcon.c (argsV_nil h5 _) (vt_ok h7) (vt_ok h9) (hcon.h r hx) fun r' H' hr'=>?_)
      unfold RetH at hr'; obtain⟨rfl,rfl⟩:=hr'
      exact⟨vt_ok h11,ih r ha h12 hB hl⟩
   | _=>simp only[chk,hr]at h; exact(bad_ok h).elim
 | @jn Y S cur n m tm A B ihA ihB=>
  intro lt lf acc g st Q R ha h hw hl
  rcases hr:run I n g st with _ | ⟨g',st',C,fs⟩
  ·simp only[chk,hr]at h; exact(bad_ok h).elim
  ·simp only[chk,hr]at h
   obtain⟨h1,h2⟩:=and_ok h
   obtain⟨h3,h4⟩:=and_ok h2
   obtain⟨hC,hf⟩:=asks_ok h1 trivial
   refine run_ok hG hr hC hf ?_
   have hA:cwp P E (cutG m g') (fun e s=>e = .normal∧∃ v,(B v).wpT R∧Le E s (tm v)) st':=ihA ⟨.nil,.nil,.nil⟩ h3 hw fun v e s hv hk=>⟨s,.refl,(keepV_ok (E:=E) hk).1,v,hv,(keepV_ok hk).2⟩
   refine cut_ok hA fun e s he=>?_
   obtain⟨rfl,v,hv,hle⟩:=he
   obtain⟨u,hu,hq⟩:=ihB v ha (cur.ok _ _ h4 v) hv hl
   exact⟨u,hle.trans hu,hq⟩
 | @pc Y S cur n m tm A B ihA ihB=>
  intro lt lf acc g st Q R ha h hw hl
  rcases hr:run I n g st with _ | ⟨g',st',C,fs⟩
  ·simp only[chk,hr]at h; exact(bad_ok h).elim
  ·simp only[chk,hr]at h
   obtain⟨h1,h2⟩:=and_ok h
   obtain⟨h3,h4⟩:=and_ok h2
   obtain⟨hC,hf⟩:=asks_ok h1 trivial
   refine run_ok hG hr hC hf ?_
   have hA:cwp P E (cutG m g') (fun e s=>(e = .normal∧∃ v,(B v).wpT R∧Le E s (tm v))∨∃ t,Le E s t∧kQ P E (restG m g') Q e t) st':=ihA ⟨.nil,.nil,.nil⟩ h3 hw fun z e s hz hk=>by
    cases z with
    | inl v=>exact⟨s,.refl,.inl ⟨(keepV_ok (E:=E) hk).1,v,hz,(keepV_ok hk).2⟩⟩
    | inr y=>exact⟨s,.refl,.inr (leaveV_ok (P:=P) (E:=E) (Q:=Q) hk fun e s he=>hl y e s hz he).2⟩
   refine cut_ok hA fun e s he=>?_
   rcases he with⟨rfl,v,hv,hle⟩ | he
   ·obtain⟨u,hu,hq⟩:=ihB v ha (cur.ok _ _ h4 v) hv hl
    exact⟨u,hle.trans hu,hq⟩
   ·exact he
 | @lp Y S R' curS curR n tm bt ex s0 L B ihL ihB=>
  intro lt lf acc g st Q R ha h hw hl
  rcases hr:run I n g st with _ | ⟨g',st',C,fs⟩
  ·simp only[chk,hr]at h; exact(bad_ok h).elim
  ·cases g' with
   | c c ks=>
    cases c with
    | loop c=>
     simp only[chk,hr]at h
     obtain⟨h1,h2⟩:=and_ok h
     obtain⟨h3,h4⟩:=and_ok h2
     obtain⟨h5,h6⟩:=and_ok h4
     obtain⟨hC,hf⟩:=asks_ok h1 trivial
     refine run_ok hG hr hC hf ?_
     refine cwp_weak (keep_ok (vt_ok h3)) ?_
     refine pwp_loopT (Out:=fun (z:R'⊕Y) e s=>match z with | .inl r=>e = .exit ex∧Le E s (bt r) | .inr y=>R y→∃ t,Le E s t∧kQ P E ks Q e t) (fun s Z hZ=>?_) hw fun z e s hz ho=>?_
     ·refine pwp_le (ihL s ⟨.nil,.nil,.nil⟩ (curS.ok _ _ h5 s) hZ (Q:=fun e st=>∃ z,Z z∧roundT E tm (fun (z:R'⊕Y) e s=>match z with | .inl r=>e = .exit ex∧Le E s (bt r) | .inr y=>R y→∃ t,Le E s t∧kQ P E ks Q e t) z e st) fun z e s hz hk=>?_) fun e s he=>⟨s,.refl,he⟩
      cases z with
      | inl v=>exact⟨s,.refl,_,hz,(keepV_ok (E:=E) hk).1,(keepV_ok hk).2⟩
      | inr z=>
       cases z with
       | inl r=>
        obtain⟨he,hle⟩:=brkV_ok (E:=E) (bt:=bt) (ex:=ex) (r:=r) hk
        exact⟨s,.refl,_,hz,by rw[he]; simp,he,hle⟩
       | inr y=>
        have hk:leaveV true lt ks y e s=leaveV false lf ks y e s:=hk
        have hne:e ≠ .normal:=by rintro rfl; exact bad_ok hk
        exact⟨s,.refl,_,hz,hne,fun hy=>(leaveV_ok (P:=P) (E:=E) (Q:=Q) hk fun e s he=>hl y e s hy he).2⟩
     ·cases z with
      | inl r=>
       obtain⟨rfl,hle⟩:=ho
       obtain⟨u,hu,hq⟩:=ihB r ha (curR.ok _ _ h6 r) hz hl
       exact⟨u,hle.trans hu,hq⟩
      | inr y=>exact ho hz
    | _=>simp only[chk,hr]at h; exact(bad_ok h).elim
   | _=>simp only[chk,hr]at h; exact(bad_ok h).elim
 | sp n t r m a e iha ihe=>
  intro lt lf acc g st Q R ha h hw hl
  rcases hr:run I n g st with _ | ⟨g',st',C,fs⟩
  ·simp only[chk,hr]at h; exact(bad_ok h).elim
  ·simp only[chk,hr]at h
   obtain⟨h1,h2⟩:=and_ok h
   obtain⟨h3,h4⟩:=and_ok h2
   obtain⟨h5,h6⟩:=and_ok h4
   obtain⟨hC,hf⟩:=asks_ok h1 trivial
   refine run_ok hG hr hC hf ?_
   have h3:=vt_ok h3
   by_cases hrm:r=m
   ·subst hrm
    refine cwp_weak (set_le h3 fun _ _ _ _ h=>h) (iha ha h5 ?_ hl)
    simpa only[Tr.wpT,if_true] using hw
   ·refine ihe ha h6 ?_ hl
    simpa only[Tr.wpT,if_neg hrm] using hw
 | slc n t c xs lo hi k ih=>
  intro lt lf acc g st Q R ha h hw hl
  rcases hr:run I n g st with _ | ⟨g',st',C,fs⟩
  ·simp only[chk,hr]at h; exact(bad_ok h).elim
  ·simp only[chk,hr]at h
   obtain⟨h1,h2⟩:=and_ok h
   obtain⟨h3,h4⟩:=and_ok h2
   obtain⟨hC,hf⟩:=asks_ok h1 hw.1
   exact run_ok hG hr hC hf (cwp_weak (set_le (vt_ok h3) (le_slice hw.1 rfl)) (ih ha h4 hw.2 hl))
 | sto n o c xs l k ih=>
  intro lt lf acc g st Q R ha h hw hl
  rcases hr:run I n g st with _ | ⟨g',st',C,fs⟩
  ·simp only[chk,hr]at h; exact(bad_ok h).elim
  ·simp only[chk,hr]at h
   rcases hx:look st'.hp o with _ | x
   ·rw[hx]at h; exact(bad_ok h).elim
   ·rw[hx]at h
    cases x with
    | arr e s n' f=>
     simp only at h
     obtain⟨h1,h2⟩:=and_ok h
     obtain⟨h3,h4⟩:=and_ok h2
     obtain⟨hC,hf⟩:=asks_ok h1 trivial
     have h3:=vt_ok h3
     cases h3
     refine run_ok hG hr hC hf (cwp_weak (Le.obj _ hx (fun _ _ _=>ObjR.row (sets_len l xs).symm fun q _=>sets_row c l xs hw.1 q) rfl) (ih ha h4 hw.2 hl))
    | _=>exact(bad_ok h).elim
 | cut n c xs hi k ih=>
  intro lt lf acc g st Q R ha h hw hl
  rcases hr:run I n g st with _ | ⟨g',st',C,fs⟩
  ·simp only[chk,hr]at h; exact(bad_ok h).elim
  ·cases g' with
   | o all l ks=>
    cases l with
    | nil=>simp only[chk,hr]at h; exact(bad_ok h).elim
    | cons op l=>
     simp only[chk,hr]at h
     split at h
     case h_2=>exact(bad_ok h).elim
     rename_i t x lo hx d e1 e2 e3
     split at h
     case h_2=>exact(bad_ok h).elim
     rename_i q e4
     split at h
     case h_2=>exact(bad_ok h).elim
     rename_i e s n' f st1 j e5 e6 e7
     split at h
     case h_2=>exact(bad_ok h).elim
     rename_i s2 e8
     obtain⟨h1,h2⟩:=and_ok h
     obtain⟨h3,h4⟩:=and_ok h2
     obtain⟨h5,h6⟩:=and_ok h4
     obtain⟨h7,h8⟩:=and_ok h6
     obtain⟨hC,hf⟩:=asks_ok h1 trivial
     have h3:=vt_ok h3
     cases h3
     obtain⟨i,e',e9,e10,e11⟩:=sliceI_ok e7
     have hlk:look s2.hp d=some (.arr e s hi.toNat (eF c xs)):=by
      unfold newP at e8
      split at e8
      ·cases e8; simp[St.put,look]
      ·cases e8
     have hle:hi.toNat≤xs.length:=by have:=hw.1; omega
     refine run_ok hG hr hC hf (pops_cut hG rfl e1 e2 e3 e4 e5 (vt_ok h5) (vt_ok h7) e9 e10 e11 hw.1 e6 e8 (pops_weak (Le.obj _ hlk (fun _ _ _=>ObjR.row (by simp; omega) fun q hq=>?_) rfl) (ih ha h8 hw.2 hl)))
     simp only[eF]
     rw[List.getD_eq_getElem?_getD,List.getD_eq_getElem?_getD,List.getElem?_take,if_pos hq]
   | _=>simp only[chk,hr]at h; exact(bad_ok h).elim
 | @clr Y α inst n c xs lo k ih=>
  intro lt lf acc g st Q R ha h hw hl
  rcases hr:run I n g st with _ | ⟨g',st',C,fs⟩
  ·simp only[chk,hr]at h; exact(bad_ok h).elim
  ·cases g' with
   | o all l ks=>
    cases l with
    | nil=>simp only[chk,hr]at h; exact(bad_ok h).elim
    | cons o1 l=>
     cases l with
     | nil=>simp only[chk,hr]at h; exact(bad_ok h).elim
     | cons o2 l=>
      simp only[chk,hr]at h
      split at h
      case h_2=>exact(bad_ok h).elim
      rename_i t x lx d cl e1 e2 e3 e4 e5 e6
      split at h
      case h_2=>exact(bad_ok h).elim
      rename_i d' t2 e7 e8 e9
      split at h
      case h_2=>exact(bad_ok h).elim
      rename_i q j e10 e11 e12
      split at h
      case h_2=>exact(bad_ok h).elim
      rename_i e s n' f e13
      obtain⟨h1,h2⟩:=and_ok h
      obtain⟨h3,h4⟩:=and_ok h2
      obtain⟨h5,h6⟩:=and_ok h4
      obtain⟨h7,h8⟩:=and_ok h6
      obtain⟨h9,h10⟩:=and_ok h8
      obtain⟨h11,h12⟩:=and_ok h10
      obtain⟨hC,hf⟩:=asks_ok h1 trivial
      have h3:=vt_ok h3
      cases h3
      have h7:=vt_ok h7
      injection h7 with h7 h7'
      subst h7
      have h9:=vt_ok h9
      injection h9 with h13 h9
      injection h9 with h14 h9
      injection h9 with h15 h16
      obtain⟨i,e',e14,e15,e16⟩:=sliceI_ok e11
      have himp:ImpC j.zero (c default):=(cellsV_ok h11).get
      refine run_ok hG hr hC hf (pops_clr hG rfl e1 e2 e3 e4 e7 (args_eq e8) e9 h7' e5 e6 e12 e10 e13 (vt_ok h5) e14 e15 e16 h13 (Nat.le_of_ble_eq_true h14) (Nat.eq_of_beq_eq_true h15) h16 himp hw.1 ?_)
      have hle:lo.toNat≤xs.length:=by have:=hw.1; omega
      have hlk:look ((({ st' with hp:=(q,.arr e s xs.length (clrF (eF c xs) lo.toNat (c default)))::del q st'.hp }:St).put d' .any).hp) q=some (.arr e s xs.length (clrF (eF c xs) lo.toNat (c default))):=by simp[St.put,look]
      refine pops_weak (Le.trans (Le.obj (.arr e s (xs.take lo.toNat++List.replicate (xs.length-lo.toNat) default).length (eF c (xs.take lo.toNat++List.replicate (xs.length-lo.toNat) default))) hlk (fun _ _ _=>ObjR.row (by simp; omega) fun q hq=>?_) rfl) ?_) (ih ha h12 hw.2 hl)
      ·simp only[clrF,eF]
       rw[List.getD_eq_getElem?_getD,List.getD_eq_getElem?_getD]
       split
       ·rename_i hq'; rw[List.getElem?_append_left (by simp; omega),List.getElem?_take,if_pos hq']
       ·rename_i hq'
        rw[List.getElem?_append_right (by simp; omega),List.getElem?_replicate,if_pos (by simp; omega)]
        rfl
      ·refine fun a w r=>r.sub (fun e he=>he) (fun e he=>?_)
       simp only[St.put]at he ⊢
       rcases List.mem_cons.1 he with rfl | he
       ·exact List.mem_cons_self ..
       ·refine List.mem_cons_of_mem _ ?_
        obtain⟨k,y⟩:=e
        obtain⟨h9,h10⟩:=mem_del.1 he
        exact mem_del.2 ⟨List.mem_cons_of_mem _ (mem_del.2 ⟨h9,h10⟩),h10⟩
   | _=>simp only[chk,hr]at h; exact(bad_ok h).elim
 | apz n c byt m k ih=>
  intro lt lf acc g st Q R ha h hw hl
  rcases hr:run I n g st with _ | ⟨g',st',C,fs⟩
  ·simp only[chk,hr]at h; exact(bad_ok h).elim
  ·cases g' with
   | o all l ks=>
    cases l with
    | nil=>simp only[chk,hr]at h; exact(bad_ok h).elim
    | cons op l=>
     simp only[chk,hr]at h
     split at h
     case h_2=>exact(bad_ok h).elim
     rename_i d e j k' e1
     split at h
     case h_2=>exact(bad_ok h).elim
     rename_i s2 e2
     obtain⟨h1,h2⟩:=and_ok h
     obtain⟨h3,h4⟩:=and_ok h2
     obtain⟨h5,h6⟩:=and_ok h4
     obtain⟨hC,hf⟩:=asks_ok h1 trivial
     have h3:=vt_ok h3
     injection h3 with h3 h3'
     subst h3; subst h3'
     have himp:ImpC j.zero (c default):=(cellsV_ok h5).get
     have hlk:look s2.hp d=some (.arr e j.size k'.toNat (fun _=>c default)):=by
      unfold newP at e2
      split at e2
      ·cases e2; simp[St.put,look]
      ·cases e2
     refine run_ok hG hr hC hf (pops_apz hG e1 himp hw.1.1 hw.1.2 e2 (pops_weak (Le.obj _ hlk (fun _ _ _=>ObjR.row (by simp) fun q hq=>?_) rfl) (ih ha h6 hw.2 hl)))
     simp only[eF]
     rw[List.getD_eq_getElem?_getD,List.getElem?_replicate,if_pos hq]
     rfl
   | _=>simp only[chk,hr]at h; exact(bad_ok h).elim
 | mks n c byt lv cv k ih=>
  intro lt lf acc g st Q R ha h hw hl
  rcases hr:run I n g st with _ | ⟨g',st',C,fs⟩
  ·simp only[chk,hr]at h; exact(bad_ok h).elim
  ·cases g' with
   | o all l ks=>
    cases l with
    | nil=>simp only[chk,hr]at h; exact(bad_ok h).elim
    | cons op l=>
     simp only[chk,hr]at h
     split at h
     case h_2=>exact(bad_ok h).elim
     rename_i d e j lv' cv' e1
     split at h
     case h_2=>exact(bad_ok h).elim
     rename_i s2 e2
     obtain⟨h1,h2⟩:=and_ok h
     obtain⟨h3,h4⟩:=and_ok h2
     obtain⟨h5,h6⟩:=and_ok h4
     obtain⟨hC,hf⟩:=asks_ok h1 trivial
     have h3:=vt_ok h3
     injection h3 with h3 h3'
     injection h3' with h3' h3''
     subst h3; subst h3'; subst h3''
     have himp:ImpC j.zero (c default):=(cellsV_ok h5).get
     have hlk:look s2.hp d=some (.arr e j.size lv'.toNat (fun _=>c default)):=by
      unfold newP at e2
      split at e2
      ·cases e2; simp[St.put,look]
      ·cases e2
     refine run_ok hG hr hC hf (pops_mks hG e1 himp hw.1.1 hw.1.2 e2 (pops_weak (Le.obj _ hlk (fun _ _ _=>ObjR.row (by simp) fun q hq=>?_) rfl) (ih ha h6 hw.2 hl)))
     simp only[eF]
     rw[List.getD_eq_getElem?_getD,List.getElem?_replicate,if_pos hq]
     rfl
   | _=>simp only[chk,hr]at h; exact(bad_ok h).elim
 | abl n e k ih=>
  intro lt lf acc g st Q R ha h hw hl
  rcases hr:run I n g st with _ | ⟨g',st',C,fs⟩
  ·simp only[chk,hr]at h; exact(bad_ok h).elim
  ·cases g' with
   | o all l ks=>
    cases l with
    | nil=>simp only[chk,hr]at h; exact(bad_ok h).elim
    | cons op l=>
     simp only[chk,hr]at h
     split at h
     case h_2=>exact(bad_ok h).elim
     rename_i t d e1 e2 e3
     split at h
     case h_2=>exact(bad_ok h).elim
     rename_i st1 i e4 e5 e6 e7
     obtain⟨h1,h2⟩:=and_ok h
     obtain⟨h3,h4⟩:=and_ok h2
     obtain⟨hC,hf⟩:=asks_ok h1 trivial
     exact run_ok hG hr hC hf (pops_abl hG e1 e2 e3 e4 e5 e7 (vt_ok h3) e6 (ih ha h4 hw hl))
   | _=>simp only[chk,hr]at h; exact(bad_ok h).elim
 | aps n xs s k ih=>
  intro lt lf acc g st Q R ha h hw hl
  rcases hr:run I n g st with _ | ⟨g',st',C,fs⟩
  ·simp only[chk,hr]at h; exact(bad_ok h).elim
  ·cases g' with
   | o all l ks=>
    cases l with
    | nil=>simp only[chk,hr]at h; exact(bad_ok h).elim
    | cons op l=>
     simp only[chk,hr]at h
     split at h
     ·rename_i d e j s' e1
      split at h
      case h_2=>exact(bad_ok h).elim
      rename_i s2 e2
      obtain⟨h1,h2⟩:=and_ok h
      obtain⟨h3,h4⟩:=and_ok h2
      obtain⟨h5,h6⟩:=and_ok h4
      obtain⟨hC,hf⟩:=asks_ok h1 trivial
      have h3:=vt_ok h3
      subst h3
      have h5:=vt_ok h5
      subst h5
      have hlk:look s2.hp d=some (.arr e j.size s'.size (eF cU8 (bytesI s'))):=by
       unfold newP at e2
       split at e2
       ·cases e2; simp[St.put,look]
       ·cases e2
      refine run_ok hG hr hC hf (pops_apsn hG e1 (by have:=hw.1; simpa using this) e2 (pops_weak (Le.obj _ hlk (fun _ _ _=>ObjR.row ?_ fun q hq=>rfl) rfl) (ih ha h6 hw.2 hl)))
      simp[bytesI]
     ·rename_i d e j o s' e1
      split at h
      case h_2=>exact(bad_ok h).elim
      rename_i e' sz n' f st1 e2 e3
      split at h
      case h_2=>exact(bad_ok h).elim
      rename_i s2 e4
      obtain⟨h1,h2⟩:=and_ok h
      obtain⟨h3,h4⟩:=and_ok h2
      obtain⟨h5,h6⟩:=and_ok h4
      obtain⟨h7,h8⟩:=and_ok h6
      obtain⟨hC,hf⟩:=asks_ok h1 trivial
      have h3:=vt_ok h3
      subst h3
      have h5:=vt_ok h5
      cases h5
      have h7:=vt_ok h7
      cases h7
      have hlk:look s2.hp d=some (.arr e j.size (xs.length+s'.size) (appF xs.length (eF cU8 xs) (eF cU8 (bytesI s')))):=by
       unfold newP at e4
       split at e4
       ·cases e4; simp[St.put,look]
       ·cases e4
      have hbl:(bytesI s').length=s'.size:=by simp[bytesI]
      refine run_ok hG hr hC hf (pops_apso hG e1 hw.1 e2 e3 e4 (pops_weak (Le.obj _ hlk (fun _ _ _=>ObjR.row (by simp[hbl]) fun q hq=>?_) rfl) (ih ha h8 hw.2 hl)))
      exact row_app cU8 xs (bytesI s') q (by rw[hbl]; exact hq)
     ·exact(bad_ok h).elim
   | _=>simp only[chk,hr]at h; exact(bad_ok h).elim
 | bs n own c xs t ih=>
  intro lt lf acc g st Q R ha h hw hl
  rcases hr:run I n g st with _ | ⟨g',st',C,fs⟩
  ·simp only[chk,hr]at h; exact(bad_ok h).elim
  ·cases g' with
   | o all l ks=>
    cases l with
    | nil=>simp only[chk,hr]at h; exact(bad_ok h).elim
    | cons op l=>
     simp only[chk,hr]at h
     rcases hb:bsI I all op st' with _ | ⟨d,e,j,len,cs⟩
     ·rw[hb]at h; exact(bad_ok h).elim
     rw[hb]at h
     obtain⟨h1,h2⟩:=and_ok h
     obtain⟨h3,h4⟩:=and_ok h2
     obtain⟨h5,h6⟩:=and_ok h4
     obtain⟨h7,h8⟩:=and_ok h6
     obtain⟨hC,hf⟩:=asks_ok h1 trivial
     have h5:=vt_ok h5
     have h7:=map_range (vt_ok h7)
     have himp:ImpC cs (xs.flatMap c):=(cellsV_ok h3).get
     cases own with
     | false=>
      refine run_ok hG hr hC hf (pops_bsd hG hb himp ?_)
      refine pops_weak (set_le (st:=st'.put d (.t (.sl len (arrOf (xs.flatMap c) j.size)))) (t:=d) (y:=.t (eL c xs)) (by simp[St.put,look]) (le_sl (x:=eL c xs) (n':=xs.length) (f':=eF c xs) rfl h5.symm h7)) ?_
      refine pops_weak (fun a w r=>?_) (ih ha h8 hw hl)
      refine r.sub (fun e he=>?_) (fun e he=>he)
      simp only[St.put]at he ⊢
      rcases List.mem_cons.1 he with rfl | he
      ·exact List.mem_cons_self ..
      ·refine List.mem_cons_of_mem _ ?_
       obtain⟨k,y⟩:=e
       obtain⟨h9,h10⟩:=mem_del.1 he
       exact mem_del.2 ⟨List.mem_cons_of_mem _ (mem_del.2 ⟨h9,h10⟩),h10⟩
     | true=>
      simp only at h8
      split at h8
      ·rename_i s2 hs2
       refine run_ok hG hr hC hf (pops_bso hG hb himp hs2 ?_)
       have hlk:look s2.hp d=some (.arr e j.size len (arrOf (xs.flatMap c) j.size)):=by
        unfold newP at hs2
        split at hs2
        ·cases hs2; simp[St.put,look]
        ·cases hs2
       exact pops_weak (Le.obj _ hlk (fun _ _ _=>ObjR.row h5 h7) rfl) (ih ha h8 hw hl)
      ·exact(bad_ok h8).elim
   | _=>simp only[chk,hr]at h; exact(bad_ok h).elim
 | ndb n m a e iha ihe=>
  intro lt lf acc g st Q R ha h hw hl
  rcases hr:run I n g st with _ | ⟨g',st',C,fs⟩
  ·simp only[chk,hr]at h; exact(bad_ok h).elim
  ·cases g' with
   | o all l ks=>
    cases l with
    | nil=>simp only[chk,hr]at h; exact(bad_ok h).elim
    | cons op l=>
     simp only[chk,hr]at h
     rcases hb:nilI I all op st' with _ | ⟨d,ng,m'⟩
     ·rw[hb]at h; exact(bad_ok h).elim
     rw[hb]at h
     obtain⟨h1,h2⟩:=and_ok h
     obtain⟨h2a,h2b⟩:=and_ok h2
     obtain⟨h3,h4⟩:=and_ok h2b
     have hmm:=vt_ok h2a
     subst hmm
     obtain⟨hC,hf⟩:=asks_ok h1 trivial
     exact run_ok hG hr hC hf (pops_nil2 hG hb (fun hm=>iha ha h3 (hw.1 hm) hl) (ihe ha h4 hw.2 hl))
   | _=>simp only[chk,hr]at h; exact(bad_ok h).elim
 | @dc Y R' j as k bps x ret hcon B ih=>
  intro lt lf acc g st Q R ha h hw hl
  simp only[chk]at h
  obtain⟨h1,h2⟩:=and_ok h
  obtain⟨hk,h2⟩:=and_ok h2
  obtain⟨r,hx,hB⟩:=hw
  obtain⟨h3,h4⟩:=and_ok (all_ok h2 r)
  exact ih r (acc:=⟨(j,k,as,ret r,[],none)::acc.calls,acc.lits,acc.conds⟩) ⟨.cons (.inr <| .call (vt_ok hk) (pure_notown (vt_ok h3)) ⟨hcon.c,.inl ⟨rfl,rfl,bps,argsV_nil h1,hcon.h r hx⟩,vt_ok h3⟩) ha.c,ha.l,ha.p⟩ h4 hB hl
 | @dch Y R' j as k bps Hs N x ret Ht hcon ch B ih=>
  intro lt lf acc g st Q R ha h hw hl
  simp only[chk]at h
  obtain⟨h1,h2⟩:=and_ok h
  obtain⟨hk,h2⟩:=and_ok h2
  obtain⟨r,hx,hB⟩:=hw
  obtain⟨h3,h4⟩:=and_ok (all_ok h2 r)
  obtain⟨h5,h6⟩:=and_ok h4
  obtain⟨h7,h8⟩:=and_ok h6
  obtain⟨h9,h10⟩:=and_ok h8
  have hp:=hcon.h r hx
  rw[vt_ok h5]at hp
  exact ih r (acc:=⟨(j,k,as,ret r,Hs,ch r)::acc.calls,acc.lits,acc.conds⟩) ⟨.cons (.inr <| .call (vt_ok hk) (pure_notown (vt_ok h3)) ⟨hcon.c,.inr ⟨bps,N,argsV_nil h1,hp,vt_ok h7,ch1_ok (vt_ok h9)⟩,vt_ok h3⟩) ha.c,ha.l,ha.p⟩ h10 hB hl
 | @dcn Y R' j d as k bps Hs N x ret Ht hcon B ih=>
  intro lt lf acc g st Q R ha h hw hl
  simp only[chk]at h
  obtain⟨h1,h2⟩:=and_ok h
  obtain⟨hk,h2⟩:=and_ok h2
  obtain⟨hHs,h2⟩:=and_ok h2
  obtain⟨hN,h2⟩:=and_ok h2
  obtain⟨r,hx,hB⟩:=hw
  have h3:=all_ok h2 r
  have hHs:=vt_ok hHs
  have hN:=vt_ok hN
  subst hHs hN
  split at h3
  ·rename_i o e s n f o' e1 e2
   obtain⟨h4,h5⟩:=and_ok h3
   have h4:=vt_ok h4
   subst h4
   have hp:=hcon.h r hx
   rw[e1,e2]at hp
   exact ih r (acc:=⟨(j,k,as,.own d,[],some (d,.arr e s n f))::acc.calls,acc.lits,acc.conds⟩) ⟨.cons (.inr <| .new (vt_ok hk) rfl rfl rfl hcon.c (argsV_nil h1) (hp.renNew d)) ha.c,ha.l,ha.p⟩ h5 hB hl
  ·exact(bad_ok h3).elim
 | @dcm Y R' j d as k bps Hs N x ret Ht hcon B ih=>
  intro lt lf acc g st Q R ha h hw hl
  simp only[chk]at h
  obtain⟨h1,h2⟩:=and_ok h
  obtain⟨hk,h2⟩:=and_ok h2
  obtain⟨r,hx,hB⟩:=hw
  have h3:=all_ok h2 r
  split at h3
  ·rename_i o m _
   obtain⟨h4,h5⟩:=and_ok h3
   obtain⟨h6,h5⟩:=and_ok h5
   obtain⟨h7,h5⟩:=and_ok h5
   have h7:=vt_ok h7
   simp only[dcmB,Bool.and_eq_true,Bool.not_eq_true']at h7
   obtain⟨⟨⟨⟨a1,a2⟩,a3⟩,a4⟩,a5⟩:=h7
   have nin:∀ {q:Nat} {l:List Nat},inN q l=false→q∉l:=fun hq hm=>by rw[inN_ok.2 hm]at hq; cases hq
   have hp:=hcon.h r hx
   rw[vt_ok h4,vt_ok h6]at hp
   exact ih r (acc:=⟨(j,k,as,.map d,Hs,some (d,.mp none m none))::acc.calls,acc.lits,acc.conds⟩)
    ⟨.cons (.inr <| .newH (vt_ok hk) rfl rfl hcon.c (argsV_nil h1) (hp.renMap d (nin a1) (nin a2) (fun e he q hq e'=>noneIn_ok (List.all_eq_true.1 a3 e he) q hq (List.mem_singleton.2 e')) (nin a4)) a5) ha.c,ha.l,ha.p⟩ h5 hB hl
  ·exact(bad_ok h3).elim
 | @dap Y j n f x himp t ih=>
  intro lt lf acc g st Q R ha h hw hl
  simp only[chk]at h
  exact ih (acc:=⟨(j,fzN,[.t (.sl n f)],.t x,[],none)::acc.calls,acc.lits,acc.conds⟩) ⟨.cons (.inl ⟨rfl,n,f,x,rfl,rfl,himp⟩) ha.c,ha.l,ha.p⟩ h hw hl
 | @dlk Y K mk j ty ob v k t1 ih=>
  intro lt lf acc g st Q R ha h hw hl
  simp only[chk]at h
  obtain⟨h1,h2⟩:=and_ok h
  obtain⟨c,hc,hB⟩:=hw
  obtain⟨k',hk'⟩:=mlook_in hc
  have hz:=vt_ok h1
  cases hm:mapIn I.ti ty (MKey.kT k) with
  | none=>rw[hm]at hz; cases hz
  | some et=>
   rw[hm]at hz
   refine ih c (acc:=⟨(j,lkN+ty,[.map ob,.t (MKey.kT k)],.fn (.func c) 0 [],[(ob,.mp none (eM (fun c=>.d (.fv c)) v) none)],none)::acc.calls,acc.lits,acc.conds⟩) ⟨.cons (.inr <| .look (by cases hb:Nat.blt (lkN+ty) lkN with | false=>rfl | true=>rw[Nat.blt_eq]at hb; omega) ?_) ha.c,ha.l,ha.p⟩ (allL_ok h2 _ hk') hB hl
   rw[Nat.add_sub_cancel_left]
   exact lookf_ok hG.ti v k hm (zeroIs_of hz) hc
 | dl j c t e iht ihe=>
  intro lt lf acc g st Q R ha h hw hl
  simp only[chk]at h
  obtain⟨h1,h2⟩:=and_ok h
  cases hc:c with
  | true=>exact iht (acc:=⟨acc.calls,(j,c,true)::acc.lits,acc.conds⟩) ⟨ha.c,.cons hc ha.l,ha.p⟩ h1 (by simp only[Tr.wpT,hc,if_true]at hw; exact hw) hl
  | false=>exact ihe (acc:=⟨acc.calls,(j,c,false)::acc.lits,acc.conds⟩) ⟨ha.c,.cons hc ha.l,ha.p⟩ h2 (by simp only[Tr.wpT,hc]at hw; exact hw) hl
 | dg j p t ih=>
  intro lt lf acc g st Q R ha h hw hl
  simp only[chk]at h
  exact ih (acc:=⟨acc.calls,acc.lits,(j,[p])::acc.conds⟩) ⟨ha.c,ha.l,.cons hw.1 ha.p⟩ h hw.2 hl
 | dr n e ol ts t ih=>
  intro lt lf acc g st Q R ha h hw hl
  rcases hr:run I n g st with _ | ⟨g',st',C,fs⟩
  ·simp only[chk,hr]at h; exact(bad_ok h).elim
  ·cases g' with
   | c x ks=>
    cases x with
    | region id ops dw=>
     cases dw with
     | true=>
      simp only[chk,hr]at h
      obtain⟨h1,h2⟩:=and_ok h
      obtain⟨h3,h4⟩:=and_ok h2
      obtain⟨hC,hf⟩:=asks_ok h1 trivial
      obtain⟨h5,h6⟩:=and_ok h3
      obtain⟨h7,h8⟩:=and_ok h6
      cases hk:(drS I ops.toList (ops.toList.take (ops.toList.length-e)) acc st' ts ol).keep (keysL (drS I ops.toList (ops.toList.take (ops.toList.length-e)) acc st' ts ol).fr) (keysL (drS I ops.toList (ops.toList.take (ops.toList.length-e)) acc st' ts ol).hp) with
      | none=>rw[hk]at h4; exact(bad_ok h4).elim
      | some s=>
       rw[hk]at h4
       have hq:=ih ⟨.nil,.nil,.nil⟩ h4 hw hl
       refine run_ok hG hr hC hf ?_
       have hops:ops=ops.toList.toArray:=by simp
       show pwp P E (.region id ops true) _ _
       rw[hops]
       exact pwp_lin hG (vt_ok h7) (L:=ops.toList) (l:=ops.toList.take (ops.toList.length-e)) (tl:=ops.toList.drop (ops.toList.length-e)) (List.take_append_drop _ _).symm acc.calls acc.lits acc.conds ol ts ha.c ha.l ha.p _ _ (vt_ok h5) (vt_ok h8) hk hq
     | false=>simp only[chk,hr]at h; exact(bad_ok h).elim
    | _=>simp only[chk,hr]at h; exact(bad_ok h).elim
   | _=>simp only[chk,hr]at h; exact(bad_ok h).elim
 | @mk Y K V mk n enc t ih=>
  intro lt lf acc g st Q R ha h hw hl
  rcases hr:run I n g st with _ | ⟨g',st',C,fs⟩
  ·simp only[chk,hr]at h; exact(bad_ok h).elim
  ·cases g' with
   | o all l ks=>
    cases l with
    | nil=>simp only[chk,hr]at h; exact(bad_ok h).elim
    | cons op l=>
     simp only[chk,hr]at h
     split at h
     case h_2=>exact(bad_ok h).elim
     rename_i ty d e1 e2 e3
     split at h
     case h_2=>exact(bad_ok h).elim
     rename_i st1 e4 e5 e6
     obtain⟨h1,h2⟩:=and_ok h
     obtain⟨hC,hf⟩:=asks_ok h1 trivial
     exact run_ok hG hr hC hf (pops_mkmap hG (K:=K) enc rfl e1 e2 e3 e4 e5 e6 (ih ha h2 hw hl))
   | _=>simp only[chk,hr]at h; exact(bad_ok h).elim
 | @mlen Y K V mk n enc v t ih=>
  intro lt lf acc g st Q R ha h hw hl
  rcases hr:run I n g st with _ | ⟨g',st',C,fs⟩
  ·simp only[chk,hr]at h; exact(bad_ok h).elim
  ·cases g' with
   | o all l ks=>
    cases l with
    | nil=>simp only[chk,hr]at h; exact(bad_ok h).elim
    | cons op l=>
     simp only[chk,hr]at h
     split at h
     case h_2=>exact(bad_ok h).elim
     rename_i c d e1 e2 e3
     split at h
     case h_2=>exact(bad_ok h).elim
     rename_i x ty e4 e5 e6 e7
     split at h
     case h_2=>exact(bad_ok h).elim
     rename_i ob e8
     split at h
     case h_2=>exact(bad_ok h).elim
     rename_i it m ho e9
     obtain⟨h1,h2⟩:=and_ok h
     obtain⟨h3,h4⟩:=and_ok h2
     obtain⟨h5,h6⟩:=and_ok h4
     obtain⟨hC,hf⟩:=asks_ok h1 trivial
     have h5:=vt_ok h5
     cases h5
     exact run_ok hG hr hC hf (pops_mlen hG v rfl e1 e4 (args_eq e5) e6 e2 e3 e7 e8 (vt_ok h3) e9 (ih ha h6 hw hl))
   | _=>simp only[chk,hr]at h; exact(bad_ok h).elim
 | @lkb Y K V mk n eB v k t0 t1 ih0 ih1=>
  intro lt lf acc g st Q R ha h hw hl
  rcases hr:run I n g st with _ | ⟨g',st',C,fs⟩
  ·simp only[chk,hr]at h; exact(bad_ok h).elim
  ·cases g' with
   | o all l ks=>
    cases l with
    | nil=>simp only[chk,hr]at h; exact(bad_ok h).elim
    | cons op l=>
     simp only[chk,hr]at h
     rcases hlk:lookI I all op st' with _ | ⟨d,ty,ob,kp⟩
     ·rw[hlk]at h; exact(bad_ok h).elim
     rw[hlk]at h
     obtain⟨x,kx,e1,e2,e3,e4,e5,e6⟩:=lookI_ok hlk
     simp only at h
     split at h
     case h_2=>exact(bad_ok h).elim
     rename_i it m ho et e7 e8
     obtain⟨h1,h2⟩:=and_ok h
     obtain⟨h3,h4⟩:=and_ok h2
     obtain⟨h5,h6⟩:=and_ok h4
     obtain⟨h7,h8⟩:=and_ok h6
     obtain⟨h9,h10⟩:=and_ok h8
     obtain⟨h11,h12⟩:=and_ok h10
     obtain⟨hC,hf⟩:=asks_ok h1 trivial
     have h3:=vt_ok h3
     subst h3
     have h5:=vt_ok h5
     cases h5
     have hs:∀ c,gfocus I.N ob d (.mp it (eM (fun c=>.box (eB c)) (mdel v k)) (some (MKey.kT k,some (.ptr d 0)))) (.box ((eB c).map .t)) st'=some ((gfocus I.N ob d (.mp it (eM (fun c=>.box (eB c)) (mdel v k)) (some (MKey.kT k,some (.ptr d 0)))) (.box ((eB c).map .t)) st').getD ⟨[],[]⟩):=by
      intro c
      have h13:=all_ok h12 c
      split at h13
      ·rename_i s2 hs2; rw[hs2]; rfl
      ·exact(bad_ok h13).elim
     refine run_ok hG hr hC hf (pops_lookbox hG v k rfl e1 e2 e3 e4 e5 e6 e7 e8 (zeroIs_of (vt_ok h7)) (vt_ok h9) hs (fun hn=>?_) fun c hc=>?_)
     ·exact ih0 ha h11 (by simp only[Tr.wpT,hn]at hw; exact hw) hl
     ·have h13:=all_ok h12 c
      rw[hs c]at h13
      exact ih1 c ha h13 (by simp only[Tr.wpT,hc]at hw; exact hw) hl
   | _=>simp only[chk,hr]at h; exact(bad_ok h).elim
 | @lkr Y K V mk n e s nn ff dflt v k t ih=>
  intro lt lf acc g st Q R ha h hw hl
  rcases hr:run I n g st with _ | ⟨g',st',C,fs⟩
  ·simp only[chk,hr]at h; exact(bad_ok h).elim
  ·cases g' with
   | o all l ks=>
    cases l with
    | nil=>simp only[chk,hr]at h; exact(bad_ok h).elim
    | cons op l=>
     simp only[chk,hr]at h
     rcases hlk:lookI I all op st' with _ | ⟨d,ty,ob,kp⟩
     ·rw[hlk]at h; exact(bad_ok h).elim
     rw[hlk]at h
     obtain⟨x,kx,e1,e2,e3,e4,e5,e6⟩:=lookI_ok hlk
     simp only at h
     split at h
     case h_2=>exact(bad_ok h).elim
     rename_i it m ho et e7 e8
     obtain⟨h1,h2⟩:=and_ok h
     obtain⟨h3,h4⟩:=and_ok h2
     obtain⟨h5,h6⟩:=and_ok h4
     obtain⟨h7,h8⟩:=and_ok h6
     obtain⟨h9,h10⟩:=and_ok h8
     obtain⟨h11,h12⟩:=and_ok h10
     obtain⟨hC,hf⟩:=asks_ok h1 trivial
     have h3:=vt_ok h3
     subst h3
     have h5:=vt_ok h5
     cases h5
     split at h12
     ·rename_i s2 hs
      exact run_ok hG hr hC hf (pops_lookrow hG v k dflt rfl e1 e2 e3 e4 e5 e6 e7 e8 (zeroIs_of (vt_ok h7)) (vt_ok h9) (vt_ok h11) hs (ih ha h12 hw hl))
     ·exact(bad_ok h12).elim
   | _=>simp only[chk,hr]at h; exact(bad_ok h).elim
 | @lkd Y K V mk n zv eD v k t0 t1 ih0 ih1=>
  intro lt lf acc g st Q R ha h hw hl
  rcases hr:run I n g st with _ | ⟨g',st',C,fs⟩
  ·simp only[chk,hr]at h; exact(bad_ok h).elim
  ·cases g' with
   | o all l ks=>
    cases l with
    | nil=>simp only[chk,hr]at h; exact(bad_ok h).elim
    | cons op l=>
     simp only[chk,hr]at h
     rcases hlk:lookI I all op st' with _ | ⟨d,ty,ob,kp⟩
     ·rw[hlk]at h; exact(bad_ok h).elim
     rw[hlk]at h
     obtain⟨x,kx,e1,e2,e3,e4,e5,e6⟩:=lookI_ok hlk
     simp only at h
     split at h
     case h_2=>exact(bad_ok h).elim
     rename_i it m ho et zp e7 e8 e9
     obtain⟨h1,h2⟩:=and_ok h
     obtain⟨h3,h4⟩:=and_ok h2
     obtain⟨h5,h6⟩:=and_ok h4
     obtain⟨h7,h8⟩:=and_ok h6
     obtain⟨h9,h10⟩:=and_ok h8
     obtain⟨hC,hf⟩:=asks_ok h1 trivial
     have h3:=vt_ok h3
     subst h3
     have h5:=vt_ok h5
     cases h5
     refine run_ok hG hr hC hf (pops_lookd hG v k rfl e1 e2 e3 e4 e5 e6 e7 e8 (zeroIs_of (vt_ok h7)) e9 (fun hn=>?_) fun c hc=>?_)
     ·exact ih0 ha h9 (by simp only[Tr.wpT,hn]at hw; exact hw) hl
     ·exact ih1 c ha (all_ok h10 c) (by simp only[Tr.wpT,hc]at hw; exact hw) hl
   | _=>simp only[chk,hr]at h; exact(bad_ok h).elim
 | @lkf Y n v k t0 t1 ih0 ih1=>
  intro lt lf acc g st Q R ha h hw hl
  rcases hr:run I n g st with _ | ⟨g',st',C,fs⟩
  ·simp only[chk,hr]at h; exact(bad_ok h).elim
  ·cases g' with
   | o all l ks=>
    cases l with
    | nil=>simp only[chk,hr]at h; exact(bad_ok h).elim
    | cons op l=>
     simp only[chk,hr]at h
     rcases hlk:lookI I all op st' with _ | ⟨d,ty,ob,kp⟩
     ·rw[hlk]at h; exact(bad_ok h).elim
     rw[hlk]at h
     obtain⟨x,kx,e1,e2,e3,e4,e5,e6⟩:=lookI_ok hlk
     simp only at h
     split at h
     case h_2=>exact(bad_ok h).elim
     rename_i it m ho et e7 e8
     obtain⟨h1,h2⟩:=and_ok h
     obtain⟨h3,h4⟩:=and_ok h2
     obtain⟨h5,h6⟩:=and_ok h4
     obtain⟨h7,h8⟩:=and_ok h6
     obtain⟨h9,h10⟩:=and_ok h8
     obtain⟨hC,hf⟩:=asks_ok h1 trivial
     have h3:=vt_ok h3
     subst h3
     have h5:=vt_ok h5
     cases h5
     refine run_ok hG hr hC hf (pops_lookf hG v k rfl e1 e2 e3 e4 e5 e6 e7 e8 (zeroIs_of (vt_ok h7)) (zp:=.lit .nilFunc) rfl (fun hn=>?_) fun c hc=>?_)
     ·exact ih0 ha h9 (by simp only[Tr.wpT,hn]at hw; exact hw) hl
     ·obtain⟨k',hk'⟩:=mlook_in hc
      exact ih1 c ha (allL_ok h10 _ hk') (by simp only[Tr.wpT,hc]at hw; exact hw) hl
   | _=>simp only[chk,hr]at h; exact(bad_ok h).elim
 | @upd Y K V mk n enc v k t ih=>
  intro lt lf acc g st Q R ha h hw hl
  rcases hr:run I n g st with _ | ⟨g',st',C,fs⟩
  ·simp only[chk,hr]at h; exact(bad_ok h).elim
  ·cases g' with
   | o all l ks=>
    cases l with
    | nil=>simp only[chk,hr]at h; exact(bad_ok h).elim
    | cons op l=>
     simp only[chk,hr]at h
     split at h
     case h_2=>exact(bad_ok h).elim
     rename_i ty x kx vx e1 e2 e3
     split at h
     case h_2=>exact(bad_ok h).elim
     rename_i ob kp p e4 e5 e6
     split at h
     case h_2=>exact(bad_ok h).elim
     rename_i it m ho et e7 e8
     obtain⟨h1,h2⟩:=and_ok h
     obtain⟨h3,h4⟩:=and_ok h2
     obtain⟨h5,h6⟩:=and_ok h4
     obtain⟨h9,h6⟩:=and_ok h6
     obtain⟨hC,hf⟩:=asks_ok h1 trivial
     have h3:=vt_ok h3
     subst h3
     have h5:=vt_ok h5
     cases h5
     have hcur:curIs it (MKey.kT k):=by
      intro i hi
      subst hi
      exact vt_ok h9
     exact run_ok hG hr hC hf (pops_upd hG v k p rfl (updOf_ok e1) e2 e3 e4 e5 e6 e7 e8 hcur (ih ha h6 hw hl))
   | _=>simp only[chk,hr]at h; exact(bad_ok h).elim
 | @dlt Y K V mk n enc v k hp t ih=>
  intro lt lf acc g st Q R ha h hw hl
  rcases hr:run I n g st with _ | ⟨g',st',C,fs⟩
  ·simp only[chk,hr]at h; exact(bad_ok h).elim
  ·cases g' with
   | o all l ks=>
    cases l with
    | nil=>simp only[chk,hr]at h; exact(bad_ok h).elim
    | cons op l=>
     simp only[chk,hr]at h
     split at h
     case h_2=>exact(bad_ok h).elim
     rename_i c e1 e2 e3
     split at h
     case h_2=>exact(bad_ok h).elim
     rename_i x kx ty e4 e5 e6
     split at h
     case h_2=>exact(bad_ok h).elim
     rename_i ob kp et e7 e8 e9
     split at h
     case h_2=>exact(bad_ok h).elim
     rename_i it m ho e10
     obtain⟨h1,h2⟩:=and_ok h
     obtain⟨h3,h4⟩:=and_ok h2
     obtain⟨h5,h6⟩:=and_ok h4
     obtain⟨h7,h8⟩:=and_ok h6
     obtain⟨hC,hf⟩:=asks_ok h1 trivial
     have h3:=vt_ok h3
     subst h3
     have h5:=vt_ok h5
     cases h5
     have hcur:curIs it (MKey.kT k):=by
      intro i hi
      subst hi
      exact vt_ok h7
     exact run_ok hG hr hC hf (pops_delgap hG v k rfl e1 e4 (args_eq e5) e6 e2 e3 e7 e8 e10 e9 hcur (ih ha h8 hw hl))
   | _=>simp only[chk,hr]at h; exact(bad_ok h).elim
 | @rng Y K V mk n enc v t ih=>
  intro lt lf acc g st Q R ha h hw hl
  rcases hr:run I n g st with _ | ⟨g',st',C,fs⟩
  ·simp only[chk,hr]at h; exact(bad_ok h).elim
  ·cases g' with
   | o all l ks=>
    cases l with
    | nil=>simp only[chk,hr]at h; exact(bad_ok h).elim
    | cons op l=>
     simp only[chk,hr]at h
     split at h
     case h_2=>exact(bad_ok h).elim
     rename_i ty x d e1 e2 e3
     split at h
     case h_2=>exact(bad_ok h).elim
     rename_i ob e4 e5
     split at h
     case h_2=>exact(bad_ok h).elim
     rename_i m ho s2 e6 e7
     obtain⟨h1,h2⟩:=and_ok h
     obtain⟨h3,h4⟩:=and_ok h2
     obtain⟨h5,h6⟩:=and_ok h4
     obtain⟨hC,hf⟩:=asks_ok h1 trivial
     have h5:=vt_ok h5
     cases h5
     exact run_ok hG hr hC hf (pops_range hG v rfl e1 e2 e3 e5 e4 (vt_ok h3) e6 e7 (ih ha h6 hw hl))
   | _=>simp only[chk,hr]at h; exact(bad_ok h).elim
 | @nxb Y K V mk n eB v rem t0 t1 ih0 ih1=>
  intro lt lf acc g st Q R ha h hw hl
  rcases hr:run I n g st with _ | ⟨g',st',C,fs⟩
  ·simp only[chk,hr]at h; exact(bad_ok h).elim
  ·cases g' with
   | o all l ks=>
    cases l with
    | nil=>simp only[chk,hr]at h; exact(bad_ok h).elim
    | cons op l=>
     simp only[chk,hr]at h
     rcases hnx:nextI I all op st' with _ | ⟨d,di⟩
     ·rw[hnx]at h; exact(bad_ok h).elim
     rw[hnx]at h
     obtain⟨x,e1,e2,e3,e4,e5⟩:=nextI_ok hnx
     simp only at h
     split at h
     case h_2=>exact(bad_ok h).elim
     rename_i ob _
     split at h
     case h_2=>exact(bad_ok h).elim
     rename_i it m ho e6
     obtain⟨h1,h2⟩:=and_ok h
     obtain⟨h3,h4⟩:=and_ok h2
     obtain⟨h5,h6⟩:=and_ok h4
     obtain⟨hC,hf⟩:=asks_ok h1 trivial
     have h3:=vt_ok h3
     obtain⟨io,irem,icur⟩:=it
     cases h3
     have h5:=vt_ok h5
     cases h5
     obtain⟨h7,h8⟩:=and_ok h6
     obtain⟨h9,h10⟩:=and_ok h8
     have hs:∀ k c,gfocus I.N ob d (.mp (some ⟨io,kTs (rem.erase k),some (MKey.kT k)⟩) (eM (fun c=>.box (eB c)) (mdel v k)) (some (MKey.kT k,some (.ptr d 0)))) (.box ((eB c).map .t)) (nextSt st' ob io (rem.erase k) k (eM (fun c=>.box (eB c)) v))=some ((gfocus I.N ob d (.mp (some ⟨io,kTs (rem.erase k),some (MKey.kT k)⟩) (eM (fun c=>.box (eB c)) (mdel v k)) (some (MKey.kT k,some (.ptr d 0)))) (.box ((eB c).map .t)) (nextSt st' ob io (rem.erase k) k (eM (fun c=>.box (eB c)) v))).getD ⟨[],[]⟩):=by
      intro k c
      have h13:=all_ok (all_ok h10 k) c
      split at h13
      ·rename_i s2 hs2; rw[hs2]; rfl
      ·exact(bad_ok h13).elim
     refine run_ok hG hr hC hf (pops_nextbox hG v rem rfl e1 e2 e3 e4 e5 e6 (vt_ok h7) hs (fun hn=>ih0 ha h9 (hw.1 hn) hl) fun k c hk hc=>?_)
     have h13:=all_ok (all_ok h10 k) c
     rw[hs k c]at h13
     exact ih1 k c ha h13 (hw.2.1 k c hk hc) hl
   | _=>simp only[chk,hr]at h; exact(bad_ok h).elim
 | @nxr Y K V mk n e s nn ff v rem t0 t1 ih0 ih1=>
  intro lt lf acc g st Q R ha h hw hl
  rcases hr:run I n g st with _ | ⟨g',st',C,fs⟩
  ·simp only[chk,hr]at h; exact(bad_ok h).elim
  ·cases g' with
   | o all l ks=>
    cases l with
    | nil=>simp only[chk,hr]at h; exact(bad_ok h).elim
    | cons op l=>
     simp only[chk,hr]at h
     rcases hnx:nextI I all op st' with _ | ⟨d,di⟩
     ·rw[hnx]at h; exact(bad_ok h).elim
     rw[hnx]at h
     obtain⟨x,e1,e2,e3,e4,e5⟩:=nextI_ok hnx
     simp only at h
     split at h
     case h_2=>exact(bad_ok h).elim
     rename_i ob _
     split at h
     case h_2=>exact(bad_ok h).elim
     rename_i it m ho e6
     obtain⟨h1,h2⟩:=and_ok h
     obtain⟨h3,h4⟩:=and_ok h2
     obtain⟨h5,h6⟩:=and_ok h4
     obtain⟨hC,hf⟩:=asks_ok h1 trivial
     have h3:=vt_ok h3
     obtain⟨io,irem,icur⟩:=it
     cases h3
     have h5:=vt_ok h5
     cases h5
     obtain⟨h7,h8⟩:=and_ok h6
     obtain⟨h9,h10⟩:=and_ok h8
     have hs:∀ k c,gfocus I.N ob d (.mp (some ⟨io,kTs (rem.erase k),some (MKey.kT k)⟩) (eM (fun c=>.row e s (nn c) (ff c)) (mdel v k)) (some (MKey.kT k,some (.own d)))) (.arr e s (nn c) (ff c)) (nextSt st' ob io (rem.erase k) k (eM (fun c=>.row e s (nn c) (ff c)) v))=some ((gfocus I.N ob d (.mp (some ⟨io,kTs (rem.erase k),some (MKey.kT k)⟩) (eM (fun c=>.row e s (nn c) (ff c)) (mdel v k)) (some (MKey.kT k,some (.own d)))) (.arr e s (nn c) (ff c)) (nextSt st' ob io (rem.erase k) k (eM (fun c=>.row e s (nn c) (ff c)) v))).getD ⟨[],[]⟩):=by
      intro k c
      have h13:=all_ok (all_ok h10 k) c
      split at h13
      ·rename_i s2 hs2; rw[hs2]; rfl
      ·exact(bad_ok h13).elim
     refine run_ok hG hr hC hf (pops_nextrow hG v rem rfl e1 e2 e3 e4 e5 e6 (vt_ok h7) hs (fun hn=>ih0 ha h9 (hw.1 hn) hl) fun k c hk hc=>?_)
     have h13:=all_ok (all_ok h10 k) c
     rw[hs k c]at h13
     exact ih1 k c ha h13 (hw.2.1 k c hk hc) hl
   | _=>simp only[chk,hr]at h; exact(bad_ok h).elim
 | @nxd Y K V mk n eD v rem t0 t1 ih0 ih1=>
  intro lt lf acc g st Q R ha h hw hl
  rcases hr:run I n g st with _ | ⟨g',st',C,fs⟩
  ·simp only[chk,hr]at h; exact(bad_ok h).elim
  ·cases g' with
   | o all l ks=>
    cases l with
    | nil=>simp only[chk,hr]at h; exact(bad_ok h).elim
    | cons op l=>
     simp only[chk,hr]at h
     rcases hnx:nextI I all op st' with _ | ⟨d,di⟩
     ·rw[hnx]at h; exact(bad_ok h).elim
     rw[hnx]at h
     obtain⟨x,e1,e2,e3,e4,e5⟩:=nextI_ok hnx
     simp only at h
     split at h
     case h_2=>exact(bad_ok h).elim
     rename_i ob _
     split at h
     case h_2=>exact(bad_ok h).elim
     rename_i it m ho e6
     obtain⟨h1,h2⟩:=and_ok h
     obtain⟨h3,h4⟩:=and_ok h2
     obtain⟨h5,h6⟩:=and_ok h4
     obtain⟨hC,hf⟩:=asks_ok h1 trivial
     have h3:=vt_ok h3
     obtain⟨io,irem,icur⟩:=it
     cases h3
     have h5:=vt_ok h5
     cases h5
     obtain⟨h7,h8⟩:=and_ok h6
     refine run_ok hG hr hC hf (pops_nextd hG v rem rfl e1 e2 e3 e4 e5 e6 (fun hn=>ih0 ha h7 (hw.1 hn) hl) fun k c hk hc=>?_)
     refine pops_weak (Le.trans (Le.gapd (o:=ob) (it:=some ⟨io,kTs (rem.erase k),some (MKey.kT k)⟩) (eD:=eD) v k c hc (by simp[nextSt,St.put,look])) fun a w r=>?_) (ih1 k c ha (all_ok (all_ok h8 k) c) (hw.2.1 k c hk hc) hl)
     refine r.sub (fun e he=>he) (fun e he=>?_)
     simp only[St.put,nextSt]at he ⊢
     rcases List.mem_cons.1 he with rfl | he
     ·exact List.mem_cons_self ..
     ·obtain⟨k',y⟩:=e
      obtain⟨h9,h10⟩:=mem_del.1 he
      exact List.mem_cons_of_mem _ (mem_del.2 ⟨List.mem_cons_of_mem _ (mem_del.2 ⟨h9,h10⟩),h10⟩)
   | _=>simp only[chk,hr]at h; exact(bad_ok h).elim
end
def bodyOf(fn:Func):Code:=match fn.body with | some c=>c | none=>.skip
def finV{Y:Type}(b:Bool)(I:Inf)(rs:List ResultVar)(ret:Y→PV)(Ht:Y→Hp)(y:Y)(e:Exit)(s:St):VT:=
 match e with
 | .normal=>.and (vt b (resP I rs s) (some (ret y))) (vt b (pickH s.hp (keysL (Ht y))) (some (Ht y)))
 | .ret=>.and (vt b (resP I rs s) (some (ret y))) (vt b (pickH s.hp (keysL (Ht y))) (some (Ht y)))
 | _=>bad b
section
variable {P:Program} {ti:Nat→Option TInf} {k:FuncId} {fn:Func} {args:List PV} {Y:Type}
theorem pcall_tr{H:Hp}{N:List Nat}{ret:Y→PV}{Ht:Y→Hp}(hf:P.funcs[k]? = some fn)(hI:TIok P ti)(t:Tr P Y)(h1:(fn.body.isSome,Nat.ble args.length fn.ntmps)=(true,true))
  (h2:chk P ⟨ti,N,fn.ntmps⟩ true t (finV true ⟨ti,N,fn.ntmps⟩ fn.results.toList ret Ht) acc0 (.c (bodyOf fn) []) ⟨initFr args 0,H⟩=chk P ⟨ti,N,fn.ntmps⟩ false t (finV false ⟨ti,N,fn.ntmps⟩ fn.results.toList ret Ht) acc0 (.c (bodyOf fn) []) ⟨initFr args 0,H⟩)
  {y:Y}(hy:t.wpT (·=y)):PCall P k args H N (RetH (ret y) (Ht y)):=by
 injection h1 with h3 h4
 obtain⟨c,hc⟩:=Option.isSome_iff_exists.1 h3
 have hb:bodyOf fn=c:=by unfold bodyOf; rw[hc]
 rw[hb]at h2
 refine pcall_of (I:=⟨ti,N,fn.ntmps⟩) hf hc hI rfl (Nat.le_of_ble_eq_true h4) fun E hG=>?_
 refine pwp_le (t.sound hG ⟨.nil,.nil,.nil⟩ h2 hy (Q:=finQ ⟨ti,N,fn.ntmps⟩ fn.results.toList (RetH (ret y) (Ht y))) fun y' e s hy' he=>?_) fun e s he=>⟨s,.refl,he⟩
 subst hy'
 refine⟨s,.refl,?_⟩
 unfold finV at he
 cases e with
 | normal=>obtain⟨h5,h6⟩:=and_ok he; exact⟨.inl rfl,_,_,_,vt_ok h5,vt_ok h6,rfl,rfl⟩
 | ret=>obtain⟨h5,h6⟩:=and_ok he; exact⟨.inr rfl,_,_,_,vt_ok h5,vt_ok h6,rfl,rfl⟩
 | _=>exact(bad_ok he).elim
theorem PCall.noH{H N:_}{ret:PV}{Ht:Hp}(h:PCall P k args H N (RetH ret Ht)):PCall P k args H N (Ret ret):=h.mono fun _ _ hr=>hr.1
theorem conH{H:Hp}{N:List Nat}{ret:Y→PV}{Ht:Y→Hp}(hf:P.funcs[k]? = some fn)(hI:TIok P ti)(t:Tr P Y)
  (h1:(fn.body.isSome,Nat.ble args.length fn.ntmps)=(true,true):=by kernel_rfl)(h3:(fn.body.isNone,fn.name == "runtime.NumGoroutine")=(false,false):=by kernel_rfl)
  (h2:chk P ⟨ti,N,fn.ntmps⟩ true t (finV true ⟨ti,N,fn.ntmps⟩ fn.results.toList ret Ht) acc0 (.c (bodyOf fn) []) ⟨initFr args 0,H⟩=chk P ⟨ti,N,fn.ntmps⟩ false t (finV false ⟨ti,N,fn.ntmps⟩ fn.results.toList ret Ht) acc0 (.c (bodyOf fn) []) ⟨initFr args 0,H⟩:=by kernel_rfl):
  ConH P k args H N t.den ret Ht:=⟨callable_of hf h3,fun _ hy=>pcall_tr hf hI t h1 h2 (t.of_den hy rfl)⟩
theorem conHD{H:Hp}{N:List Nat}{ret:Y→PV}{Ht:Y→Hp}(hf:P.funcs[k]? = some fn)(hI:TIok P ti)(t:Tr P Y)
  (h1:(fn.body.isSome,Nat.ble args.length fn.ntmps)=(true,true):=by kernel_rfl)(h3:(fn.body.isNone,fn.name == "runtime.NumGoroutine")=(false,false):=by kernel_rfl)
  (h2:chk P ⟨ti,N,fn.ntmps⟩ true t (finV true ⟨ti,N,fn.ntmps⟩ fn.results.toList ret Ht) acc0 (.c (bodyOf fn) []) ⟨initFr args 0,H⟩=chk P ⟨ti,N,fn.ntmps⟩ false t (finV false ⟨ti,N,fn.ntmps⟩ fn.results.toList ret Ht) acc0 (.c (bodyOf fn) []) ⟨initFr args 0,H⟩:=by kernel_rfl):
  ConH P k args H N (Det t) ret Ht:=⟨callable_of hf h3,fun _ hy=>pcall_tr hf hI t h1 h2 (Det.ok hy)⟩
theorem con{ret:Y→PV}(hf:P.funcs[k]? = some fn)(hI:TIok P ti)(t:Tr P Y)
  (h1:(fn.body.isSome,Nat.ble args.length fn.ntmps)=(true,true):=by kernel_rfl)(h3:(fn.body.isNone,fn.name == "runtime.NumGoroutine")=(false,false):=by kernel_rfl)
  (h2:chk P ⟨ti,[],fn.ntmps⟩ true t (finV true ⟨ti,[],fn.ntmps⟩ fn.results.toList ret (fun _=>[])) acc0 (.c (bodyOf fn) []) ⟨initFr args 0,[]⟩=chk P ⟨ti,[],fn.ntmps⟩ false t (finV false ⟨ti,[],fn.ntmps⟩ fn.results.toList ret (fun _=>[])) acc0 (.c (bodyOf fn) []) ⟨initFr args 0,[]⟩:=by kernel_rfl):
  Con P k args t.den ret:=⟨callable_of hf h3,fun _ hy=>(pcall_tr hf hI t h1 h2 (t.of_den hy rfl)).noH⟩
theorem conD{ret:Y→PV}(hf:P.funcs[k]? = some fn)(hI:TIok P ti)(t:Tr P Y)
  (h1:(fn.body.isSome,Nat.ble args.length fn.ntmps)=(true,true):=by kernel_rfl)(h3:(fn.body.isNone,fn.name == "runtime.NumGoroutine")=(false,false):=by kernel_rfl)
  (h2:chk P ⟨ti,[],fn.ntmps⟩ true t (finV true ⟨ti,[],fn.ntmps⟩ fn.results.toList ret (fun _=>[])) acc0 (.c (bodyOf fn) []) ⟨initFr args 0,[]⟩=chk P ⟨ti,[],fn.ntmps⟩ false t (finV false ⟨ti,[],fn.ntmps⟩ fn.results.toList ret (fun _=>[])) acc0 (.c (bodyOf fn) []) ⟨initFr args 0,[]⟩:=by kernel_rfl):
  Con P k args (Det t) ret:=⟨callable_of hf h3,fun _ hy=>(pcall_tr hf hI t h1 h2 (Det.ok hy)).noH⟩
def kerase{K:Type}[MKey K](l:List K)(k:K):List K:=l.erase k
variable {A R:Type}
noncomputable def fixN {C:A→Option R→Prop}(c0:∀ a,C a none)(B:{f:A→Option R // ∀ a,C a (f a)}→A→Tr P R)(ok:∀ f a,C a (B f a).den):Nat→{f:A→Option R // ∀ a,C a (f a)}
 | 0=>⟨fun _=>none,c0⟩
 | n+1=>⟨fun a=>(B (fixN c0 B ok n) a).den,ok _⟩
noncomputable def fixF {C:A→Option R→Prop}(c0:∀ a,C a none)(B:{f:A→Option R // ∀ a,C a (f a)}→A→Tr P R)(ok:∀ f a,C a (B f a).den)(a:A):Option R:=Lim fun n=>(fixN c0 B ok n).1 a
theorem fixF_ok{C:A→Option R→Prop}(c0:∀ a,C a none)(B:{f:A→Option R // ∀ a,C a (f a)}→A→Tr P R)(ok:∀ f a,C a (B f a).den)(a:A):C a (fixF c0 B ok a):=by
 unfold fixF Lim
 split
 ·rename_i h
  obtain⟨n,hn⟩:=h.choose_spec
  rw[←hn]
  exact(fixN c0 B ok n).2 a
 ·exact c0 a
end
end Go.PL
