/-
  Parts: Plain law of patterns: the examples hold. Own work. Plain law of PatternBack: both do the same from then on; for all arguments. Own work.
-/
import Derived.Test.YtjefblkdnolgaaaGreatDoorMh
namespace Go.PL
open Go
set_option linter.unusedVariables false
set_option maxRecDepth 20000
theorem exPq{a l a':List GDelta}(cl:Int)(m:KP)(h:exL a)(hc:cons a=a)(hp:∀ d,d∈a→d.N=1)(hla:a.length≤900)(hl:exL l)(hll:l.length≤1000)(e:cons (a++l)=a')(h':exL a')(hc':cons a'=a')(hp':∀ d,d∈a'→d.N=1)(hla':a'.length≤900)
  (hQ:QInv vP a (-1-(vP.Size-1)) m):G315s0 0 l [] vP cl m=some (pushR [] vP a l,pushP vP (cons l) m)∧QInv vP a' (-1-(vP.Size-1)) (pushP vP (cons l) m):=by
 have A:=exA h hc (exN hp) hla
 have A':=exA h' hc' (exN hp') hla'
 have hpos:∀ d,d∈l→(-1:Int)<d.Time:=fun d hd=>by
  have:=((exI hl).t d hd).1; omega
 subst e
 refine⟨push_eq 0 cl vP_ok A (exEv h) (exI hl) hll hpos (by omega) A' (exEv h') hQ,?_⟩
 exact hQ.push A.can (exI hl).n fun d hd=>decT (by have:=hpos d hd; show -1-(10-1)<d.Time; omega)
theorem QInv.empty{n:GNode}{a:List GDelta}{t:Int}{m:KP}(h:QInv n a t m)(h0:a.filter (aft t)=[]):m=[]:=h.mp.ext .nil fun k=>by
 rw[h.val,h0]; rfl
theorem G311_eq:G311=some true:=by
 have one:∀ (l:List GDelta),(∀ d,d∈l→d=p3∨d=p4∨d=p5∨d=p8)→∀ d,d∈l→d.N=1:=fun l h d hd=>by
  rcases h d hd with rfl | rfl | rfl | rfl <;> rfl
 have n0:∀ d,d∈([]:List GDelta)→d.N=1:=fun d hd=>by simp at hd
 have n1:=one [p3] (by simp)
 have n2:=one [p3,p5,p8] (by simp)
 have n3:=one [p3,p4,p5,p8] (by simp)
 have c0:cons ([]:List GDelta)=[]:=rfl
 have c1:cons [p3]=[p3]:=by kernel_rfl
 have c58:cons [p5,p8]=[p5,p8]:=by kernel_rfl
 have c4:cons [p4]=[p4]:=by kernel_rfl
 have c2:cons [p3,p5,p8]=[p3,p5,p8]:=by kernel_rfl
 have c3:cons [p3,p4,p5,p8]=[p3,p4,p5,p8]:=by kernel_rfl
 have e2:cons ([p3]++[p5,p8])=[p3,p5,p8]:=c2
 have e3:cons ([p3,p5,p8]++[p4])=[p3,p4,p5,p8]:=by kernel_rfl
 obtain⟨g1,Q1⟩:=exPq (-1) [] nil_ex c0 n0 (by simp) ex1 (by simp) (by exact c1) ex1 c1 n1 (by simp) (.init vP _)
 obtain⟨g2,Q2⟩:=exPq (-1) (pushP vP (cons [p3]) []) ex1 c1 n1 (by simp) ex58 (by simp) e2 exB c2 n2 (by simp) Q1
 obtain⟨g3,Q3⟩:=exPq (-1) (pushP vP (cons [p5,p8]) (pushP vP (cons [p3]) [])) exB c2 n2 (by simp) ex4 (by simp) e3 exC' c3 n3 (by simp) Q2
 rw[exPush nil_ex ex1 (by simp) c1 c1 ex1,show loP [p3]=3 from rfl,show hiP vP [p3]=12 from rfl,res1]at g1
 rw[exPush ex1 ex58 (by simp) c58 e2 exB,show loP [p5,p8]=5 from rfl,show hiP vP [p5,p8]=17 from rfl,res2]at g2
 rw[exPush exB ex4 (by simp) c4 e3 exC',show loP [p4]=4 from rfl,show hiP vP [p4]=13 from rfl,res3]at g3
 have A3:=exA exC' c3 (exN n3) (by simp)
 generalize pushP vP (cons [p4]) (pushP vP (cons [p5,p8]) (pushP vP (cons [p3]) []))=m3 at g3 Q3
 generalize pushP vP (cons [p5,p8]) (pushP vP (cons [p3]) [])=m2 at g2 g3 Q2
 generalize pushP vP (cons [p3]) []=m1 at g1 g2 Q1
 have r3:=rows_eq [] (-1) Q3 A3
 have Q4:=Q3.close (t':=17-(vP.Size-1)) (by decide)
 have k4:=G314s0_eq 17 [] vP (-1) m3 vP_ok Q3.mp (fun q=>by
  rw[Q3.val]
  exact⟨A3.ok.okD.sub ofK_sub,(A3.can.filter _).filter _,Nat.le_trans (ofK_le vP q [p3,p4,p5,p8] _) (by simp)⟩) (by omega) (by omega) (by omega)
 have r4:=rows_eq [] 17 Q4 A3
 have z4:[p3,p4,p5,p8].filter (aft (17-(vP.Size-1)))=[]:=by kernel_rfl
 have m4:=Q4.empty z4
 have z3:[p3,p4,p5,p8].filter (aft (-1-(vP.Size-1)))=[p3,p4,p5,p8]:=by kernel_rfl
 rw[z3,show W (wt all1 [p3,p4,p5,p8])=4 from rfl]at r3
 rw[z4,show W (wt all1 [])=0 from rfl]at r4
 have x1:G335 1=some (isE 1):=rfl
 have x2:G335 2=some (isE 2):=rfl
 have y3:G336 3 7 1=some p3:=rfl
 have y5:G336 5 7 2=some p5:=rfl
 have y8:G336 8 7 2=some p8:=rfl
 have y4:G336 4 7 1=some p4:=rfl
 have w1:G337 5 3 2 1=some (rP 5 3 2 1):=rfl
 have w2:G337 8 3 3 1=some (rP 8 3 3 1):=rfl
 have w3:G337 5 3 2 (-1)=some (rP 5 3 2 (-1)):=rfl
 have w4:G337 5 4 2 1=some (rP 5 4 2 1):=rfl
 have w5:G337 8 3 3 (-1)=some (rP 8 3 3 (-1)):=rfl
 have w6:G337 8 4 3 1=some (rP 8 4 3 1):=rfl
 have okr:∀ t i r n,okR (rP t i r n):=fun t i r n=>by show 3≤1073741824; omega
 have s2:=G20_self [rP 5 3 2 1,rP 8 3 3 1] (fun x hx=>by rcases List.mem_cons.1 hx with rfl | hx; · exact okr _ _ _ _
                                                         ·rw[List.mem_singleton.1 hx]; exact okr _ _ _ _) (by simp)
 have s3:=G20_self [rP 5 3 2 (-1),rP 5 4 2 1,rP 8 3 3 (-1),rP 8 4 3 1] (fun x hx=>by
  simp only[List.mem_cons,List.not_mem_nil,or_false]at hx
  rcases hx with rfl | rfl | rfl | rfl <;> exact okr _ _ _ _) (by simp)
 have hv:GNode.mk 8 ([]:List Int) ⟨#[]⟩ 0 ([]:List Expr) 0 10 0 [0] ([]:List Int) 0 0 0 ([]:List GAgg) [GPat.mk (isE 1) 0,GPat.mk (isE 2) 1] ([]:List GCol)=vP:=rfl
 have t4:=G321s0_eq [] vP 17 (closeP (17-(vP.Size-1)) m3)
 rw[m4]at t4 r4 k4
 unfold G311 T311
 simp only[Tr.den,x1,x2,Option.bind_some,hv,G313s0_eq,y3,y5,y8,y4,g1,g2,g3,r3,k4,r4,w1,w2,w3,w4,w5,w6,s2,s3,t4]
 rfl
structure BI (n:GNode)(ta:List Int)(rest:List GAct_errataref31)(k:Nat)(m:KP)(c:Int)(a:List GDelta):Prop where
 c1:-1≤c
 c2:c≤2199023255552
 A:AOk n ta a
 len:a.length≤8*k
 z:okZ a
 q:QInv n a (c-(n.Size-1)) m
 f:FitsP ta rest a c
theorem BI.start{n:GNode}{ta:List Int}{rest:List GAct_errataref31}(h:FitsP ta rest [] (-1)):BI n ta rest 0 [] (-1) []:=
 ⟨by omega,by omega,.nil n ta,by simp,fun d hd=>(by cases hd),.init n _,h⟩
section
variable {fs:List GFunc} {n:GNode} {ta:List Int} {x:GAct_errataref31} {rest:List GAct_errataref31} {k:Nat} {m:KP} {c:Int} {a:List GDelta}
theorem BI.okv(h:BI n ta (x::rest) k m c a):∀ q,okD (valP m q)∧Can (valP m q)∧(valP m q).length≤1000000:=fun q=>by
 rw[h.q.val]
 exact⟨h.A.ok.okD.sub ofK_sub,(h.A.can.filter _).filter _,by have:=ofK_le n q a (c-(n.Size-1)); have:=h.A.len; omega⟩
theorem BI.close(hP:okPn n)(h:BI n ta (x::rest) k m c a)(hx:isCp x=true):∃ m2 c2,G314s0 x.C fs n c m=some (m2,c2)∧BI n ta rest (k+1) m2 c2 a:=by
 obtain⟨hC,hF'⟩:=h.f.1 hx
 have hc1:=h.c1
 have hc2:=h.c2
 have hal:=h.len
 by_cases hle:x.C>c
 ·rw[if_pos hle]at hF'
  exact⟨_,_,G314s0_eq _ fs n c m hP h.q.mp h.okv (by omega) (by omega) hC,by omega,hC,h.A,by omega,h.z,h.q.close (by omega),hF'⟩
 ·rw[if_neg hle]at hF'
  exact⟨_,_,G314s0_old _ fs n c m (by omega),hc1,hc2,h.A,by omega,h.z,h.q,hF'⟩
theorem BI.push(hR:RightP fs n ta)(hl:okL 104 okGFunc fs)(hn:okGNode n)(h:BI n ta (x::rest) k m c a)(hk:k≤100)(hx:isCp x=false)(hok:okL 40 okGDelta x.L):
  ∃ r m2,G315s0 0 x.L fs n c m=some (r,m2)∧okD r∧r.length≤3000000000∧BI n ta rest (k+1) m2 c (cons (a++x.L)):=by
 obtain⟨hL,hD,hPs,hF'⟩:=h.f.2 hx
 have hP:=hR.pn
 have hc1:=h.c1
 have hal:=h.len
 have hA:=h.A
 have hIL:okI n 0 x.L:=okI_pat hR hok (fun d hd=>(hD d hd).2.2.2.1) (fun d hd=>⟨(hD d hd).2.1,(hD d hd).2.2.1⟩)
 have hA':AOk n ta (cons (a++x.L)):=hA.push hIL (fun d hd=>(hD d hd).2.2.2.1) (by omega) hPs
 have hcl:=cons_len (a++x.L)
 rw[List.length_append]at hcl
 have hz:=hP.size
 have hlen2:(cons (a++x.L)).length≤8*(k+1):=by omega
 obtain⟨o1,o2⟩:=pushR_ok (fs:=fs) hP hA hIL (by omega) hA'
 refine⟨_,_,push_eq (fs:=fs) 0 c hP hA (hR.ev hl hn hA.sm) hIL (by omega) (fun d hd=>(hD d hd).1) hc1 hA' (hR.ev hl hn hA'.sm) h.q,o1,o2,hc1,h.c2,hA',hlen2,
  (h.z.app (okZ_pat hR.la hok fun d hd=>(hD d hd).2.2.2.1)).cons,h.q.push hA.can hIL.n (fun d hd=>decT (by have:=(hD d hd).1; omega)),hF'⟩
end
theorem runBack(fs:List GFunc)(n:GNode)(ta:List Int)(pre post:List GAct_errataref31)(hl:okL 104 okGFunc fs)(hn:okGNode n)(hok:∀ x,x∈pre→okL 40 okGDelta x.L)(hR:RightP fs n ta)(hlen:pre.length≤25)(hF:FitsP ta (pre++post) [] (-1)):
  Sp (G319s0 pre fs n (-1) []) (fun z=>∃ a,BI n ta post pre.length z.2.1 z.2.2 a):=by
 have hP:=hR.pn
 unfold G319s0 T319s0
 simp only[Tr.den]
 refine Sq.bind (fun z=>∃ m c r a,z = .inl (m,c,r)∧BI n ta post pre.length m c a) ?_ fun z hz'=>?_
 ·refine sq_count (fun s:KP×Int×List GDelta×Int=>s.2.2.2) pre.length (by omega)
   (fun s=>(∃ a,BI n ta (pre.drop s.2.2.2.toNat++post) s.2.2.2.toNat s.1 s.2.1 a)∧okD s.2.2.1∧s.2.2.1.length≤s.2.2.2.toNat*3000000000) (fun s k hI hk hkN=>?_)
   ⟨⟨[],by simpa using BI.start hF⟩,.nil,by simp⟩ rfl
  obtain⟨m,c,r,v⟩:=s
  obtain⟨⟨a,hB⟩,hr,hrl⟩:=hI
  simp only at hk hB hr hrl
  subst hk
  simp only[Int.toNat_natCast]at hB hrl
  unfold T319s0_L0
  simp only[Tr.den,Int.toNat_natCast]
  by_cases hc:k<pre.length
  ·rw[drop_getD hc,List.cons_append]at hB
   rw[if_pos (decT (by omega)),if_pos (by omega)]
   refine Sq.bind (fun z=>∃ m2 c2 r2 a2,z=(m2,c2,r2)∧BI n ta (pre.drop (k+1)++post) (k+1) m2 c2 a2∧okD r2∧r2.length≤(k+1)*3000000000) ?_ (fun z hz'=>?_)
   ·refine sq_iteB (fun h3=>?_) (fun h3=>?_)
    ·obtain⟨m2,c2,e,hB2⟩:=hB.close (fs:=fs) hP h3
     rw[if_pos (by omega),e]
     simp only[Option.bind_some]
     exact sq_some.2 ⟨_,_,_,_,rfl,hB2,hr,Nat.le_trans hrl (Nat.mul_le_mul_right _ (Nat.le_succ k))⟩
    ·obtain⟨r1,m2,e,o1,o2,hB2⟩:=hB.push hR hl hn (by omega) h3 (hok _ (getD_mem hc))
     have hmul:k*3000000000≤25*3000000000:=Nat.mul_le_mul_right _ (by omega)
     rw[if_pos (by omega),e]
     simp only[Option.bind_some]
     have hcl:=cons_len (r++r1)
     rw[List.length_append]at hcl
     rw[G12_eq _ _ hr o1 (by omega)]
     simp only[Option.bind_some]
     exact sq_some.2 ⟨_,_,_,_,rfl,hB2,(hr.app o1).cons,by omega⟩
   ·obtain⟨m2,c2,r2,a2,rfl,hB2,hr2,hrl2⟩:=hz'
    refine sq_some.2 ⟨rfl,hc,⟨a2,?_⟩,hr2,?_⟩
    ·simp only; rw[wrap_inc (by omega),Int.toNat_natCast]; exact hB2
    ·simp only; rw[wrap_inc (by omega),Int.toNat_natCast]; exact hrl2
  ·rw[if_neg (decF (by omega))]
   rw[List.drop_of_length_le (by omega),List.nil_append,show k=pre.length by omega]at hB
   exact sq_some.2 ⟨_,_,_,_,rfl,hB⟩
 ·obtain⟨m,c,r,a,rfl,h1⟩:=hz'
  exact sq_some.2 ⟨a,h1⟩
theorem backMain(fs:List GFunc)(n:GNode)(ta:List Int)(acts:List GAct_errataref31)(hl:okL 104 okGFunc fs)(hn:okGNode n)(hok:∀ x,x∈acts→okL 40 okGDelta x.L)(hR:RightP fs n ta)(hlen:acts.length≤25)(r1:Bool)(k0:Nat)(hk0:k0≤acts.length)
  (m0:KP)(c0:Int)(a0:List GDelta)(cx:Int)(mx:KP)(hB0:BI n ta (acts.drop k0) k0 m0 c0 a0):
  Sp (whileM (fun s=>(T308_L0 acts r1 (fs,n,-1,[]) (fs,n,cx,mx,true) s).den) (m0,m0,c0,c0,(k0:Int))) (fun z=>z = .inl ()):=by
 have hP:=hR.pn
 refine Sq.while (fun s=>∃ m c a k,s=(m,m,c,c,((k:Nat):Int))∧k≤acts.length∧BI n ta (acts.drop k) k m c a) (fun s=>acts.length-s.2.2.2.2.toNat) (fun s hs=>?_) ⟨m0,c0,a0,k0,rfl,hk0,hB0⟩
 obtain⟨m,c,a,k,rfl,hkl,hB⟩:=hs
 unfold T308_L0
 simp only[Tr.den,Int.toNat_natCast]
 by_cases hc:k<acts.length
 ·rw[drop_getD hc]at hB
  have hci:in64 c:=⟨by have:=hB.c1; omega,by have:=hB.c2; omega⟩
  rw[if_pos (decT (by omega)),if_pos (by omega)]
  refine Sq.bind (fun z=>∃ m2 c2 a2,z = .inl (m2,m2,c2,c2)∧BI n ta (acts.drop (k+1)) (k+1) m2 c2 a2) ?_ (fun z hz'=>?_)
  ·refine sq_iteB (fun h3=>?_) (fun h3=>?_)
   ·obtain⟨m2,c2,e,hB2⟩:=hB.close (fs:=fs) hP h3
    rw[if_pos (by omega),e]
    simp only[Option.bind_some]
    rw[if_pos (by omega)]
    exact sq_some.2 ⟨m2,c2,a,rfl,hB2⟩
   ·obtain⟨r1,m2,e,o1,o2,hB2⟩:=hB.push hR hl hn (by omega) h3 (hok _ (getD_mem hc))
    rw[if_pos (by omega),e]
    simp only[Option.bind_some]
    rw[if_pos (by omega),G315_10,e]
    simp only[Option.bind_some]
    rw[G26_same _ _ o1 o1 (by omega) (by omega) (.refl _)]
    simp only[Option.bind_some,Bool.not_true,Bool.false_eq_true,if_false]
    exact sq_some.2 ⟨_,_,_,rfl,hB2⟩
  ·obtain⟨m2,c2,a2,rfl,hB2⟩:=hz'
   simp only[sel]
   have hci:in64 c2:=⟨by have:=hB2.c1; omega,by have:=hB2.c2; omega⟩
   rw[G320_eq fs hB2.q hB2.A hB2.z hci]
   simp only[Option.bind_some,tl_self,Bool.false_eq_true,if_false]
   refine sq_some.2 ⟨⟨m2,c2,a2,k+1,?_,by omega,hB2⟩,?_⟩
   ·rw[wrap_inc (by omega)]
   ·simp only; rw[wrap_inc (by omega),Int.toNat_natCast]; omega
 ·rw[if_neg (decF (by omega))]
  exact sq_some.2 rfl
theorem G308_true(fs:List GFunc)(n:GNode)(ta:List Int)(acts:List GAct_errataref31)(at_:Int)(hl:okL 104 okGFunc fs)(hn:okGNode n)(ht:okL 8 inI64 ta)(hok:okL 40 okGAct_errataref31 acts)(hat:inI64 at_):G308 fs n ta acts at_=some true:=by
 unfold G308 T308
 simp only[Tr.den]
 rw[G311_eq]
 simp only[Option.bind_some]
 refine Sp.eq ?_
 refine Sq.bind _ (Sq.of (G312_sp fs n ta acts 25 (by omega) hl hn ht hok)) fun r hr=>?_
 cases r with
 | false=>exact sq_some.2 rfl
 | true=>
  obtain⟨hR,hlen,hF⟩:=hr rfl
  simp only[Bool.not_true,Bool.false_eq_true,if_false]
  by_cases h1:at_<0
  ·rw[if_pos (decT h1)]
   exact sq_some.2 rfl
  rw[if_neg (decF h1)]
  by_cases h2:at_>(acts.length:Int)
  ·rw[decide_eq_true h2]
   exact sq_some.2 rfl
  rw[decide_eq_false h2]
  simp only[Option.bind_some,Bool.false_eq_true,if_false]
  obtain⟨k0,rfl⟩:∃ k0:Nat,at_=(k0:Int):=⟨at_.toNat,by omega⟩
  have hk0:k0≤acts.length:=by omega
  rw[G313s0_eq]
  simp only[Option.bind_some]
  rw[if_pos ⟨by omega,by omega,by omega⟩]
  have hcut:((acts.drop (0:Int).toNat).take ((k0:Int)-(0:Int)).toNat)=acts.take k0:=by
   rw[show ((k0:Int)-(0:Int)).toNat=k0 by omega]; rfl
  rw[hcut]
  have hok':∀ x,x∈acts→okL 40 okGDelta x.L:=fun x hx=>(hok.2 x hx).2.2
  have htl:(acts.take k0).length=k0:=by rw[List.length_take]; omega
  refine Sq.bind _ (Sq.of (runBack fs n ta (acts.take k0) (acts.drop k0) hl hn (fun x hx=>hok' x (List.mem_of_mem_take hx)) hR (by omega) (by rw[List.take_append_drop]; exact hF))) fun z hz=>?_
  obtain⟨z1,m,c⟩:=z
  obtain⟨a,hB⟩:=hz
  simp only at hB
  rw[htl]at hB
  have hci:in64 c:=⟨by have:=hB.c1; omega,by have:=hB.c2; omega⟩
  rw[G320_eq fs hB.q hB.A hB.z hci]
  simp only[Option.bind_some]
  rw[read_eq fs hR.pn hB.q hB.A hB.z hB.c1 hB.c2]
  simp only[Option.bind_some,Bool.not_true,Bool.false_eq_true,if_false]
  refine Sq.bind _ (backMain fs n ta acts hl hn hok' hR hlen true k0 hk0 m c a c m hB) fun z hz=>?_
  subst hz
  exact sq_some.2 rfl
end Go.PL
