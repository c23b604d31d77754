/-
  Parts: Plain law of the meaning of patterns: the longest match that ends at a place, all together. Own work. Plain law of patterns: pushes add up. Own work. Plain law of the meaning of patterns: the matches of the rows of one key. Own work. Plain law of the meaning of patterns: rows by their keys. Own work. The kept part of a plain-law text (strip.py). Own work. Plain law of PatternSums: the meaning of a pattern; what was pushed; the run. Own work. Plain law of PatternSums: all together. Own work.
-/
import Derived.Test.YtjefblkdnolgaaaGreatDoorMh
namespace Go.PL
open Go
set_option linter.unusedVariables false
set_option maxRecDepth 20000
theorem firstL(n:aE)(a1:List aA)(a2:List (List Bool))(a3 v3 b0:Int)(hK:n.Seq.length≤8)(now:List Bool)(hl:now.length=n.Seq.length+1):
  Sp (cA (fun s=>(T372_L3 n a1 a2 a3 v3 s).den) (now,b0,0))
   (fun z=>∃ b,z = .inl (now,b)∧((∃ p,p<n.Seq.length∧(∀ r,r<p→eU n r=2)∧now.getD p default=true)→b=IntKind.i64.wrap (IntKind.i64.wrap (a3-v3)+1))∧((¬ ∃ p,p<n.Seq.length∧(∀ r,r<p→eU n r=2)∧now.getD p default=true)→b=b0)):=by
 refine Sq.while (fun s:List Bool×Int×Int=>s.1=now∧∃ q:Nat,s.2.2=(q:Int)∧q≤n.Seq.length∧(∀ r,r<q→eU n r=2)∧((∃ p,p<q∧now.getD p default=true)→s.2.1=IntKind.i64.wrap (IntKind.i64.wrap (a3-v3)+1))∧((¬ ∃ p,p<q∧now.getD p default=true)→s.2.1=b0))
  (fun s=>n.Seq.length+1-s.2.2.toNat) (fun s hI=>?_) ⟨rfl,0,rfl,Nat.zero_le _,fun r h=>by omega,fun⟨p,h,_⟩=>by omega,fun _=>rfl⟩
 obtain⟨v26,v27,v28⟩:=s
 obtain⟨rfl,q,hq,hq1,hr,h1,h2⟩:=hI
 simp only at hq hl h1 h2
 subst hq
 unfold T372_L3
 simp only[Tr.den,Int.toNat_natCast]
 by_cases hc:q<n.Seq.length
 ·rw[if_pos (bH (by omega)),if_pos (by omega),if_pos (by omega)]
  have key:∀ b,(b=if v26.getD q default=true then IntKind.i64.wrap (IntKind.i64.wrap (a3-v3)+1) else v27)→((∃ p,p<q+1∧v26.getD p default=true)→b=IntKind.i64.wrap (IntKind.i64.wrap (a3-v3)+1))∧((¬ ∃ p,p<q+1∧v26.getD p default=true)→b=b0):=fun b hb=>by
   by_cases hn:v26.getD q default=true
   ·rw[if_pos hn]at hb
    exact⟨fun _=>hb,fun h=>absurd ⟨q,Nat.lt_succ_self q,hn⟩ h⟩
   ·rw[if_neg hn]at hb
    refine⟨fun⟨p,h3,h4⟩=>hb.trans (h1 ⟨p,?_,h4⟩),fun h=>hb.trans (h2 fun⟨p,h3,h4⟩=>h ⟨p,by omega,h4⟩)⟩
    have:p≠q:=fun e=>hn (by rw[←e]; exact h4)
    omega
  have ej:(if v26.getD q default=true then some (v26,IntKind.i64.wrap (IntKind.i64.wrap (a3-v3)+1)) else some (v26,v27))=some (v26,if v26.getD q default=true then IntKind.i64.wrap (IntKind.i64.wrap (a3-v3)+1) else v27):=by split <;> rfl
  rw[ej]
  simp only[Option.bind_some]
  obtain⟨k1,k2⟩:=key _ rfl
  rw[if_pos (by omega)]
  by_cases hm:eU n q=2
  ·rw[if_neg (bneF hm)]
   refine aB.2 ⟨⟨rfl,q+1,aL (by omega),hc,fun r h=>?_,k1,k2⟩,by simp only; rw[aL (by omega)]; simp only[Int.toNat_natCast]; omega⟩
   by_cases e:r=q
   ·rw[e]; exact hm
   ·exact hr r (by omega)
  ·rw[if_pos (bneT hm)]
   refine aB.2 ⟨_,rfl,fun⟨p,h3,h4,h5⟩=>k1 ⟨p,?_,h5⟩,fun h=>k2 fun⟨p,h3,h4⟩=>h ⟨p,by omega,fun r h5=>hr r (by omega),h4⟩⟩
   exact Classical.byContradiction fun hge=>hm (h4 q (by omega))
 ·rw[if_neg (bK (by omega))]
  have:q=n.Seq.length:=by omega
  subst this
  exact aB.2 ⟨v27,rfl,fun⟨p,h3,_,h5⟩=>h1 ⟨p,h3,h5⟩,fun h=>h2 fun⟨p,h3,h4⟩=>h ⟨p,h3,fun r h5=>hr r (by omega),h4⟩⟩
theorem bwd_le{α:Type}{K:Nat}{rep:Nat→Int}{ok:α→Nat→Prop}{s:List α}{p:Nat}(h:Bwd K rep ok s p):p≤K:=by
 cases s with
 | nil=>exact Nat.le_of_eq h
 | cons x s=>exact Nat.le_of_lt h.1
theorem opP_acc{α:Type}{n:aE}{ok:α→Nat→Prop}{s:List α}{now:List Bool}(hB:∀ p,p≤n.Seq.length→(now.getD p default=true↔Bwd n.Seq.length (eU n) ok s p)){p:Nat}(hp:p<n.Seq.length):
  opP n now p↔(AccS n.Seq.length (eU n) ok s (p+1)∨(eU n p=1∧AccS n.Seq.length (eU n) ok s p)):=by
 constructor
 ·rintro ((h | ⟨h1,h⟩) | ⟨q,h1,h2,h3⟩)
  ·exact .inl ((acc_bwd _ _ _ s _).2 ⟨p+1,.refl _,(hB _ hp).1 h⟩)
  ·exact .inr ⟨h1,(acc_bwd _ _ _ s _).2 ⟨p,.refl _,(hB _ (by omega)).1 h⟩⟩
  ·have hq:=(h2 q h1 (Nat.le_refl q)).1
   exact .inl ((acc_bwd _ _ _ s _).2 ⟨q+1,⟨by omega,fun r h4 h5=>h2 r h4 (by omega)⟩,(hB _ (by omega)).1 h3⟩)
 ·rintro (h | ⟨h1,h⟩)
  ·obtain⟨q,hs,hb⟩:=(acc_bwd _ _ _ s _).1 h
   have hq:=bwd_le hb
   by_cases e:q=p+1
   ·subst e; exact .inl (.inl ((hB _ hq).2 hb))
   ·have:=hs.1
    refine .inr ⟨q-1,by omega,fun r h4 h5=>hs.2 r h4 (by omega),?_⟩
    rw[show q-1+1=q by omega]; exact(hB _ hq).2 hb
  ·obtain⟨q,hs,hb⟩:=(acc_bwd _ _ _ s _).1 h
   by_cases e:q=p
   ·subst e; exact .inl (.inr ⟨h1,(hB _ (by omega)).2 hb⟩)
   ·have:=hs.1
    have:=(hs.2 p (Nat.le_refl p) (by omega)).2
    omega
theorem first_acc{α:Type}{n:aE}{ok:α→Nat→Prop}{x:α}{s:List α}{now:List Bool}(hB:∀ p,p≤n.Seq.length→(now.getD p default=true↔Bwd n.Seq.length (eU n) ok (x::s) p)):
  (∃ p,p<n.Seq.length∧(∀ r,r<p→eU n r=2)∧now.getD p default=true)↔AccS n.Seq.length (eU n) ok (x::s) 0:=by
 rw[acc_bwd]
 constructor
 ·rintro⟨p,h1,h2,h3⟩
  exact⟨p,⟨Nat.zero_le p,fun r _ h=>⟨by omega,h2 r h⟩⟩,(hB p (by omega)).1 h3⟩
 ·rintro⟨p,h1,h2⟩
  have h3:p<n.Seq.length:=h2.1
  exact⟨p,h3,fun r h=>(h1.2 r (Nat.zero_le r) h).2,(hB p (by omega)).2 h2⟩
noncomputable def gpl (fs:List aF)(n:aE)(d:aA):aN:=⟨d.Time,fitU fs n d n.Seq.length⟩
def okG(fs:List aF)(n:aE)(d:aA)(p:Nat):Prop:=(evV fs (n.Seq.getD p default).Pred d).N=1
theorem isM_G{fs:List aF}{n:aE}(hn:n.Seq.length≤8)(l:List aA)(t0:Int):
  (isM aN.time_ (nxF n) (gN n) n.Size t0 (fL n 1) (l.map (gpl fs n))=true)↔(((l.map (gpl fs n)).getLastD default).time_-t0<n.Size∧AccS n.Seq.length (eU n) (okG fs n) l 0):=by
 rw[isM_acc hn (fun x q=>x.fits_.toNat.testBit q=true)]
 ·refine and_congr Iff.rfl (AccS_congr n.Seq.length (eU n) (fun (x:aN) q=>x.fits_.toNat.testBit q=true) (gpl fs n) (fun d q hq=>?_) l 0).symm
  obtain⟨a,h1,h2,h3⟩:=fitU_rp fs hn d n.Seq.length (Nat.le_refl _)
  show okG fs n d q↔(fitU fs n d n.Seq.length).toNat.testBit q=true
  rw[h1,Int.toNat_natCast,h3 q]
  exact⟨fun h=>⟨hq,h⟩,fun h=>h.2⟩
 ·intro x hx
  obtain⟨d,_,rfl⟩:=List.mem_map.1 hx
  obtain⟨a,h1,h2,h3⟩:=fitU_rp fs hn d n.Seq.length (Nat.le_refl _)
  refine⟨a,h1,h2,fun p=>?_⟩
  show _↔(fitU fs n d n.Seq.length).toNat.testBit p=true
  rw[h1,Int.toNat_natCast]
noncomputable def bstG (fs:List aF)(n:aE)(l:List aA):Int:=match bestM aN.time_ (nxF n) (gN n) n.Size (fL n 1) (l.map (gpl fs n)) with
 | some (_,m)=>m
 | none=>0
theorem bstG_cons{fs:List aF}{n:aE}(x:aA)(l:List aA):bstG fs n (x::l)=if isM aN.time_ (nxF n) (gN n) n.Size x.Time (fL n 1) ((x::l).map (gpl fs n))=true then ((x::l).length:Int) else bstG fs n l:=by
 unfold bstG
 rw[List.map_cons,bestM]
 rw[show (gpl fs n x).time_=x.Time from rfl]
 by_cases h:isM aN.time_ (nxF n) (gN n) n.Size x.Time (fL n 1) (gpl fs n x::l.map (gpl fs n))=true
 ·rw[if_pos h,if_pos h]; simp only[List.length_cons,List.length_map]
 ·rw[if_neg h,if_neg h]
structure okGd (fs:List aF)(n:aE)(P:List aA)(g:List (List Bool)):Prop where
 len:g.length=P.length
 sz:∀ i,i<P.length→(g.getD i default).length=n.Seq.length
 ok:∀ i,i<P.length→∀ p,p<n.Seq.length→((g.getD i default).getD p default=true↔okG fs n (P.getD i default) p)
theorem G372_eq{fs:List aF}{n:aE}{P:List aA}{g:List (List Bool)}(hn:n.Seq.length≤8)(hz:1≤n.Size∧n.Size≤10000)(hg:okGd fs n P g)(hs:TS P)(ht:okTm P)(hP:P.length≤1000000000){j:Nat}(hj:j<P.length):
  G372 n P g (j:Int)=some (bstG fs n (P.take (j+1))):=by
 have hL:(P.take (j+1)).length=j+1:=by rw[List.length_take]; omega
 have dk:∀ k,k≤j→(P.take (j+1)).drop k=P.getD k default::(P.take (j+1)).drop (k+1):=fun k hk=>by
  rw[bW (by omega)]
  congr 1
  rw[List.getD_eq_getElem?_getD,List.getD_eq_getElem?_getD,List.getElem?_take,if_pos (by omega)]
 have last:∀ k,k≤j→((((P.take (j+1)).drop k).map (gpl fs n)).getLastD default).time_=(P.getD j default).Time:=fun k hk=>by
  have e:(P.take (j+1)).drop k=(P.take j).drop k++[P.getD j default]:=by
   rw[aM hj,List.drop_append_of_le_length (by rw[List.length_take]; omega)]
  rw[e,List.map_append,List.map_cons,List.map_nil,snoc_last]; rfl
 refine Sp.eq ?_
 unfold G372 T372
 simp only[Tr.den,Int.toNat_natCast]
 have ew:IntKind.i64.wrap ((n.Seq.length:Int)+1)=((n.Seq.length+1:Nat):Int):=aL (by omega)
 rw[ew]
 simp only[Int.toNat_natCast]
 rw[if_pos ⟨⟨by omega,by omega⟩,by omega⟩,if_pos (by simp; omega),if_pos (by simp),if_pos (by simp)]
 refine Sq.bind (fun z=>z = .inl (bstG fs n (P.take (j+1)))) (Sq.while (fun s:List Bool×Int×Int=>∃ k:Nat,s.2.2=(k:Int)-1∧k≤j+1∧s.1.length=n.Seq.length+1 ∧
   (∀ p,p≤n.Seq.length→(s.1.getD p default=true↔Bwd n.Seq.length (eU n) (okG fs n) ((P.take (j+1)).drop k) p))∧s.2.1=bstG fs n ((P.take (j+1)).drop k)) (fun s=>(s.2.2+1).toNat) (fun s hI=>?_) ⟨j+1,by simp only; omega,Nat.le_refl _,by simp,fun p hp=>?_,?_⟩) (fun z hz=>by subst hz; exact aB.2 rfl)
 ·obtain⟨now,best,i⟩:=s
  obtain⟨k,hk,hkj,hl,hB,hb⟩:=hI
  simp only at hk hl hB hb
  subst hk hb
  unfold T372_L0
  simp only[Tr.den]
  cases k with
  | zero=>
   rw[if_neg (bK (by omega))]
   simp only[Option.bind_some,Bool.false_eq_true,if_false]
   exact aB.2 rfl
  | succ k=>
   have e1:((k+1:Nat):Int)-1=(k:Int):=by omega
   rw[e1,if_pos (bH (by omega))]
   simp only[Int.toNat_natCast]
   have t1:=ht _ (aQ hj)
   have t2:=ht _ (aQ (show k<P.length by omega))
   have ewr:IntKind.i64.wrap ((P.getD j default).Time-(P.getD k default).Time)=(P.getD j default).Time-(P.getD k default).Time:=bR (by omega) (by omega)
   rw[if_pos (by omega),if_pos (by omega)]
   simp only[Option.bind_some]
   by_cases hc:IntKind.i64.wrap ((P.getD j default).Time-(P.getD k default).Time)<n.Size
   ·rw[if_pos (bH hc),ew]
    rw[ewr]at hc
    simp only[Int.toNat_natCast]
    rw[if_pos ⟨⟨by omega,by omega⟩,by omega⟩]
    refine Sq.bind _ (Sq.of (nextL n P g (j:Int) (bstG fs n ((P.take (j+1)).drop (k+1))) k (by rw[hg.len]; omega) hn now hl (hg.sz k (by omega)))) (fun z hz=>?_)
    obtain⟨nx,rfl,hnl,hnx⟩:=hz
    simp only[sel]
    have hB':∀ p,p≤n.Seq.length→(nx.getD p default=true↔Bwd n.Seq.length (eU n) (okG fs n) ((P.take (j+1)).drop k) p):=fun p hp=>by
     rw[hnx p hp,dk k (by omega)]
     constructor
     ·rintro⟨h1,h2,h3⟩
      exact⟨h1,(hg.ok k (by omega) p h1).1 h3,(opP_acc hB h1).1 h2⟩
     ·rintro⟨h1,h2,h3⟩
      exact⟨h1,(opP_acc hB h1).2 h3,(hg.ok k (by omega) p h1).2 h2⟩
    refine Sq.bind _ (Sq.of (firstL n P g (j:Int) (k:Int) (bstG fs n ((P.take (j+1)).drop (k+1))) hn nx hnl)) (fun z hz=>?_)
    obtain⟨b,rfl,hb1,hb2⟩:=hz
    simp only[sel]
    refine aB.2 ⟨⟨k,?_,by omega,hnl,hB',?_⟩,?_⟩
    ·simp only; rw[bR (by omega) (by omega)]
    ·simp only
     have hA:=first_acc (s:=(P.take (j+1)).drop (k+1)) (x:=P.getD k default) (ok:=okG fs n) (n:=n) (now:=nx) (by rw[←dk k (by omega)]; exact hB')
     have hM:=isM_G (fs:=fs) hn ((P.take (j+1)).drop k) (P.getD k default).Time
     rw[last k (by omega)]at hM
     rw[dk k (by omega)]at hM ⊢
     rw[bstG_cons]
     by_cases hp:∃ p,p<n.Seq.length∧(∀ r,r<p→eU n r=2)∧nx.getD p default=true
     ·rw[hb1 hp,if_pos (hM.2 ⟨hc,hA.1 hp⟩),bR (n:=(j:Int)-(k:Int)) (by omega) (by omega),bR (by omega) (by omega),List.length_cons,List.length_drop,hL]
      omega
     ·rw[hb2 hp,if_neg fun h=>hp (hA.2 (hM.1 h).2)]
    ·simp only; rw[bR (by omega) (by omega)]; omega
   ·rw[if_neg (bK hc)]
    rw[ewr]at hc
    refine aB.2 ?_
    show Sum.inl _=_
    congr 1
    have hkj':k<j:=by
     refine Classical.byContradiction fun h=>hc ?_
     have:k=j:=by omega
     rw[this]; omega
    unfold bstG
    have e2:(P.take (j+1)).map (gpl fs n)=((P.take (j+1)).take (k+1)).map (gpl fs n)++((P.take (j+1)).drop (k+1)).map (gpl fs n):=by
     rw[←List.map_append,List.take_append_drop]
    rw[e2,bestM_loc]
    ·intro h
     have h:=congrArg List.length h
     rw[List.length_map,List.length_drop,hL,List.length_nil]at h
     omega
    ·intro x hx
     obtain⟨d,hd,rfl⟩:=List.mem_map.1 hx
     rw[last (k+1) (by omega)]
     obtain⟨i,hi,rfl⟩:=List.getElem_of_mem hd
     rw[List.length_take,hL]at hi
     have e3:((P.take (j+1)).take (k+1))[i]=P.getD i default:=by
      rw[List.getElem_take,List.getElem_take,cH]
     rw[e3]
     have h4:=hs.get (i:=i) (j:=k) (by omega) (by omega)
     show ¬ ((P.getD j default).Time-(P.getD i default).Time<n.Size)
     omega
 ·have e3:(P.take (j+1)).drop (j+1)=[]:=List.drop_eq_nil_of_le (by omega)
  rw[e3,getD_set]
  show _↔p=n.Seq.length
  by_cases h:p=n.Seq.length
  ·rw[if_pos ⟨h,by simp⟩]; exact⟨fun _=>h,fun _=>rfl⟩
  ·rw[if_neg (fun h'=>h h'.1)]
   refine⟨fun h'=>?_,fun h'=>absurd h' h⟩
   rw[List.getD_eq_getElem?_getD,List.getElem?_replicate]at h'
   split at h' <;> cases h'
 ·have e3:(P.take (j+1)).drop (j+1)=[]:=List.drop_eq_nil_of_le (by omega)
  rw[e3]; rfl
theorem wt_negs(p:Pl→Bool):∀ l:List aA,W (wt p (l.map neg))=W (- wt p l)
 | []=>rfl
 | x::l=>by
  have ih:=wt_negs p l
  rw[List.map_cons,wt,wt]
  rw[show pl (neg x)=pl x from rfl,show (neg x).N=W (0-x.N) from rfl,Int.neg_add]
  refine iS ?_ ih
  by_cases h:p (pl x)=true
  ·rw[if_pos h,if_pos h,W_W,Int.zero_sub]
  ·rw[if_neg h,if_neg h]; rfl
theorem cons_flt{l:List aA}(hl:okN l)(q:Pl→Bool):cons (l.filter fun d=>q (pl d))=(cons l).filter fun d=>q (pl d):=
 cons_eq ((dB hl).filter _) (fun x hx=>hl x (List.mem_filter.1 hx).1) ((dC l).filter q)
theorem seg_push{x part:List aA}{a b:Int}(hx:Can x)(hp:okN part)(h:∀ d,d∈part→¬ (a≤d.Time∧d.Time<b)):seg a b (cons (x++part))=seg a b x:=by
 have hN:okN (x++part):=fun d hd=>(List.mem_append.1 hd).elim (hx.n64 d) (hp d)
 have e:=cons_flt hN (fun q:Pl=>decide (a≤q.1)&&decide (q.1<b))
 have e1:(x++part).filter (fun d=>decide (a≤(pl d).1)&&decide ((pl d).1<b))=seg a b x:=by
  rw[List.filter_append]
  have:part.filter (fun d=>decide (a≤(pl d).1)&&decide ((pl d).1<b))=[]:=List.filter_eq_nil_iff.2 fun d hd h'=>h d hd (by
   rw[Bool.and_eq_true,decide_eq_true_eq,decide_eq_true_eq]at h'
   exact h')
  rw[this,List.append_nil]; rfl
 rw[e1,cons_id (show Can (seg a b x) from hx.filter _)]at e
 exact e.symm
noncomputable def matA (fs:List aF)(n:aE)(l:List aA):List aA:=eI n (fX n (l.getD 0 default).Row) 0 [] (plA fs n l)
theorem matA_key{fs:List aF}{n:aE}{l:List aA}{key:List aC}(h:∀ d,d∈l→fX n d.Row=key):matA fs n l=eI n key 0 [] (plA fs n l):=by
 by_cases hl:l=[]
 ·subst hl; rfl
 ·unfold matA
  rw[h _ (aQ (List.length_pos_iff.2 hl))]
theorem chg_mat{fs:List aF}{n:aE}{x part:List aA}{key:List aC}(hn:okPn n)(hx:Can x)(hxt:okTm x)(hp:Can part)(hpt:okTm part)(hne:part≠[])(hkx:∀ d,d∈x→fX n d.Row=key)(hkp:∀ d,d∈part→fX n d.Row=key)(p:Pl→Bool):
  wt p (matF fs n (cons (x++part)) (loP part) (hiP n part))-wt p (matF fs n x (loP part) (hiP n part))=wt p (matA fs n (cons (x++part)))-wt p (matA fs n x):=by
 have hN:okN (x++part):=fun d hd=>(List.mem_append.1 hd).elim (hx.n64 d) (hp.n64 d)
 have hy:=dB hN
 have hpos:=List.length_pos_iff.2 hne
 have src:∀ d,d∈cons (x++part)→(0≤d.Time∧d.Time≤2199023255552)∧fX n d.Row=key:=fun d hd=>by
  obtain⟨z,hz,e⟩:=gO hd
  have e1:d.Time=z.Time:=congrArg Prod.fst e
  have e2:d.Row=z.Row:=congrArg Prod.snd e
  rw[e1,e2]
  exact(List.mem_append.1 hz).elim (fun h=>⟨hxt z h,hkx z h⟩) (fun h=>⟨hpt z h,hkp z h⟩)
 have h0:0≤loP part:=(hpt _ (aQ hpos)).1
 have h1:loP part≤(part.getD (part.length-1) default).Time:=hp.ts.get (by omega) (by omega)
 have h2:=(hpt _ (aQ (show part.length-1<part.length by omega))).2
 have hr:∀ d,d∈part→loP part≤d.Time∧d.Time≤(part.getD (part.length-1) default).Time:=fun d hd=>by
  obtain⟨i,hi,rfl⟩:=List.getElem_of_mem hd
  have q1:=hp.ts.get (i:=0) (j:=i) (by omega) hi
  have q2:=hp.ts.get (i:=i) (j:=part.length-1) (by omega) (by omega)
  rw[←cH hi]
  exact⟨q1,q2⟩
 have sz:=hn.size
 rw[matF_outP hy.ts fun d hd=>(src d hd).2,matF_outP hx.ts hkx,matA_key fun d hd=>(src d hd).2,matA_key hkx]
 have eh:hiP n part=(part.getD (part.length-1) default).Time+n.Size-1:=rfl
 rw[eh,mat_split (lo:=loP part) (last:=(part.getD (part.length-1) default).Time) sz hy.ts (fun d hd=>(src d hd).1) h0 h1 h2,
  mat_split (x:=x) (lo:=loP part) (last:=(part.getD (part.length-1) default).Time) sz hx.ts hxt h0 h1 h2]
 rw[seg_push (a:=0) hx hp.n64 (fun d hd h=>by have:=hr d hd; omega),seg_push (a:=(part.getD (part.length-1) default).Time+1) hx hp.n64 (fun d hd h=>by have:=hr d hd; omega),
  seg_push (a:=(part.getD (part.length-1) default).Time+n.Size) hx hp.n64 (fun d hd h=>by have:=hr d hd; omega)]
 rw[dG,dG,dG,dG]
 omega
theorem chgK_wt{fs:List aF}{n:aE}{x part:List aA}{key:List aC}(hn:okPn n)(hx:Can x)(hxt:okTm x)(hp:Can part)(hpt:okTm part)(hne:part≠[])(hkx:∀ d,d∈x→fX n d.Row=key)(hkp:∀ d,d∈part→fX n d.Row=key)(p:Pl→Bool):
  W (wt p (chgK fs n x part))=W (wt p (matA fs n (cons (x++part)))-wt p (matA fs n x)):=by
 rw[←chg_mat hn hx hxt hp hpt hne hkx hkp p]
 unfold chgK
 rw[dC _ p,dG]
 exact(iS rfl (wt_negs p _)).trans (congrArg W (by omega))
theorem sumK_W{f g:ByteArray→Int}{ks:List ByteArray}(h:∀ k,k∈ks→W (f k)=W (g k)):W (eT f ks)=W (eT g ks):=by
 induction ks with
 | nil=>rfl
 | cons k ks ih=>exact iS (h k List.mem_cons_self) (ih fun k' hk=>h k' (List.mem_cons_of_mem _ hk))
theorem sumK_app(f:ByteArray→Int):∀ a b:List ByteArray,eT f (a++b)=eT f a+eT f b
 | [],b=>by simp[eT]
 | k::a,b=>by rw[List.cons_append,eT,eT,sumK_app f a b]; omega
theorem sumK_ext{f:ByteArray→Int}{ks ks':List ByteArray}(h:ks.Nodup)(h':ks'.Nodup)(hs:∀ k,k∈ks'→k∈ks)(h0:∀ k,k∉ks'→f k=0):eT f ks'=eT f ks:=by
 classical
 have hp:ks.Perm (ks'++ks.filter fun k=>!decide (k∈ks')):=by
  refine(List.perm_ext_iff_of_nodup h (List.nodup_append.2 ⟨h',h.filter _,fun a ha b hb e=>?_⟩)).2 fun k=>?_
  ·subst e
   have:=(List.mem_filter.1 hb).2
   rw[decide_eq_true ha]at this
   exact absurd this (by decide)
  ·rw[List.mem_append,List.mem_filter]
   by_cases hk:k∈ks'
   ·simp[hk,hs k hk]
   ·simp[hk]
 rw[sumK_perm f hp,sumK_app]
 have:eT f (ks.filter fun k=>!decide (k∈ks'))=0:=by
  refine(gH (g:=fun _=>0) fun k hk=>h0 k (by
   have:=(List.mem_filter.1 hk).2
   intro hk'
   rw[decide_eq_true hk']at this
   exact absurd this (by decide))).trans (sumK_zero _)
 omega
theorem sumK_sub(f g:ByteArray→Int)(ks:List ByteArray):eT (fun k=>f k-g k) ks=eT f ks-eT g ks:=by
 induction ks with
 | nil=>rfl
 | cons k ks ih=>simp only[eT,ih]; omega
noncomputable def phiK (fs:List aF)(n:aE)(ks:List ByteArray)(p:Pl→Bool)(a:List aA):Int:=eT (fun k=>wt p (matA fs n (ofK n 0 k a))) ks
theorem phiK_nil(fs:List aF)(n:aE)(ks:List ByteArray)(p:Pl→Bool):phiK fs n ks p []=0:=by
 unfold phiK
 exact(gH (g:=fun _=>0) fun k _=>rfl).trans (sumK_zero _)
theorem keyP_of{n:aE}{k:ByteArray}{a b:List aA}{x:aA}(hx:x∈ofK n 0 k b):∀ d,d∈ofK n 0 k a→fX n d.Row=fX n x.Row:=fun d hd=>rowB_inj ((dF.1 hd).2.trans (dF.1 hx).2.symm)
theorem push_phi{fs:List aF}{n:aE}{a l:List aA}{ks:List ByteArray}(hn:okPn n)(ha:Can a)(hai:okI n 0 a)(hl:okI n 0 l)(hks:ks.Nodup)(hc:∀ d,d∈l→kd n 0 d∈ks)(p:Pl→Bool):
  W (wt p (pushR fs n a l))=W (phiK fs n ks p (cons (a++l))-phiK fs n ks p a):=by
 have e2:∀ k,cons (ofK n 0 k a++ofK n 0 k (cons l))=ofK n 0 k (cons (a++l)):=fun k=>by
  have:=ofK_push (n:=n) (i:=0) (k:=k) ha hl.n (fun d hd=>show aft (-1) d=true from bH (by have:=(hl.t d hd).1; omega))
  rwa [aft_low hai (by omega),aft_low (hai.app hl).cons (by omega)]at this
 unfold pushR
 rw[dC _ p,wt_flat,←sumK_map]
 rw[sumK_W (g:=fun k=>wt p (matA fs n (ofK n 0 k (cons (a++l))))-wt p (matA fs n (ofK n 0 k a))) fun k hk=>?_]
 ·congr 1
  unfold phiK
  rw[←sumK_sub]
  refine sumK_ext hks ((groupM_mc n 0 _).nodup LO.bytes) (fun k hk=>?_) fun k hk=>?_
  ·have hne:=eV.1 hk
   obtain⟨z,hz,e⟩:=gO (dF.1 (aQ (List.length_pos_iff.2 hne))).1
   have h1:=(dF.1 (aQ (List.length_pos_iff.2 hne))).2
   have e3:((ofK n 0 k (cons l)).getD 0 default).Row=z.Row:=congrArg Prod.snd e
   have h2:kd n 0 z=k:=by rw[←h1]; show keyB n 0 z.Row=keyB n 0 _; rw[e3]
   rw[←h2]
   exact hc z hz
  ·have h0:ofK n 0 k (cons l)=[]:=Classical.byContradiction fun h=>hk (eV.2 h)
   have h1:=e2 k
   rw[h0,List.append_nil,cons_id (show Can (ofK n 0 k a) from ha.filter _)]at h1
   rw[←h1]; omega
 ·have hne:=eV.1 hk
  have hx:=aQ (List.length_pos_iff.2 hne)
  have:=chgK_wt (fs:=fs) (p:=p) hn (x:=ofK n 0 k a) (part:=ofK n 0 k (cons l)) (ha.filter _) (ofK_okI hai).t ((dB hl.n).filter _) (ofK_okI hl.cons).t hne (keyP_of hx) (keyP_of hx)
  rw[e2 k]at this
  exact this
theorem cons_cons_app{a l:List aA}(ha:okN a)(hl:okN l):cons (cons a++l)=cons (a++l):=by
 have h1:okN (a++l):=fun x hx=>(List.mem_append.1 hx).elim (ha x) (hl x)
 refine cons_eq (dB h1) (fun x hx=>(List.mem_append.1 hx).elim ((dB ha).n64 x) (hl x)) ?_
 exact(dC _).trans (eH.app (dC a).symm (.refl l))
theorem G365_eq(row:List aC)(n:aE)(hc:okCols n.Key row)(hl:n.Key.length≤1000):G365 row n.Key=some (fX n row):=by
 unfold G365 T365
 simp only[Tr.den]
 rw[if_pos ⟨⟨by omega,by rw[bR (by omega) (by omega)]; omega⟩,by rw[bR (by omega) (by omega)]; omega⟩]
 have h1:=bO (bd:=fun s=>(T365_L0 row n.Key s).den) (fun k=>((n.Key.take k).map fun c=>row.getD c.toNat default,(k:Int))) n.Key.length (r:=.inl (fX n row)) (fun k hk=>?_) ?_
 ·exact(congrArg (fun x=>Option.bind x _) h1).trans rfl
 ·unfold T365_L0
  simp only[Tr.den,Int.toNat_natCast]
  have hm:=hc _ (aQ hk)
  rw[if_pos (bH (by omega)),if_pos (by omega),if_pos (by omega),if_pos (by simp only[List.length_map,List.length_take,List.length_singleton]; omega),aL (by omega),aM hk,List.map_append]
  rfl
 ·unfold T365_L0
  simp only[Tr.den]
  rw[if_neg (bK (by omega)),List.take_length]; rfl
theorem G365s0_eq(row:List aC)(n:aE)(hc:okCols n.Key row)(hl:n.Key.length≤1000):G365s0 row n.Key=some (fX n row):=by
 unfold G365s0 T365s0
 simp only[Tr.den]
 rw[if_pos ⟨⟨by omega,by rw[bR (by omega) (by omega)]; omega⟩,by rw[bR (by omega) (by omega)]; omega⟩]
 have h1:=bO (bd:=fun s=>(T365s0_L0 row n.Key s).den) (fun k=>((n.Key.take k).map fun c=>row.getD c.toNat default,(k:Int))) n.Key.length (r:=.inl (fX n row)) (fun k hk=>?_) ?_
 ·exact(congrArg (fun x=>Option.bind x _) h1).trans rfl
 ·unfold T365s0_L0
  simp only[Tr.den,Int.toNat_natCast]
  have hm:=hc _ (aQ hk)
  rw[if_pos (bH (by omega)),if_pos (by omega),if_pos (by omega),if_pos (by simp only[List.length_map,List.length_take,List.length_singleton]; omega),aL (by omega),aM hk,List.map_append]
  rfl
 ·unfold T365s0_L0
  simp only[Tr.den]
  rw[if_neg (bK (by omega)),List.take_length]; rfl
theorem G345_eq(b:Bool):G345 b=some (vB b):=by cases b <;> simp[G345,T345,Tr.den,vB]
def plG(l:List aA):List aA:=l.flatMap fun d=>List.replicate d.N.toNat d
theorem plG_map(fs:List aF)(n:aE)(l:List aA):(plG l).map (gpl fs n)=plA fs n l:=by
 unfold plG plA plD
 rw[List.map_flatMap]
 congr 1
 funext d
 rw[List.map_replicate]; rfl
theorem plG_mem{l:List aA}{d:aA}(h:d∈plG l):d∈l:=by
 obtain⟨x,hx,h⟩:=List.mem_flatMap.1 h
 rw[(List.mem_replicate.1 h).2]; exact hx
theorem plG_len{l:List aA}(h:∀ d,d∈l→d.N≤1000):(plG l).length≤l.length*1000:=by
 induction l with
 | nil=>simp[plG]
 | cons d l ih=>
  have h1:=h d List.mem_cons_self
  have h2:=ih fun x hx=>h x (List.mem_cons_of_mem _ hx)
  unfold plG at h2 ⊢
  rw[List.flatMap_cons,List.length_append,List.length_replicate,List.length_cons]; omega
theorem plG_ts{l:List aA}(h:TS l):TS (plG l):=by
 induction l with
 | nil=>exact List.Pairwise.nil
 | cons d l ih=>
  have h':=List.pairwise_cons.1 h
  unfold plG
  rw[List.flatMap_cons]
  refine List.pairwise_append.2 ⟨?_,ih h'.2,fun x hx y hy=>?_⟩
  ·refine List.pairwise_replicate.2 (.inr (Int.le_refl _))
  ·rw[(List.mem_replicate.1 hx).2]; exact h'.1 y (plG_mem hy)
structure okGT (fs:List aF)(n:aE)(l:List aA):Prop where
 i:okI n 0 l
 ev:okEv fs n l
 ty:∀ d,d∈l→∀ p,p<n.Seq.length→TyV 2 (evV fs (n.Seq.getD p default).Pred d)
 nn:∀ d,d∈l→d.N≤1000
 len:l.length≤1000000
theorem fitL{fs:List aF}{n:aE}{l:List aA}(h:okGT fs n l)(hK:n.Seq.length≤8)(v1:List aA)(v2:List (List Bool)){k:Nat}(hk:k<l.length):
  Sp (cA (fun s=>(T352_L1 fs n l (k:Int) s).den) (v1,v2,List.replicate n.Seq.length (default:Bool),0))
   (fun z=>∃ g:List Bool,z = .inl (v1,v2,g)∧g.length=n.Seq.length∧∀ p,p<n.Seq.length→(g.getD p default=true↔okG fs n (l.getD k default) p)):=by
 refine cQ (fun s:List aA×List (List Bool)×List Bool×Int=>s.2.2.2) n.Seq.length (by omega) (fun s=>s.1=v1∧s.2.1=v2∧s.2.2.1.length=n.Seq.length∧∀ p:Nat,(p:Int)<s.2.2.2→(s.2.2.1.getD p default=true↔okG fs n (l.getD k default) p)) (fun s q hI hq hqN=>?_)
  ⟨rfl,rfl,List.length_replicate,fun p hp=>absurd hp (by show ¬ ((p:Int)<0); omega)⟩ rfl
 obtain⟨v6,v7,v8,v9⟩:=s
 obtain⟨rfl,rfl,hl,hg⟩:=hI
 simp only at hq hl hg
 subst hq
 unfold T352_L1
 simp only[Tr.den,Int.toNat_natCast]
 by_cases hc:q<n.Seq.length
 ·have hm:=aQ hk
  have ht:=h.ty _ hm q hc
  rw[if_pos (bH (by omega)),if_pos (by omega),h.ev.get hm hc,G345_eq]
  simp only[Option.bind_some]
  rw[if_pos (by omega),if_pos (by omega),if_pos (by simp; omega)]
  refine aB.2 ⟨rfl,hc,rfl,rfl,by simp only; rw[List.length_set]; exact hl,fun p hp=>?_⟩
  rw[aL (by omega)]at hp
  simp only at hp ⊢
  rw[getD_set]
  by_cases e:p=q
  ·subst e
   rw[if_pos ⟨rfl,by omega⟩]
   have h1:((evV fs (n.Seq.getD p default).Pred (l.getD k default)).Kind==(vB true).Kind)=true:=beq_iff_eq.2 ht.1
   have h2:((evV fs (n.Seq.getD p default).Pred (l.getD k default)).S.toList==(vB true).S.toList)=true:=beq_iff_eq.2 (ht.2 (by decide))
   rw[h1,h2,Bool.true_and,Bool.and_true,Bool.and_true,beq_iff_eq]
   exact Iff.rfl
  ·rw[if_neg (fun h'=>e h'.1)]
   exact hg p (by omega)
 ·rw[if_neg (bK (by omega))]
  exact aB.2 ⟨v8,rfl,hl,fun p hp=>hg p (by omega)⟩
theorem putL(l:List aA){k:Nat}(hk:k<l.length)(hN:(l.getD k default).N≤1000)(v1:List aA)(v2:List (List Bool))(g:List Bool)(h1:v1.length≤1000000000)(h2:v2.length≤1000000000):
  cA (fun s=>(T352_L2 l (k:Int) s).den) (v1,v2,g,0)=some (.inl (v1++List.replicate (l.getD k default).N.toNat (l.getD k default),v2++List.replicate (l.getD k default).N.toNat g)):=by
 have h3:=bO (bd:=fun s=>(T352_L2 l (k:Int) s).den) (fun i=>(v1++List.replicate i (l.getD k default),v2++List.replicate i g,g,(i:Int))) (l.getD k default).N.toNat (r:=.inl (v1++List.replicate (l.getD k default).N.toNat (l.getD k default),v2++List.replicate (l.getD k default).N.toNat g)) (fun i hi=>?_) ?_
 ·simpa using h3
 ·unfold T352_L2
  simp only[Tr.den,Int.toNat_natCast]
  rw[if_pos (bH (by omega)),if_pos (by simp only[List.length_append,List.length_replicate,List.length_singleton]; omega),if_pos (by simp only[List.length_append,List.length_replicate,List.length_singleton]; omega),aL (by omega)]
  rw[List.append_assoc,List.append_assoc,←List.replicate_succ',←List.replicate_succ']
 ·unfold T352_L2
  simp only[Tr.den,Int.toNat_natCast]
  rw[if_neg (bK (by omega))]
theorem placesL{fs:List aF}{n:aE}{l:List aA}(h:okGT fs n l)(hK:n.Seq.length≤8):
  Sp (cA (fun s=>(T352_L0 fs n l s).den) (([]:List aA),([]:List (List Bool)),0)) (fun z=>∃ g,z = .inl (plG l,g)∧okGd fs n (plG l) g):=by
 refine cQ (fun s:List aA×List (List Bool)×Int=>s.2.2) l.length (by have:=h.len; omega) (fun s=>s.1=plG (l.take s.2.2.toNat)∧okGd fs n s.1 s.2.1) (fun s k hI hk hkN=>?_)
  ⟨by simp[plG],rfl,fun i hi=>absurd hi (Nat.not_lt_zero i),fun i hi=>absurd hi (Nat.not_lt_zero i)⟩ rfl
 obtain⟨v1,v2,v3⟩:=s
 obtain⟨e1,hg⟩:=hI
 simp only at hk e1 hg
 subst hk
 rw[Int.toNat_natCast]at e1
 subst e1
 have hlen:=h.len
 have hpl:=plG_len (l:=l.take k) fun d hd=>h.nn d (List.mem_of_mem_take hd)
 rw[List.length_take]at hpl
 unfold T352_L0
 simp only[Tr.den,Int.toNat_natCast]
 by_cases hc:k<l.length
 ·have hN:=h.nn _ (aQ hc)
  rw[if_pos (bH (by omega)),if_pos (by omega),if_pos ⟨⟨by omega,by omega⟩,by omega⟩]
  refine Sq.bind _ (Sq.of (fitL h hK (plG (l.take k)) v2 hc)) fun z hz=>?_
  obtain⟨g,rfl,hgl,hgo⟩:=hz
  simp only[sel]
  have hvl:=hg.len
  rw[putL l hc hN _ _ g (by omega) (by omega)]
  simp only[Option.bind_some,sel]
  have eP:plG (l.take (k+1))=plG (l.take k)++List.replicate (l.getD k default).N.toNat (l.getD k default):=by
   unfold plG
   rw[aM hc,List.flatMap_append,List.flatMap_cons,List.flatMap_nil,List.append_nil]
  refine aB.2 ⟨rfl,hc,?_,?_,?_,?_⟩
  ·simp only; rw[aL (by omega),Int.toNat_natCast,eP]
  ·simp only[List.length_append,List.length_replicate]; omega
  ·intro i hi
   simp only at hi ⊢
   rw[List.length_append,List.length_replicate]at hi
   rw[cB]
   by_cases hik:i<v2.length
   ·rw[if_pos hik]; exact hg.sz i (by omega)
   ·rw[if_neg hik,List.getD_eq_getElem?_getD,List.getElem?_replicate,if_pos (by omega)]; exact hgl
  ·intro i hi
   simp only at hi ⊢
   rw[List.length_append,List.length_replicate]at hi
   rw[cB,cB]
   by_cases hik:i<v2.length
   ·rw[if_pos hik,if_pos (by omega)]; exact hg.ok i (by omega)
   ·rw[if_neg hik,if_neg (by omega),List.getD_eq_getElem?_getD,List.getElem?_replicate,if_pos (by omega),List.getD_eq_getElem?_getD,List.getElem?_replicate,if_pos (by omega)]; exact hgo
 ·rw[if_neg (bK (by omega))]
  rw[List.take_of_length_le (by omega)]at hg ⊢
  exact aB.2 ⟨v2,rfl,hg⟩
theorem bstG_get{fs:List aF}{n:aE}{P:List aA}{j:Nat}(hj:j<P.length):
  (bstG fs n (P.take (j+1))=0∧bestM aN.time_ (nxF n) (gN n) n.Size (fL n 1) ((P.take (j+1)).map (gpl fs n))=none) ∨
  (∃ i:Nat,i≤j∧bstG fs n (P.take (j+1))=(j:Int)-i+1∧bestM aN.time_ (nxF n) (gN n) n.Size (fL n 1) ((P.take (j+1)).map (gpl fs n))=some ((P.getD i default).Time,(j:Int)-i+1)):=by
 have h:=first_best aN.time_ (nxF n) (gN n) n.Size (fL n 1) 0 (P.map (gpl fs n)) j (by rw[List.length_map]; exact hj)
 rw[←List.map_take]at h
 unfold bstG
 rcases h with⟨h,_⟩ | ⟨i,hi,_,h⟩
 ·rw[h]; exact .inl ⟨rfl,rfl⟩
 ·have e:((P.map (gpl fs n)).getD i default).time_=(P.getD i default).Time:=by
   rw[cH (by rw[List.length_map]; omega),List.getElem_map,←cH (show i<P.length by omega)]; rfl
  rw[e]at h
  rw[h]; exact .inr ⟨i,hi,rfl,rfl⟩
theorem G352_eq{fs:List aF}{n:aE}{l:List aA}{key:List aC}(h:okGT fs n l)(hn:okPn n)(hs:TS l)(hk:∀ d,d∈l→fX n d.Row=key):G352 fs n l=some (eI n key 0 [] (plA fs n l)):=by
 have hK:=hn.seq.2
 have hkl:=hn.key
 refine Sp.eq ?_
 unfold G352 T352
 simp only[Tr.den]
 refine Sq.bind _ (Sq.of (placesL h hK)) fun z hz=>?_
 obtain⟨g,rfl,hg⟩:=hz
 simp only[sel]
 have hlen:=h.len
 have hpl:=plG_len h.nn
 have hts:=plG_ts hs
 have htm:okTm (plG l):=fun d hd=>h.i.t d (plG_mem hd)
 have out_len:∀ k,(eI n key 0 [] (((plG l).take k).map (gpl fs n))).length≤k:=fun k=>by
  have:∀ (a u:List aN),(eI n key 0 u a).length≤a.length:=fun a=>by
   induction a with
   | nil=>intro u; exact Nat.le_refl _
   | cons q a ih=>
    intro u
    rw[eI,List.length_append,List.length_cons]
    have h1:=ih (u++[q])
    have h2:(if (0:Int)≤q.time_ then resM n key (u++[q]) else []).length≤1:=by
     split
     ·unfold resM; split <;> simp
     ·simp
    omega
  refine Nat.le_trans (this _ _) ?_
  rw[List.length_map,List.length_take]; omega
 have h1:=bO (bd:=fun s=>(T352_L3 n (plG l) g s).den) (fun k=>(eI n key 0 [] (((plG l).take k).map (gpl fs n)),(k:Int))) (plG l).length (r:=.inl (eI n key 0 [] (plA fs n l))) (fun k hk'=>?_) ?_
 ·rw[show (([]:List aA),(0:Int))=(fun k:Nat=>(eI n key 0 [] (((plG l).take k).map (gpl fs n)),(k:Int))) 0 from rfl,h1]
  exact aB.2 rfl
 ·unfold T352_L3
  simp only[Tr.den,Int.toNat_natCast]
  have hd:=plG_mem (aQ hk')
  have hkey:=hk _ hd
  have hol:=out_len k
  have ht0:=(h.i.t _ hd).1
  rw[if_pos (bH (by omega)),if_pos (by omega),G372_eq hK hn.size hg hts htm (by omega) hk',aL (by omega)]
  simp only[Option.bind_some]
  have eL:((plG l).take k).map (gpl fs n)++[gpl fs n ((plG l).getD k default)]=((plG l).take (k+1)).map (gpl fs n):=by
   rw[aM hk',List.map_append]; rfl
  have eS:eI n key 0 [] (((plG l).take (k+1)).map (gpl fs n))=eI n key 0 [] (((plG l).take k).map (gpl fs n))++resM n key (((plG l).take (k+1)).map (gpl fs n)):=by
   rw[←eL,outP_app,List.nil_append,eI,eI,List.append_nil,if_pos (show (0:Int)≤(gpl fs n ((plG l).getD k default)).time_ from ht0)]
  rw[eS]
  unfold resM
  have elast:((((plG l).take (k+1)).map (gpl fs n)).getLastD default).time_=((plG l).getD k default).Time:=by
   rw[←eL,snoc_last]; rfl
  rw[elast]
  rcases bstG_get (fs:=fs) (n:=n) hk' with⟨b1,b2⟩ | ⟨i,hi,b1,b2⟩
  ·rw[b2,b1,if_neg (bK (by omega))]
   simp only[Option.bind_some,List.append_nil]
  ·rw[b2,b1,if_pos (bH (by omega)),G365s0_eq _ n (h.i.c _ hd) (by omega)]
   simp only[Option.bind_some]
   have ew:IntKind.i64.wrap (IntKind.i64.wrap ((k:Int)-((k:Int)-i+1))+1)=(i:Int):=by
    rw[bR (n:=(k:Int)-((k:Int)-i+1)) (by omega) (by omega),bR (by omega) (by omega)]; omega
   rw[ew]
   simp only[Int.toNat_natCast]
   rw[if_pos (by omega),G361_eq,G361_eq]
   simp only[Option.bind_some]
   rw[hkey,if_pos (by rw[←hkey]; unfold fX; rw[List.length_map]; omega),if_pos (by simp only[List.length_singleton]; omega)]
   rfl
 ·unfold T352_L3
  simp only[Tr.den]
  rw[if_neg (bK (by omega)),List.take_length,plG_map]
theorem rowB_size{r:List aC}(h:okVs r)(hl:r.length≤1000):(rowB r).size≤1000+r.length*1073742000:=by
 have h1:=foldB_size ((⟨#[]⟩:ByteArray)++numB (r.length:Int)) r h
 have h2:=jC (n:=(r.length:Int)) ⟨by omega,by omega⟩
 rw[ByteArray.size_append,show (⟨#[]⟩:ByteArray).size=0 from rfl]at h1
 unfold rowB
 omega
theorem groupM_keys{n:aE}{l:List aA}(h:okI n 0 l)(hk:n.Key.length≤10)(hl:l.length≤1000000):okKs (aZ (bS n 0 l))=true:=by
 unfold okKs
 have h1:=iD n 0 l
 rw[Bool.and_eq_true,decide_eq_true_eq,List.all_eq_true]
 refine⟨by unfold aZ; rw[List.length_map]; omega,fun k hk'=>bH ?_⟩
 have hne:=eV.1 hk'
 obtain⟨hd,e⟩:=dF.1 (aQ (List.length_pos_iff.2 hne))
 rw[←e]
 refine Nat.le_trans (rowB_size (r:=fX n _) (fun v hv=>?_) (by unfold fX; rw[List.length_map]; omega)) ?_
 ·obtain⟨c,_,rfl⟩:=List.mem_map.1 hv
  exact okVs.get (h.v _ hd) _
 ·unfold fX; rw[List.length_map]; omega
theorem G351_eq{n:aE}{l:List aA}(h:okI n 0 l)(hk:n.Key.length≤10)(hl:l.length≤1000000):G351 l n.Key=some ((fC (aZ (bS n 0 l))).map fun k=>ofK n 0 k l):=by
 unfold G351 T351
 simp only[Tr.den]
 have h1:=bO (bd:=fun s=>(T351_L0 l n.Key s).den) (fun k=>(bS n 0 (l.take k),(k:Int))) l.length (r:=.inl (bS n 0 l)) (fun k hk'=>?_) ?_
 ·refine(congrArg (fun x=>Option.bind x _) h1).trans ?_
  simp only[Option.bind_some,sel]
  rw[if_pos (groupM_keys h hk hl)]
  simp only[Option.bind_some]
  have hml:=iD n 0 l
  have hsl:=sortK_len (aZ (bS n 0 l))
  have hml':(aZ (bS n 0 l)).length=(bS n 0 l).length:=List.length_map _
  generalize hks:fC (aZ (bS n 0 l))=ks at hsl ⊢
  have h2:=bO (bd:=fun s=>(T351_L1 (bS n 0 l) ks s).den) (fun k=>((ks.take k).map fun k=>ofK n 0 k l,ks,(k:Int))) ks.length (r:=.inl (ks.map fun k=>ofK n 0 k l)) (fun k hk'=>?_) ?_
  ·exact(congrArg (fun x=>Option.bind x _) h2).trans rfl
  ·unfold T351_L1
   simp only[Tr.den,Int.toNat_natCast]
   have e:∀ c,ofK n 0 (ks.getD k default) l=c→(ks.take (k+1)).map (fun k=>ofK n 0 k l)=(ks.take k).map (fun k=>ofK n 0 k l)++[c]:=fun c hc=>by
    rw[aM hk',List.map_append,←hc]; rfl
   rw[if_pos (bH (by omega)),if_pos (by omega),if_pos (by omega),aL (by omega)]
   have hL:=iR n 0 (ks.getD k default) l
   cases hc:aY (bS n 0 l) (ks.getD k default) with
   | none=>
    rw[hc]at hL
    have h0:ofK n 0 (ks.getD k default) l=[]:=Classical.byContradiction fun h0=>by rw[if_neg h0]at hL; cases hL
    simp only
    rw[if_pos (by simp only[List.length_map,List.length_take,List.length_singleton]; omega),e _ h0]
    rfl
   | some c=>
    rw[hc]at hL
    have h0:ofK n 0 (ks.getD k default) l=c:=by
     by_cases h0:ofK n 0 (ks.getD k default) l=[]
     ·rw[if_pos h0]at hL; cases hL
     ·rw[if_neg h0]at hL; injection hL with hL; exact hL.symm
    simp only
    rw[if_pos (by simp only[List.length_map,List.length_take,List.length_singleton]; omega),e _ h0]
    rfl
  ·unfold T351_L1
   simp only[Tr.den]
   rw[if_neg (bK (by omega)),List.take_length]
 ·unfold T351_L0
  simp only[Tr.den,Int.toNat_natCast]
  have hm:=aQ hk'
  have hcl:okCols n.Key (l.getD k default).Row:=h.c _ hm
  rw[if_pos (bH (by omega)),if_pos (by omega),G365_eq _ n hcl (by omega)]
  simp only[Option.bind_some]
  rw[G120_eq _ (fun v hv=>by
    obtain⟨c,hcm,rfl⟩:=List.mem_map.1 hv
    exact okVs.get (h.v _ hm) _) (by unfold fX; rw[List.length_map]; omega)]
  simp only[Option.bind_some]
  have h2:=iM n 0 (keyB n 0 (l.getD k default).Row) (l.take k)
  simp only[List.length_take]at h2
  have hkey:rowB (fX n (l.getD k default).Row)=keyB n 0 (l.getD k default).Row:=rfl
  rw[hkey,if_pos (by rw[groupM_get]; simp only[List.length_cons,List.length_nil]; omega),aL (by omega)]
  congr 3
  unfold bS
  rw[aM hk',List.foldl_append]
  rfl
 ·unfold T351_L0
  simp only[Tr.den]
  rw[if_neg (bK (by omega)),List.take_length]
theorem sortK_perm(ks:List ByteArray):(fC ks).Perm ks:=by
 unfold fC
 have h:=(List.mergeSort_perm (ks.map fun k=>k.data.toList) (fun x y=>decide (x≤y))).map fun l:List UInt8=>(⟨l.toArray⟩:ByteArray)
 refine h.trans ?_
 rw[List.map_map]
 have e:((fun l:List UInt8=>(⟨l.toArray⟩:ByteArray)) ∘ fun k:ByteArray=>k.data.toList)=id:=by
  funext k; rfl
 rw[e,List.map_id]
theorem fixN_congr{P:Program}{A R:Type}{C C':A→Option R→Prop}(c0:∀ a,C a none)(c0':∀ a,C' a none)
  (B:{f:A→Option R // ∀ a,C a (f a)}→A→Tr P R)(B':{f:A→Option R // ∀ a,C' a (f a)}→A→Tr P R)(ok:∀ f a,C a (B f a).den)(ok':∀ f a,C' a (B' f a).den)
  (h:∀ f g,f.1=g.1→∀ a,(B f a).den=(B' g a).den):∀ n,(fixN c0 B ok n).1=(fixN c0' B' ok' n).1
 | 0=>rfl
 | n+1=>funext fun a=>h _ _ (fixN_congr c0 c0' B B' ok ok' h n) a
theorem fixF_congr{P:Program}{A R:Type}{C C':A→Option R→Prop}(c0:∀ a,C a none)(c0':∀ a,C' a none)
  (B:{f:A→Option R // ∀ a,C a (f a)}→A→Tr P R)(B':{f:A→Option R // ∀ a,C' a (f a)}→A→Tr P R)(ok:∀ f a,C a (B f a).den)(ok':∀ f a,C' a (B' f a).den)
  (h:∀ f g,f.1=g.1→∀ a,(B f a).den=(B' g a).den)(a:A):fixF c0 B ok a=fixF c0' B' ok' a:=by
 unfold fixF
 simp only[fixN_congr c0 c0' B B' ok ok' h]
theorem G373_61:G373=G61:=rfl
theorem d176_1(a1 a2 v2:Int)(s:List aA×Int):(T176s3_L1 a1 a2 v2 s).den=(gI a1 a2 v2 s).den:=by
 obtain⟨x,y⟩:=s
 unfold T176s3_L1 gI
 simp only[Tr.den,G373_61]
theorem d176_0(a1 a2:Int)(s:List aA×Int):(T176s3_L0 a1 a2 s).den=(jH a1 a2 s).den:=by
 obtain⟨x,y⟩:=s
 unfold T176s3_L0 jH
 simp only[Tr.den,d176_1]
theorem G176_31(a1 a2:Int)(l:List aA):G176s3 a1 a2 l=G176s1 a1 a2 l:=by
 unfold G176s3 G176s1 T176s3 T176s1
 simp only[Tr.den,d176_0]
theorem d211_0(a1 a2 a3:Int)(s:List aA×Int):(T211s1_L0 a1 a2 a3 s).den=(T211s0_L0 a1 a2 a3 s).den:=by
 obtain⟨x,y⟩:=s
 unfold T211s1_L0 T211s0_L0
 simp only[Tr.den]
theorem G211_10(a1 a2 a3:Int)(l:List aA):G211s1 a1 a2 a3 l=G211s0 a1 a2 a3 l:=by
 unfold G211s1 G211s0 T211s1 T211s0
 simp only[Tr.den,d211_0]
theorem d195_0(a2:Int)(s:List aA×Int×Int):(T195s1_L0 a2 s).den=(T195s0_L0 a2 s).den:=by
 obtain⟨x,y,z⟩:=s
 unfold T195s1_L0 T195s0_L0
 simp only[Tr.den,G211_10]
theorem G195_10(a1 a2 a3:Int)(l:List aA):G195s1 a1 a2 a3 l=G195s0 a1 a2 a3 l:=by
 unfold G195s1 G195s0 T195s1 T195s0
 simp only[Tr.den,d195_0,G211_10]
theorem d177_0(a1:Int)(l:List aA)(s:Int×Int):(T177s1_L0 a1 l s).den=(jD a1 l s).den:=by
 obtain⟨x,y⟩:=s
 unfold T177s1_L0 jD
 simp only[Tr.den,G373_61]
theorem d177_1(b:Int)(s:List aA×Int):(T177s1_L1 b s).den=(iC b s).den:=by
 obtain⟨x,y⟩:=s
 unfold T177s1_L1 iC
 simp only[Tr.den]
theorem d177_2(a2:Int)(l:List aA)(s:Int×Int):(T177s1_L2 a2 l s).den=(jF a2 l s).den:=by
 obtain⟨x,y⟩:=s
 unfold T177s1_L2 jF
 simp only[Tr.den,G373_61]
theorem d177_3(b:Int)(s:List aA×Int):(T177s1_L3 b s).den=(iH b s).den:=by
 obtain⟨x,y⟩:=s
 unfold T177s1_L3 iH
 simp only[Tr.den]
theorem d177_4(a1 a2 a3:Int)(l:List aA)(s:Int×Int):(T177s1_L4 a1 a2 a3 l s).den=(iF a1 a2 a3 l s).den:=by
 obtain⟨x,y⟩:=s
 unfold T177s1_L4 iF
 simp only[Tr.den,G373_61]
theorem G177_10(a1 a2 a3:Int)(l:List aA):G177s1 a1 a2 a3 l=G177s0 a1 a2 a3 l:=by
 unfold G177s1 G177s0 H177s1 H177s0
 refine fixF_congr _ _ _ _ _ _ (fun f g hfg a=>?_) _
 unfold T177s1 T177s0
 simp only[Tr.den,d177_0,d177_1,d177_2,d177_3,d177_4,G195_10,hfg]
theorem d133_0(a1:Int)(s:List aA×Int×Int):(T133s3_L0 a1 s).den=(T133s1_L0 a1 s).den:=by
 obtain⟨x,y,z⟩:=s
 unfold T133s3_L0 T133s1_L0
 simp only[Tr.den,G176_31]
theorem d133_2(a1 v9:Int)(s:List aA×Int×Int):(T133s3_L2 a1 v9 s).den=(T133s1_L2 a1 v9 s).den:=by
 obtain⟨x,y,z⟩:=s
 unfold T133s3_L2 T133s1_L2
 simp only[Tr.den,G177_10]
theorem d133_1(a1:Int)(s:List aA×Int):(T133s3_L1 a1 s).den=(T133s1_L1 a1 s).den:=by
 obtain⟨x,y⟩:=s
 unfold T133s3_L1 T133s1_L1
 simp only[Tr.den,d133_2,G177_10]
theorem G63_31(l:List aA):G63s3 l=G63s1 l:=by
 unfold G63s3 G63s1 T63s3 T63s1 G133s3 G133s1 T133s3 T133s1
 simp only[Tr.den,d133_0,d133_1,G176_31]
def nz(d:aA):Bool:=!(d.N==0)
theorem G374_eq(d:aA):G374 d=some (!nz d):=by
 unfold G374 T374 nz
 simp only[Tr.den,Bool.not_not]
theorem G105s2_sp(l:List aA)(hn:l.length≤1000000000000):
  Sp (G105s2 l) (fun r=>(r = -1∧∀ x,x∈l→nz x=true)∨∃ k:Nat,r=k∧k<l.length∧(∀ x,x∈l.take k→nz x=true)∧nz (l.getD k default)=false):=by
 unfold G105s2 T105s2
 simp only[Tr.den,bL]
 refine Sq.while (fun s:Int=>∃ k:Nat,s=k∧k≤l.length∧∀ x,x∈l.take k→nz x=true) (fun s=>(l.length-s).toNat) (fun s hs=>?_) ⟨0,rfl,by omega,by simp⟩
 obtain⟨k,rfl,h1,h2⟩:=hs
 unfold T105s2_L0
 simp only[Tr.den,Int.toNat_natCast]
 by_cases hk:k<l.length
 ·rw[if_pos (bH (by omega)),if_pos (by omega),if_pos hk,G374_eq]
  simp only[Option.bind_some]
  cases ha:nz (l.getD k default) with
  | true=>
   rw[if_neg (by simp),aL (by omega)]
   refine aB.2 ⟨⟨k+1,rfl,by omega,fun x hx=>?_⟩,by omega⟩
   rw[aM hk,List.mem_append,List.mem_singleton]at hx
   rcases hx with hx | rfl
   ·exact h2 x hx
   ·exact ha
  | false=>
   rw[if_pos (by simp)]
   exact aB.2 (aB.2 (.inr ⟨k,rfl,hk,h2,ha⟩))
 ·rw[if_neg (bK (by omega))]
  refine aB.2 (aB.2 (.inl ⟨rfl,?_⟩))
  rwa [List.take_of_length_le (by omega)]at h2
theorem G41s4_sp(l:List aA)(hn:l.length≤1000000000000):Sp (G41s4 l) (fun d=>d=l.filter nz):=by
 unfold G41s4 T41s4
 simp only[Tr.den]
 refine Sq.bind _ (G105s2_sp l hn) (fun r hr=>?_)
 rcases hr with⟨rfl,h⟩ | ⟨k,rfl,h1,h2,h3⟩
 ·rw[if_pos (beqT rfl)]
  refine aB.2 ?_
  exact(List.filter_eq_self.2 h).symm
 ·rw[if_neg (gY (by omega)),aL (by omega)]
  simp only[bL]
  refine Sq.while (fun s:List aA×Int×Int=>∃ i j:Nat,s.2.1=i∧s.2.2=j∧i<j∧j≤l.length∧s.1.length=l.length∧s.1.take i=(l.take j).filter nz∧s.1.drop j=l.drop j) (fun s=>(l.length-s.2.2).toNat) (fun s hs=>?_)
   ⟨k,k+1,rfl,rfl,by omega,by omega,rfl,?_,rfl⟩
  ·obtain⟨d,i,j⟩:=s
   obtain⟨i,j,e1,e2,q1,q2,q3,q4,q5⟩:=hs
   simp only at e1 e2 q3 q4 q5
   subst e1 e2
   unfold T41s4_L0
   simp only[Tr.den,Int.toNat_natCast]
   by_cases hj:j<l.length
   ·have gj:d.getD j default=l.getD j default:=by
     have:=congrArg (fun x:List aA=>x.getD 0 default) q5
     rw[bW (show j<d.length by omega),bW hj]at this
     simpa using this
    rw[if_pos (bH (by omega)),if_pos (by omega),if_pos (by omega),gj,G374_eq]
    simp only[Option.bind_some,Bool.not_not]
    cases ha:nz (l.getD j default) with
    | true=>
     rw[if_pos rfl,if_pos (by omega),if_pos (by omega)]
     refine bL.2 (sq_grd (by simp; omega) (aB.2 ?_))
     rw[aL (by omega),aL (by omega)]
     refine aB.2 ⟨⟨i+1,j+1,rfl,rfl,by omega,by omega,by simp; omega,?_,?_⟩,by simp only; omega⟩
     ·rw[aM (show i<(d.set i (l.getD j default)).length by simp; omega),aM hj,List.filter_append,getD_set,if_pos ⟨rfl,by omega⟩]
      rw[List.take_set_of_le (Nat.le_refl i),q4,List.filter_cons_of_pos ha,List.filter_nil]
     ·rw[List.drop_set_of_lt (by omega)]
      have:=congrArg (List.drop 1) q5
      rw[List.drop_drop,List.drop_drop]at this
      exact this
    | false=>
     rw[if_neg (by simp)]
     simp only[Option.bind_some]
     rw[aL (by omega)]
     refine aB.2 ⟨⟨i,j+1,rfl,rfl,by omega,by omega,q3,?_,?_⟩,by simp only; omega⟩
     ·rw[aM hj,List.filter_append,q4,List.filter_cons_of_neg (by rw[ha]; simp),List.filter_nil,List.append_nil]
     ·have:=congrArg (List.drop 1) q5
      rw[List.drop_drop,List.drop_drop]at this
      exact this
   ·rw[if_neg (bK (by omega))]
    refine aB.2 ?_
    simp only[sel,Int.toNat_natCast]
    have e:(d.take i++List.replicate (d.length-i) default).take i=d.take i:=by
     rw[List.take_append_of_le_length (by simp; omega),List.take_take,Nat.min_self]
    rw[if_pos (by omega),if_pos (by simp; omega),e,q4,List.take_of_length_le (by omega)]
    exact aB.2 rfl
  ·rw[aM h1,List.filter_append,List.filter_eq_self.2 h2,List.filter_cons_of_neg (by rw[h3]; simp),List.filter_nil,List.append_nil]
structure SumI (d out:List aA)(k:Nat):Prop where
 lt:out.Pairwise (fun x y=>cR x y<0)
 n64:∀ x,x∈out→in64 x.N
 ok:fJ out
 len:out.length≤k
 last:0<k→out≠[]∧pl (out.getD (out.length-1) default)=pl (d.getD (k-1) default)
 wt:∀ p,W (wt p out)=W (wt p (d.take k))
theorem getD_last{α:Type}[Inhabited α]{l:List α}(h:l≠[]):∃ r x,l=r++[x]∧l.getD (l.length-1) default=x∧r.length=l.length-1:=by
 refine⟨l.dropLast,l.getLast h,(List.dropLast_concat_getLast h).symm,?_,by simp⟩
 have h0:0<l.length:=List.length_pos_iff.2 h
 rw[cH (by omega),List.getLast_eq_getElem]
theorem nz_can{out:List aA}(h1:out.Pairwise (fun x y=>cR x y<0))(h2:∀ x,x∈out→in64 x.N):Can (out.filter nz) where
 lt:=List.Pairwise.sublist List.filter_sublist h1
 nz:=fun x hx=>by
  have:=(List.mem_filter.1 hx).2
  unfold nz at this
  intro h0
  rw[h0]at this
  cases this
 n64:=fun x hx=>h2 x (List.mem_filter.1 hx).1
theorem nz_wt(p:Pl→Bool):∀ l:List aA,wt p (l.filter nz)=wt p l
 | []=>rfl
 | x::l=>by
  have ih:=nz_wt p l
  by_cases h:x.N=0
  ·rw[List.filter_cons_of_neg (by unfold nz; rw[h]; simp),ih]
   simp only[wt,h]
   split <;> omega
  ·rw[List.filter_cons_of_pos (by unfold nz; rw[Bool.not_eq_true']; exact Bool.eq_false_iff.2 (gY h))]
   simp only[wt,ih]
theorem sumStep{d out:List aA}{k:Nat}(hk:k<d.length)(hs:Srt d)(ho:fJ d)(hN:okN d)(h:SumI d out k):
  (0<k→pl (out.getD (out.length-1) default)=pl (d.getD k default)→SumI d (out.set (out.length-1) ⟨(out.getD (out.length-1) default).Time,(out.getD (out.length-1) default).Row,W ((out.getD (out.length-1) default).N+(d.getD k default).N)⟩) (k+1)) ∧
  ((k=0∨pl (out.getD (out.length-1) default)≠pl (d.getD k default))→SumI d (out++[⟨(d.getD k default).Time,(d.getD k default).Row,(d.getD k default).N⟩]) (k+1)):=by
 have hmem:=aQ hk
 constructor
 ·intro h0 he
  obtain⟨hne,hl⟩:=h.last h0
  obtain⟨r,x,e1,e2,e3⟩:=getD_last hne
  rw[e2]at he hl ⊢
  have hset:out.set (out.length-1) ⟨x.Time,x.Row,W (x.N+(d.getD k default).N)⟩=r++[⟨x.Time,x.Row,W (x.N+(d.getD k default).N)⟩]:=by
   rw[←e3,e1]
   simp
  have e4:pl (⟨x.Time,x.Row,W (x.N+(d.getD k default).N)⟩:aA)=pl x:=rfl
  have hp:=h.lt
  rw[e1]at hp
  obtain⟨p1,_,p3⟩:=List.pairwise_append.1 hp
  rw[hset]
  have hlen:=h.len
  have hrl:r.length+1=out.length:=by rw[e1]; simp
  refine⟨List.pairwise_append.2 ⟨p1,List.pairwise_singleton _ _,fun a ha b hb=>?_⟩,fun y hy=>?_,fun y hy=>?_,by simp; omega,fun _=>⟨by simp,?_⟩,fun p=>?_⟩
  ·rw[List.mem_singleton.1 hb,cmpD_congr (x':=a) (y':=x) rfl e4]
   exact p3 a ha x (List.mem_singleton.2 rfl)
  ·rcases List.mem_append.1 hy with hy | hy
   ·exact h.n64 y (by rw[e1]; exact List.mem_append_left _ hy)
   ·rw[List.mem_singleton.1 hy]; exact W_in _
  ·rcases List.mem_append.1 hy with hy | hy
   ·exact h.ok y (by rw[e1]; exact List.mem_append_left _ hy)
   ·rw[List.mem_singleton.1 hy]; exact h.ok x (by rw[e1]; simp)
  ·rw[cB,if_neg (by simp)]
   simp only[List.length_append,List.length_singleton,Nat.add_sub_cancel,Nat.sub_self]
   exact e4.trans he
  ·have hw:=h.wt p
   rw[e1,dG]at hw
   rw[dG,aM hk,dG]
   have hw':W (wt p r+wt p [x]+wt p [d.getD k default])=W (wt p (d.take k)+wt p [d.getD k default]):=iS hw rfl
   rw[←hw']
   simp only[wt,e4,he]
   split
   ·have:=iS (a:=wt p r) (c:=wt p r) (b:=W (x.N+(d.getD k default).N)) (d:=x.N+(d.getD k default).N) rfl (W_W _)
    rw[Int.add_zero,this]
    congr 1; omega
   ·congr 1; omega
 ·intro hc
  have hgt:∀ a,a∈out→cR a (d.getD k default)<0:=by
   intro a ha
   have hk0:0<k:=by
    refine Nat.pos_of_ne_zero fun h0=>?_
    have:=h.len
    have:out=[]:=List.eq_nil_of_length_eq_zero (by omega)
    rw[this]at ha; cases ha
   obtain⟨hne,hl⟩:=h.last hk0
   have hc':=hc.resolve_left (by omega)
   obtain⟨r,x,e1,e2,e3⟩:=getD_last hne
   rw[e2]at hl hc'
   have hx:cR x (d.getD k default)<0:=by
    have hle:=hs.get (i:=k-1) (j:=k) (by omega) hk
    have h1:¬ cR (d.getD k default) x<0:=by
     rw[cmpD_congr (x':=d.getD k default) (y':=d.getD (k-1) default) rfl hl]
     exact ltD_false hle
    have h2:cR x (d.getD k default)≠0:=fun h0=>hc' (eK.1 h0)
    have h3:¬ 0<cR x (d.getD k default):=fun h0=>h1 (cmpD_gt.1 h0)
    omega
   rw[e1]at ha
   rcases List.mem_append.1 ha with ha | ha
   ·have hp:=h.lt
    rw[e1]at hp
    exact TO.place.tr (pl a) (pl x) (pl _) ((List.pairwise_append.1 hp).2.2 a ha x (List.mem_singleton.2 rfl)) hx
   ·rw[List.mem_singleton.1 ha]; exact hx
  have hlen:=h.len
  refine⟨List.pairwise_append.2 ⟨h.lt,List.pairwise_singleton _ _,fun a ha b hb=>?_⟩,fun y hy=>?_,fun y hy=>?_,by simp; omega,fun _=>⟨by simp,?_⟩,fun p=>?_⟩
  ·rw[List.mem_singleton.1 hb]; exact hgt a ha
  ·rcases List.mem_append.1 hy with hy | hy
   ·exact h.n64 y hy
   ·rw[List.mem_singleton.1 hy]; exact hN _ hmem
  ·rcases List.mem_append.1 hy with hy | hy
   ·exact h.ok y hy
   ·rw[List.mem_singleton.1 hy]; exact ho _ hmem
  ·rw[cB,if_neg (by simp)]
   simp only[List.length_append,List.length_singleton,Nat.add_sub_cancel,Nat.sub_self]
   rfl
  ·rw[dG,aM hk,dG]
   exact iS (h.wt p) rfl
theorem loop353(l d:List aA)(hd:d.Perm l)(hs:Srt d)(ho:fJ l)(hN:okN l)(hn:l.length≤1000000000000):
  Sp (cA (fun s=>(T353_L0 d s).den) (([]:List aA),d,0)) (sel (fun r=>SumI d r d.length) (fun _=>False)):=by
 have ho':fJ d:=fun x hx=>ho x (hd.mem_iff.1 hx)
 have hN':okN d:=fun x hx=>hN x (hd.mem_iff.1 hx)
 have hlen:=hd.length_eq
 refine cQ (fun s:List aA×List aA×Int=>s.2.2) d.length (by omega) (fun s=>s.2.1=d∧SumI d s.1 s.2.2.toNat) (fun s k hI hk hkN=>?_) ⟨rfl,⟨List.Pairwise.nil,(fun x h=>by simp at h),(fun x h=>by simp at h),Nat.le_refl _,fun h=>absurd h (Nat.lt_irrefl 0),fun p=>rfl⟩⟩ rfl
 obtain⟨out,v,i⟩:=s
 obtain⟨h1,h2⟩:=hI
 simp only at hk h1 h2
 subst hk h1
 rw[Int.toNat_natCast]at h2
 unfold T353_L0
 simp only[Tr.den,Int.toNat_natCast]
 by_cases hcnt:k<v.length
 ·obtain⟨q1,q2⟩:=sumStep hcnt hs ho' hN' h2
  have hol:=h2.len
  have hmem:=aQ hcnt
  rw[if_pos (bH (by omega)),if_pos (by omega),if_pos hcnt]
  have fin:∀ o:List aA,SumI v o (k+1)→Sp (some (Sum.inl (o,v,IntKind.i64.wrap ((k:Int)+1))):Option ((List aA×List aA×Int)⊕(List aA⊕List aA)))
    (sel (fun s':List aA×List aA×Int=>s'.2.2=IntKind.i64.wrap ((k:Int)+1)∧k<v.length∧s'.2.1=v∧SumI v s'.1 s'.2.2.toNat) (sel (fun r=>SumI v r v.length) (fun _:List aA=>False))):=by
   intro o ho
   refine aB.2 ⟨rfl,hcnt,rfl,?_⟩
   simp only
   rw[show (IntKind.i64.wrap ((k:Int)+1)).toNat=k+1 by rw[aL (by omega),Int.toNat_natCast]]
   exact ho
  have app:(k=0∨pl (out.getD (out.length-1) default)≠pl (v.getD k default)) →
    Sp (((G64s0 (v.getD k default).Row).bind fun r13=>if (out.length+([(⟨(v.getD k default).Time,r13,(v.getD k default).N⟩:aA)]:List aA).length)*40≤140737488355328 then some (out++[⟨(v.getD k default).Time,r13,(v.getD k default).N⟩],v) else none).bind fun r=>some (Sum.inl (r.1,r.2,IntKind.i64.wrap ((k:Int)+1))):Option ((List aA×List aA×Int)⊕(List aA⊕List aA)))
     (sel (fun s':List aA×List aA×Int=>s'.2.2=IntKind.i64.wrap ((k:Int)+1)∧k<v.length∧s'.2.1=v∧SumI v s'.1 s'.2.2.toNat) (sel (fun r=>SumI v r v.length) (fun _:List aA=>False))):=by
   intro hc
   rw[G64s0_eq _ (by have:=ho' _ hmem; unfold okR at this; omega)]
   simp only[Option.bind_some,List.length_singleton]
   rw[if_pos (by omega)]
   exact fin _ (q2 hc)
  by_cases hk0:k=0
  ·have hout:out=[]:=List.eq_nil_of_length_eq_zero (by omega)
   rw[if_neg (bK (by rw[hout]; simp))]
   simp only[Option.bind_some,Bool.false_eq_true,if_false]
   exact app (.inl hk0)
  ·obtain⟨hne,hl⟩:=h2.last (by omega)
   have hpos:=List.length_pos_iff.2 hne
   have e1:IntKind.i64.wrap ((out.length:Int)-1)=((out.length-1:Nat):Int):=by
    have:=eR (n:=out.length) (m:=1) (by omega) (by omega)
    simpa using this
   rw[e1]
   simp only[Int.toNat_natCast]
   rw[if_pos (bH (by omega)),if_pos (by omega),if_pos (by omega),G373_61,G61_eq _ _ (h2.ok _ (aQ (by omega))) (ho' _ hmem)]
   simp only[Option.bind_some]
   by_cases he:pl (out.getD (out.length-1) default)=pl (v.getD k default)
   ·rw[if_pos (beqT (eK.2 he)),if_pos (by omega),if_pos (by omega),if_pos (by omega),if_pos (by omega)]
    rw[if_pos (by simp; omega)]
    simp only[Option.bind_some]
    exact fin _ (q1 (by omega) he)
   ·rw[if_neg (gY fun h0=>he (eK.1 h0))]
    exact app (.inr he)
 ·rw[if_neg (bK (by omega))]
  refine aB.2 ?_
  have:k=v.length:=by omega
  subst this
  exact h2
theorem G353_eq(l:List aA)(ho:fJ l)(hN:okN l)(hn:l.length≤1000000000000):G353 l=some (PL.cons l):=by
 refine Sp.eq ?_
 unfold G353 T353
 simp only[Tr.den]
 rw[G42s0_eq l hn]
 simp only[Option.bind_some]
 rw[G63_31]
 refine Sq.bind _ (G63s1_sp l ho (by omega)) (fun d hd=>?_)
 refine Sq.bind _ (loop353 l d hd.1 hd.2 ho hN hn) (fun z hz=>?_)
 cases z with
 | inr z=>exact hz.elim
 | inl z=>
  have hz':SumI d z d.length:=hz
  have h1:=hz'.len
  have h2:=hd.1.length_eq
  simp only[sel]
  refine Sq.bind _ (G41s4_sp z (by omega)) (fun r hr=>?_)
  subst hr
  refine aB.2 (cons_eq (nz_can hz'.lt hz'.n64) hN fun p=>?_).symm
  rw[nz_wt,hz'.wt p,List.take_length,wt_perm p hd.1]
theorem outP_len(n:aE)(key:List aC)(lo:Int):∀ (a u:List aN),(eI n key lo u a).length≤a.length
 | [],u=>Nat.le_refl _
 | q::a,u=>by
  rw[eI,List.length_append,List.length_cons]
  have h1:=outP_len n key lo a (u++[q])
  have h2:(if lo≤q.time_ then resM n key (u++[q]) else []).length≤1:=by
   split
   ·unfold resM; split <;> simp
   ·simp
  omega
theorem outP_okD(n:aE)(key:List aC)(lo:Int)(hk:key.length≤10):∀ (a u:List aN),okD (eI n key lo u a)
 | [],u=>okD.nil
 | q::a,u=>by
  rw[eI]
  refine okD.app ?_ (outP_okD n key lo hk a _)
  split
  ·unfold resM
   split
   ·refine⟨fun x hx=>?_,fun x hx=>?_⟩
    ·rw[List.mem_singleton.1 hx]
     unfold okR
     simp only[List.length_append,List.length_cons,List.length_nil]; omega
    ·rw[List.mem_singleton.1 hx]; exact⟨by simp only; omega,by simp only; omega⟩
   ·exact okD.nil
  ·exact okD.nil
noncomputable def allM (fs:List aF)(n:aE)(ks:List ByteArray)(a:List aA):List aA:=ks.flatMap fun k=>matA fs n (ofK n 0 k a)
theorem matA_okD{fs:List aF}{n:aE}(hn:okPn n)(l:List aA):okD (matA fs n l):=outP_okD _ _ _ (by unfold fX; rw[List.length_map]; exact hn.key) _ _
theorem allM_okD{fs:List aF}{n:aE}(hn:okPn n)(ks:List ByteArray)(a:List aA):okD (allM fs n ks a):=⟨fun x hx=>by
  obtain⟨k,hk,hx⟩:=List.mem_flatMap.1 hx
  exact(matA_okD hn _).r x hx,fun x hx=>by
  obtain⟨k,hk,hx⟩:=List.mem_flatMap.1 hx
  exact(matA_okD hn _).n x hx⟩
theorem matA_len{fs:List aF}{n:aE}{l:List aA}(h:∀ d,d∈l→d.N≤1000):(matA fs n l).length≤l.length*1000:=by
 refine Nat.le_trans (outP_len _ _ _ _ _) ?_
 rw[←plG_map,List.length_map]
 exact plG_len h
theorem G325_eq{fs:List aF}{n:aE}{a:List aA}(hn:okPn n)(h:okGT fs n a)(hc:Can a)(hl:a.length≤1000):G325 fs n [a]=some (cons (allM fs n (fC (aZ (bS n 0 a))) a)):=by
 have z0:([a]:List (List aA)).getD (0:Int).toNat default=a:=rfl
 have hop:=hn.op
 have hml:=iD n 0 a
 have hks:(fC (aZ (bS n 0 a))).length≤1000:=by
  rw[sortK_len]; unfold aZ; rw[List.length_map]; omega
 have hkl:∀ k,(matA fs n (ofK n 0 k a)).length≤1000000:=fun k=>by
  have h1:=matA_len (fs:=fs) (n:=n) (l:=ofK n 0 k a) fun d hd=>h.nn d (dF.1 hd).1
  have h2:=iM n 0 k a
  omega
 have hal:∀ ks:List ByteArray,(allM fs n ks a).length≤ks.length*1000000:=fun ks=>by
  induction ks with
  | nil=>simp[allM]
  | cons k ks ih=>
   unfold allM at ih ⊢
   rw[List.flatMap_cons,List.length_append,List.length_cons]
   have:=hkl k
   omega
 unfold G325 T325
 simp only[Tr.den,z0]
 rw[if_neg (gY (by omega)),if_neg (gY (by omega)),if_neg (gY (by omega)),if_neg (gY (by omega)),if_neg (gY (by omega)),if_neg (gY (by omega)),if_neg (gY (by omega)),if_pos (beqT hop),if_pos (by simp),G351_eq h.i hn.key (by omega)]
 simp only[Option.bind_some]
 generalize hKS:fC (aZ (bS n 0 a))=ks at hks ⊢
 have h1:=bO (bd:=fun s=>(T325_L1 fs n (ks.map fun k=>ofK n 0 k a) s).den) (fun k=>(allM fs n (ks.take k) a,(k:Int))) ks.length (r:=.inl (allM fs n ks a)) (fun k hk=>?_) ?_
 ·rw[show (([]:List aA),(0:Int))=(fun k:Nat=>(allM fs n (ks.take k) a,(k:Int))) 0 from rfl,h1]
  simp only[Option.bind_some,sel]
  have hd:=allM_okD (fs:=fs) hn ks a
  have hal':=hal ks
  have:=Nat.mul_le_mul hks (Nat.le_refl 1000000)
  rw[G353_eq _ hd.r hd.n (by omega)]
  rfl
 ·unfold T325_L1
  simp only[Tr.den,Int.toNat_natCast,List.length_map]
  have e0:(ks.map fun k=>ofK n 0 k a).getD k default=ofK n 0 (ks.getD k default) a:=by
   rw[cH (by rw[List.length_map]; exact hk),List.getElem_map,←cH hk]
  have hsub:∀ x,x∈ofK n 0 (ks.getD k default) a→x∈a:=fun x hx=>(dF.1 hx).1
  have hT:okGT fs n (ofK n 0 (ks.getD k default) a):=⟨h.i.sub hsub,h.ev.sub hsub,fun d hd=>h.ty d (hsub d hd),fun d hd=>h.nn d (hsub d hd),by have:=iM n 0 (ks.getD k default) a; omega⟩
  have hkey:∀ d,d∈ofK n 0 (ks.getD k default) a→fX n d.Row=fX n ((ofK n 0 (ks.getD k default) a).getD 0 default).Row:=fun d hd=>
   keyP_of (aQ (List.length_pos_iff.2 fun h0=>by rw[h0]at hd; cases hd)) d hd
  rw[if_pos (bH (by omega)),if_pos (by omega),e0,G352_eq hT hn (ofK_can hc).ts hkey]
  simp only[Option.bind_some]
  have h3:=hal (ks.take k)
  rw[List.length_take]at h3
  have h4:(eI n (fX n ((ofK n 0 (ks.getD k default) a).getD 0 default).Row) 0 [] (plA fs n (ofK n 0 (ks.getD k default) a))).length≤1000000:=hkl _
  rw[if_pos (by omega),aL (by omega)]
  have e1:allM fs n (ks.take (k+1)) a=allM fs n (ks.take k) a++matA fs n (ofK n 0 (ks.getD k default) a):=by
   unfold allM
   rw[aM hk,List.flatMap_append,List.flatMap_cons,List.flatMap_nil,List.append_nil]
  rw[e1]; rfl
 ·unfold T325_L1
  simp only[Tr.den,List.length_map]
  rw[if_neg (bK (by omega)),List.take_length]
theorem allM_wt{fs:List aF}{n:aE}{a:List aA}{ks:List ByteArray}(hnd:ks.Nodup)(hc:∀ d,d∈a→kd n 0 d∈ks)(p:Pl→Bool):wt p (allM fs n (fC (aZ (bS n 0 a))) a)=phiK fs n ks p a:=by
 unfold allM phiK
 rw[wt_flat,←sumK_map]
 have hpm:eT (fun k=>wt p (matA fs n (ofK n 0 k a))) (fC (aZ (bS n 0 a)))=eT (fun k=>wt p (matA fs n (ofK n 0 k a))) (aZ (bS n 0 a)):=by
  have:∀ (f:ByteArray→Int) {x y:List ByteArray},x.Perm y→eT f x=eT f y:=fun f x y h=>by
   induction h with
   | nil=>rfl
   | cons a _ ih=>simp only[eT,ih]
   | swap a b l=>simp only[eT]; omega
   | trans _ _ ih1 ih2=>exact ih1.trans ih2
  exact this _ (sortK_perm _)
 rw[hpm]
 refine sumK_ext hnd ((groupM_mc n 0 _).nodup LO.bytes) (fun k hk=>?_) fun k hk=>?_
 ·obtain⟨hx,e⟩:=dF.1 (aQ (List.length_pos_iff.2 (eV.1 hk)))
  rw[←e]; exact hc _ hx
 ·have h0:ofK n 0 k a=[]:=Classical.byContradiction fun h=>hk (eV.2 h)
  rw[h0]; rfl
def cU(acts:List aK):List aA:=acts.flatMap fun x=>if isCp x=true then [] else x.L
theorem bitA1(x:Int):gC .i64 x 1=0∨gC .i64 x 1=1:=by
 unfold gC
 have h:(BitVec.ofInt IntKind.i64.bits x &&& BitVec.ofInt IntKind.i64.bits 1).toNat≤1:=by
  rw[BitVec.toNat_and]
  exact Nat.and_le_right
 have e:∀ k:Nat,k≤1→IntKind.i64.wrap (k:Int)=0∨IntKind.i64.wrap (k:Int)=1:=fun k hk=>by
  rw[wrap_nat (by omega)]; omega
 exact e _ h
theorem flatC_take{acts:List aK}{k:Nat}(hk:k<acts.length):cU (acts.take (k+1))=cU (acts.take k)++(if isCp (acts.getD k default)=true then [] else (acts.getD k default).L):=by
 unfold cU
 rw[aM hk,List.flatMap_append,List.flatMap_cons,List.flatMap_nil,List.append_nil]
theorem flatC_okN{acts:List aK}(h:okL 40 bT acts)(k:Nat):okN (cU (acts.take k)):=fun d hd=>by
 obtain⟨x,hx,hd⟩:=List.mem_flatMap.1 hd
 by_cases hc:isCp x=true
 ·rw[if_pos hc]at hd; cases hd
 ·rw[if_neg hc]at hd
  exact(fO.okd (h.2 x (List.mem_of_mem_take hx)).2.2).n d hd
theorem flatC_len{ta:List Int}:∀ {acts:List aK} {s0:List aA} {c:Int},FitsP ta acts s0 c→(cU acts).length≤8*acts.length
 | [],_,_,_=>Nat.zero_le _
 | x::l,s0,c,h=>by
  unfold cU
  rw[List.flatMap_cons,List.length_append,List.length_cons]
  by_cases hc:isCp x=true
  ·rw[if_pos hc]
   have:=flatC_len (h.1 hc).2
   unfold cU at this
   simp only[List.length_nil]; omega
  ·rw[if_neg hc]
   have hc:isCp x=false:=by simpa using hc
   obtain⟨h1,_,_,h2⟩:=h.2 hc
   have:=flatC_len h2
   unfold cU at this
   omega
theorem G334_eq(acts:List aK)(hok:okL 40 bT acts)(hlen:acts.length≤25)(hl:(cU acts).length≤1000):G334 acts=some (cons (cU acts)):=by
 have hN:okD (cU acts):=by
  refine⟨fun d hd=>?_,fun d hd=>?_⟩
  all_goals
   obtain⟨x,hx,hd⟩:=List.mem_flatMap.1 hd
   by_cases hc:isCp x=true
   ·rw[if_pos hc]at hd; cases hd
   ·rw[if_neg hc]at hd
    first | exact(fO.okd (hok.2 x hx).2.2).r d hd | exact(fO.okd (hok.2 x hx).2.2).n d hd
 have htl:∀ k,(cU (acts.take k)).length≤1000:=fun k=>by
  have e:cU acts=cU (acts.take k)++cU (acts.drop k):=by unfold cU; rw[←List.flatMap_append,List.take_append_drop]
  have:=congrArg List.length e
  rw[List.length_append]at this
  omega
 unfold G334 T334
 simp only[Tr.den]
 have h1:=bO (bd:=fun s=>(T334_L0 acts s).den) (fun k=>(cU (acts.take k),(k:Int))) acts.length (r:=.inl (cU acts)) (fun k hk=>?_) ?_
 ·rw[show (([]:List aA),(0:Int))=(fun k:Nat=>(cU (acts.take k),(k:Int))) 0 from rfl,h1]
  simp only[Option.bind_some,sel]
  rw[G114_eq _ hN (by omega)]
  rfl
 ·unfold T334_L0
  simp only[Tr.den,Int.toNat_natCast]
  rw[if_pos (bH (by omega)),if_pos (by omega),aL (by omega),flatC_take hk]
  have ht:=htl k
  have hL:(acts.getD k default).L.length≤1048576:=(hok.2 _ (aQ hk)).2.2.1
  rcases bitA1 (acts.getD k default).Do with h0 | h0
  ·rw[if_pos (beqT h0),if_pos (by omega),if_pos (by omega),if_neg (show ¬ isCp (acts.getD k default)=true by unfold isCp; rw[h0]; decide)]
   rfl
  ·rw[if_neg (gY (by omega)),if_pos (show isCp (acts.getD k default)=true by unfold isCp; rw[h0]; decide),List.append_nil]
   rfl
 ·unfold T334_L0
  simp only[Tr.den]
  rw[if_neg (bK (by omega)),List.take_length]
theorem addZ_step{x r:List aA}{c:Nat}(hx:okD x)(hr:okD r)(hl:x.length≤c*3000000000)(hrl:r.length≤3000000000)(hc:c≤100):G12 x r=some (cons (x++r))∧okD (cons (x++r))∧(cons (x++r)).length≤(c+1)*3000000000∧∀ p,W (wt p (cons (x++r)))=W (wt p x+wt p r):=by
 have hcl:=dI (x++r)
 rw[List.length_append]at hcl
 refine⟨G12_eq _ _ hx hr (by omega),(hx.app hr).cons,by omega,fun p=>?_⟩
 rw[dC _ p,dG]
theorem sumsMain(fs:List aF)(n:aE)(ta:List Int)(acts:List aK)(hl:okL 104 dT fs)(hn:iL n)(hok:okL 40 bT acts)(hR:RightP fs n ta)(hlen:acts.length≤25)(hF:FitsP ta acts [] (-1))
  (ks:List ByteArray)(hnd:ks.Nodup)(hcov:∀ x,x∈acts→∀ d,d∈x.L→kd n 0 d∈ks):
  Sp (G319s0 acts fs n (-1) []) (fun z=>okD z.1∧z.1.length≤75000000000∧(∀ p,W (wt p z.1)=W (phiK fs n ks p (cons (cU acts))))∧AOk n ta (cons (cU acts))∧∀ d,d∈cons (cU acts)→TyR ta d.Row):=by
 have hP:=hR.pn
 have hz:=hP.size
 unfold G319s0 T319s0
 simp only[Tr.den]
 refine Sq.bind (fun z=>∃ m c r,z = .inl (m,c,r)∧okD r∧r.length≤75000000000∧(∀ p,W (wt p r)=W (phiK fs n ks p (cons (cU acts))))∧AOk n ta (cons (cU acts))∧∀ d,d∈cons (cU acts)→TyR ta d.Row) ?_ fun z hz'=>?_
 ·refine cQ (fun s:KP×Int×List aA×Int=>s.2.2.2) acts.length (by omega)
   (fun s=>∃ a,a=cons (cU (acts.take s.2.2.2.toNat)) ∧ -1≤s.2.1∧s.2.1≤2199023255552∧AOk n ta a∧a.length≤8*s.2.2.2.toNat∧(∀ d,d∈a→TyR ta d.Row)∧QInv n a (s.2.1-(n.Size-1)) s.1∧FitsP ta (acts.drop s.2.2.2.toNat) a s.2.1 ∧
    okD s.2.2.1∧s.2.2.1.length≤s.2.2.2.toNat*3000000000∧∀ p,W (wt p s.2.2.1)=W (phiK fs n ks p a)) (fun s k hI hk hkN=>?_)
   ⟨[],rfl,by simp only; omega,by simp only; omega,.nil n ta,by simp,fun d hd=>(by cases hd),.init n _,by simpa using hF,.nil,by simp,fun p=>by rw[phiK_nil]; rfl⟩ rfl
  obtain⟨m,c,r,v⟩:=s
  obtain⟨a,ea,hc1,hc2,hA,hal,hT,hQ,hF,hr,hrl,hw⟩:=hI
  simp only at hk ea hc1 hc2 hal hQ hF hr hrl hw
  subst hk
  simp only[Int.toNat_natCast]at ea hal hF hrl
  unfold T319s0_L0
  simp only[Tr.den,Int.toNat_natCast]
  by_cases hc:k<acts.length
  ·have hok':=hok.2 _ (aQ hc)
   rw[bW hc]at hF
   rw[if_pos (bH (by omega)),if_pos (by omega)]
   refine Sq.bind (fun z=>∃ m2 c2 r2 a2,z=(m2,c2,r2)∧a2=cons (cU (acts.take (k+1))) ∧ -1≤c2∧c2≤2199023255552∧AOk n ta a2∧a2.length≤8*(k+1)∧(∀ d,d∈a2→TyR ta d.Row)∧QInv n a2 (c2-(n.Size-1)) m2∧FitsP ta (acts.drop (k+1)) a2 c2 ∧
    okD r2∧r2.length≤(k+1)*3000000000∧∀ p,W (wt p r2)=W (phiK fs n ks p a2)) ?_ (fun z hz'=>?_)
   ·refine bX (fun h3=>?_) (fun h3=>?_)
    ·obtain⟨hC,hF'⟩:=hF.1 h3
     have ea2:a=cons (cU (acts.take (k+1))):=by rw[flatC_take hc,if_pos h3,List.append_nil]; exact ea
     have hrl2:r.length≤(k+1)*3000000000:=Nat.le_trans hrl (Nat.mul_le_mul_right _ (Nat.le_succ k))
     rw[if_pos (by omega)]
     by_cases hle:(acts.getD k default).C>c
     ·rw[G314s0_eq _ fs n c m hP hQ.mp (fun q=>by
       rw[hQ.val]
       exact⟨hA.ok.okD.sub ofK_sub,(hA.can.filter _).filter _,by have:=ofK_le n q a (c-(n.Size-1)); have:=hA.len; omega⟩) (by omega) (by omega) hC]
      simp only[Option.bind_some]
      rw[if_pos hle]at hF'
      exact aB.2 ⟨_,_,_,a,rfl,ea2,by omega,hC,hA,by omega,hT,hQ.close (by omega),hF',hr,hrl2,hw⟩
     ·rw[G314s0_old _ fs n c m (by omega)]
      simp only[Option.bind_some]
      rw[if_neg hle]at hF'
      exact aB.2 ⟨_,_,_,a,rfl,ea2,hc1,hc2,hA,by omega,hT,hQ,hF',hr,hrl2,hw⟩
    ·obtain⟨hL,hD,hPs,hF'⟩:=hF.2 h3
     have hIL:okI n 0 (acts.getD k default).L:=okI_pat hR hok'.2.2 (fun d hd=>(hD d hd).2.2.2.1) (fun d hd=>⟨(hD d hd).2.1,(hD d hd).2.2.1⟩)
     have hlA:=hA.len
     have hA':AOk n ta (cons (a++(acts.getD k default).L)):=hA.push hIL (fun d hd=>(hD d hd).2.2.2.1) (by omega) hPs
     have hcl:=dI (a++(acts.getD k default).L)
     rw[List.length_append]at hcl
     have ev1:=hR.ev hl hn hA.sm
     have ev2:=hR.ev hl hn hA'.sm
     have p1:=push_eq (fs:=fs) 0 c hP hA ev1 hIL (by omega) (fun d hd=>(hD d hd).1) hc1 hA' ev2 hQ
     obtain⟨o1,o2⟩:=pushR_ok (fs:=fs) hP hA hIL (by omega) hA'
     obtain⟨g1,g2,g3,g4⟩:=addZ_step hr o1 hrl o2 (by omega)
     have hphi:=fun p=>push_phi (fs:=fs) (ks:=ks) hP hA.can hA.ok hIL hnd (fun d hd=>hcov _ (aQ hc) d hd) p
     have ea2:cons (a++(acts.getD k default).L)=cons (cU (acts.take (k+1))):=by
      rw[flatC_take hc,if_neg (show ¬ isCp (acts.getD k default)=true by unfold isCp; rw[h3]; decide),ea]
      exact cons_cons_app (flatC_okN hok k) hIL.n
     rw[if_pos (by omega),p1]
     simp only[Option.bind_some]
     rw[g1]
     simp only[Option.bind_some]
     refine aB.2 ⟨_,_,_,_,rfl,ea2,hc1,hc2,hA',by omega,fun d hd=>?_,hQ.push hA.can hIL.n (fun d hd=>bH (by have:=(hD d hd).1; omega)),hF',g2,g3,fun p=>?_⟩
     ·obtain⟨z,hz,e⟩:=gO hd
      have e2:d.Row=z.Row:=congrArg Prod.snd e
      rw[e2]
      exact(List.mem_append.1 hz).elim (hT z) fun h=>(hD z h).2.2.2.2.2
     ·rw[g4 p]
      refine(iS (hw p) (hphi p)).trans ?_
      congr 1; omega
   ·obtain⟨m2,c2,r2,a2,rfl,e2,hd1,hd2,hB,hbl,hT2,hQ2,hF2,hr2,hrl2,hw2⟩:=hz'
    refine aB.2 ⟨rfl,hc,a2,?_,hd1,hd2,hB,?_,hT2,hQ2,?_,hr2,?_,hw2⟩
    ·simp only; rw[aL (by omega),Int.toNat_natCast]; exact e2
    ·simp only; rw[aL (by omega),Int.toNat_natCast]; exact hbl
    ·simp only; rw[aL (by omega),Int.toNat_natCast]; exact hF2
    ·simp only; rw[aL (by omega),Int.toNat_natCast]; exact hrl2
  ·rw[if_neg (bK (by omega))]
   rw[List.take_of_length_le (by omega)]at ea
   subst ea
   exact aB.2 ⟨_,_,_,rfl,hr,by omega,hw,hA,hT⟩
 ·obtain⟨m,c,r,rfl,h1⟩:=hz'
  exact aB.2 h1
theorem G310_true(fs:List aF)(n:aE)(ta:List Int)(acts:List aK)(hl:okL 104 dT fs)(hn:iL n)(ht:okL 8 dH ta)(hok:okL 40 bT acts):G310 fs n ta acts=some true:=by
 unfold G310 T310
 simp only[Tr.den]
 rw[G311_eq]
 simp only[Option.bind_some]
 refine Sp.eq ?_
 refine Sq.bind _ (Sq.of (G312_sp fs n ta acts 25 (by omega) hl hn ht hok)) fun r hr=>?_
 cases r with
 | false=>exact aB.2 rfl
 | true=>
  obtain⟨hR,hlen,hF⟩:=hr rfl
  simp only[Bool.not_true,Bool.false_eq_true,if_false]
  rw[G313s0_eq]
  simp only[Option.bind_some]
  have hfl:=flatC_len hF
  have hcv:∀ x,x∈acts→∀ d,d∈x.L→kd n 0 d∈aZ (bS n 0 (acts.flatMap fun x=>x.L)):=fun x hx d hd=>
   eV.2 fun h0=>by
    have:d∈ofK n 0 (kd n 0 d) (acts.flatMap fun x=>x.L):=dF.2 ⟨List.mem_flatMap.2 ⟨x,hx,hd⟩,rfl⟩
    rw[h0]at this; cases this
  have hnd:(aZ (bS n 0 (acts.flatMap fun x=>x.L))).Nodup:=(groupM_mc n 0 _).nodup LO.bytes
  refine Sq.bind _ (Sq.of (sumsMain fs n ta acts hl hn hok hR hlen hF _ hnd hcv)) fun z hz=>?_
  obtain⟨z1,z2,z3⟩:=z
  obtain⟨o1,o2,hw,hA,hT⟩:=hz
  simp only at o1 o2 hw
  have hG:okGT fs n (cons (cU acts)):=by
   have hev:=hR.ev hl hn hA.sm
   have hal:=hA.len
   refine⟨hA.ok,hev,fun d hd p hp=>?_,fun d hd=>by have:=(hA.pos d hd).2; omega,by omega⟩
   have hS:=hn.2.2.2.2.2.2.2.2.2.2.2.2.2.2.1
   exact G344_ty hl hR.fr (hS.2 _ (aQ hp)).1 (hR.ty p hp) d.Time (hT d hd) (hev.get hd hp)
  have hcons:∀ d,d∈cons (cU acts)→kd n 0 d∈aZ (bS n 0 (acts.flatMap fun x=>x.L)):=fun d hd=>by
   obtain⟨y,hy,e⟩:=gO hd
   have e2:d.Row=y.Row:=congrArg Prod.snd e
   show keyB n 0 d.Row∈_
   rw[e2]
   obtain⟨x,hx,hy⟩:=List.mem_flatMap.1 hy
   by_cases hc:isCp x=true
   ·rw[if_pos hc]at hy; cases hy
   ·rw[if_neg hc]at hy; exact hcv x hx y hy
  have hal:=hA.len
  have hd:=allM_okD (fs:=fs) hR.pn (fC (aZ (bS n 0 (cons (cU acts))))) (cons (cU acts))
  rw[if_pos trivial,G334_eq acts hok hlen (by omega)]
  simp only[Option.bind_some]
  rw[G325_eq hR.pn hG hA.can (by omega)]
  simp only[Option.bind_some]
  rw[G26_same z1 _ o1 hd.cons (by omega) ?_ fun p=>?_]
  ·exact aB.2 rfl
  ·have hcl:=dI (allM fs n (fC (aZ (bS n 0 (cons (cU acts))))) (cons (cU acts)))
   have hml:=iD n 0 (cons (cU acts))
   have hks:(fC (aZ (bS n 0 (cons (cU acts))))).length≤1000:=by
    rw[sortK_len]; unfold aZ; rw[List.length_map]; omega
   have hkl:∀ ks:List ByteArray,(allM fs n ks (cons (cU acts))).length≤ks.length*1000000:=fun ks=>by
    induction ks with
    | nil=>simp[allM]
    | cons k ks ih=>
     unfold allM at ih ⊢
     rw[List.flatMap_cons,List.length_append,List.length_cons]
     have h1:=matA_len (fs:=fs) (n:=n) (l:=ofK n 0 k (cons (cU acts))) fun d hd=>hG.nn d (dF.1 hd).1
     have h2:=iM n 0 k (cons (cU acts))
     omega
   have h3:=hkl (fC (aZ (bS n 0 (cons (cU acts)))))
   have h4:=Nat.mul_le_mul hks (Nat.le_refl 1000000)
   omega
  ·rw[hw p,dC _ p,allM_wt hnd hcons p]
end Go.PL
