/-
  Parts: The kept part of a plain-law text (strip.py). Own work. The kept part of a plain-law text (strip.py). Own work. The kept part of a plain-law text (strip.py). Own work. The kept part of a plain-law text (strip.py). Own work. The kept part of a plain-law text (strip.py). Own work.
-/
import Derived.Test.YthifkbcpnbcenaaGreatDoorMf
namespace Go.PL
open Go
set_option linter.unusedVariables false
set_option maxRecDepth 20000
theorem loopWp{P:Program}{S R:Type}{L:S→Tr P (S⊕R)}(I:S→Prop)(μ:S→Nat){Q:R→Prop}(h:∀ s,I s→(L s).wpT (sel (fun s'=>I s'∧μ s' < μ s) Q)){s:S}(hs:I s):Tr.LoopT (fun s Z=>(L s).wpT Z) Q s:=
 LoopT_ind (t:=fun s Z=>(L s).wpT Z) (fun s _ _ hq h=>Tr.wpT_mono (L s) hq h) I μ h hs
abbrev KS:=List (ByteArray×GSide)
def side0:GSide:=⟨⟨[],[]⟩⟩
structure okSd (n:GNode)(s:GSide):Prop where
 c0:Can s.rows_.e0
 c1:Can s.rows_.e1
 i0:okI n 0 s.rows_.e0
 i1:okI n 1 s.rows_.e1
 l0:s.rows_.e0.length≤10000
 l1:s.rows_.e1.length≤10000
theorem okSd0(n:GNode):okSd n side0:=⟨.nil,.nil,.nil,.nil,by decide,by decide⟩
structure okNode (n:GNode):Prop where
 op:(n.Op=6∧okB n)∨(n.Op=7∧1≤n.Keep∧n.Keep≤10000)
 k1:n.Key.length≤1000
 k2:n.Key2.length≤1000
theorem okNode.cols{n:GNode}(h:okNode n)(i:Int):(colsOf n i).length≤1000:=by
 by_cases hi:i=0
 ·unfold colsOf; rw[if_pos hi]; exact h.k1
 ·unfold colsOf; rw[if_neg hi]; exact h.k2
theorem okI.tm{n:GNode}{i:Int}{l:List GDelta}(h:okI n i l):okTm l:=h.t
theorem okI.w{n:GNode}{i:Int}{l:List GDelta}(h:okI n i l):okW l:=h.r
def chgF(n:GNode)(i:Int)(l:List GDelta)(s:GSide):List GDelta:=
 if n.Op=6 then joinF n i l (if i=0 then s.rows_.e1 else s.rows_.e0)
 else if i=0 then asofF n l s.rows_.e1
 else cons (asofF n (nearF s.rows_.e0 (l.getD 0 default).Time ((l.getD (l.length-1) default).Time+n.Keep)) (cons (s.rows_.e1++l))++(asofF n (nearF s.rows_.e0 (l.getD 0 default).Time ((l.getD (l.length-1) default).Time+n.Keep)) s.rows_.e1).map neg)
theorem okD_flat{f:GDelta→List GDelta}{l:List GDelta}(h:∀ a,a∈l→okD (f a)):okD (l.flatMap f):=by
 constructor
 ·intro x hx
  obtain⟨a,ha,hx⟩:=List.mem_flatMap.1 hx
  exact(h a ha).r x hx
 ·intro x hx
  obtain⟨a,ha,hx⟩:=List.mem_flatMap.1 hx
  exact(h a ha).n x hx
theorem joinF_ok{n:GNode}{i:Int}{l r:List GDelta}(h:okW l)(h':okW r):okD (joinF n i l r):=by
 refine okD_flat fun a ha=>?_
 unfold joinA
 constructor
 ·intro x hx
  obtain⟨b,hb,rfl⟩:=List.mem_map.1 hx
  have:=h a ha
  have:=h' b (nearF_mem hb)
  unfold joinP okR pairF; split <;> simp <;> omega
 ·intro x hx
  obtain⟨b,hb,rfl⟩:=List.mem_map.1 hx
  unfold joinP pairF; split <;> exact W_in _
theorem asofF_ok{n:GNode}{l r:List GDelta}(h:okW l)(h':okW r)(hn:okN l):okD (asofF n l r):=by
 refine okD_flat fun a ha=>?_
 unfold asofA
 have hr:okW (nearF r (a.Time-n.Keep+1) a.Time):=fun d hd=>h' d (nearF_mem hd)
 split
 ·exact .nil
 ·constructor
  ·intro x hx
   rw[List.mem_singleton.1 hx]
   have:=h a ha
   have:=hr.get ((nearF r (a.Time-n.Keep+1) a.Time).length-1)
   unfold okR pairF
   simp only[List.length_append]; omega
  ·intro x hx
   rw[List.mem_singleton.1 hx]
   exact hn a ha
theorem neg_ok{l:List GDelta}(h:okD l):okD (l.map neg):=⟨fun x hx=>by
  obtain⟨y,hy,rfl⟩:=List.mem_map.1 hx
  exact h.r y hy,fun x hx=>by
  obtain⟨y,hy,rfl⟩:=List.mem_map.1 hx
  exact W_in _⟩
theorem near_okI{n:GNode}{i:Int}{l:List GDelta}(h:okI n i l)(a b:Int):okI n i (nearF l a b):=h.sub fun x hx=>nearF_mem hx
theorem asofF_len(n:GNode)(l r:List GDelta):(asofF n l r).length≤l.length:=by
 have:=flatMap_len (asofA_len n r) l
 unfold asofF; omega
theorem chgF_ok{n:GNode}{i:Int}{l:List GDelta}{s:GSide}(hi:i=0∨i=1)(hl:okI n i l)(hs:okSd n s):okD (chgF n i l s):=by
 unfold chgF
 split
 ·split
  ·exact joinF_ok hl.w hs.i1.w
  ·exact joinF_ok hl.w hs.i0.w
 ·split
  ·exact asofF_ok hl.w hs.i1.w hl.n
  ·rename_i h0
   obtain rfl:i=1:=by omega
   exact((asofF_ok (near_okI hs.i0 _ _).w (hs.i1.app hl).cons.w (near_okI hs.i0 _ _).n).app (neg_ok (asofF_ok (near_okI hs.i0 _ _).w hs.i1.w (near_okI hs.i0 _ _).n))).cons
theorem chgF_len{n:GNode}{i:Int}{l:List GDelta}{s:GSide}(hs:okSd n s)(hl:l.length≤10000):(chgF n i l s).length≤100000000:=by
 have h0:=hs.l0
 have h1:=hs.l1
 unfold chgF
 split
 ·have:(joinF n i l (if i=0 then s.rows_.e1 else s.rows_.e0)).length≤10000*10000:=by
   refine Nat.le_trans (flatMap_len (joinA_len n i _) l) (Nat.mul_le_mul hl ?_)
   split <;> assumption
  omega
 ·split
  ·have:=asofF_len n l s.rows_.e1; omega
  ·refine Nat.le_trans (cons_len _) ?_
   rw[List.length_append,List.length_map]
   have h2:=nearF_len s.rows_.e0 (l.getD 0 default).Time ((l.getD (l.length-1) default).Time+n.Keep)
   generalize nearF s.rows_.e0 (l.getD 0 default).Time ((l.getD (l.length-1) default).Time+n.Keep)=c at *
   have h3:=asofF_len n c (cons (s.rows_.e1++l))
   have h4:=asofF_len n c s.rows_.e1
   omega
theorem G59s0_eq(i:Int)(l:List GDelta)(n:GNode)(cl:Int)(m:KS)(k:ByteArray)(s:GSide)(hi:i=0∨i=1)(hn:okNode n)(hc:Can l)(hl:okI n i l)(hs:okSd n s)(h0:l≠[])(hlen:l.length≤10000):
  G59s0 i l n cl m k s=some (chgF n i l s):=by
 have hs0:=hs.l0
 have hs1:=hs.l1
 unfold G59s0 T59s0
 simp only[Tr.den]
 rcases hn.op with⟨hop,hB⟩ | ⟨hop,hK⟩
 ·rw[if_pos (beqT hop)]
  have hF:chgF n i l s=joinF n i l (if i=0 then s.rows_.e1 else s.rows_.e0):=by unfold chgF; rw[if_pos hop]
  rw[hF]
  rcases hi with rfl | rfl
  ·rw[show IntKind.i64.wrap (1-(0:Int))=1 by rw[wrap_id] <;> omega,if_neg (by omega),if_pos rfl,if_pos rfl,
    G126s0_eq 0 l s.rows_.e1 n cl m k s (.inl rfl) hB hs.c1.ts hl.tm hs.i1.tm hl.w hs.i1.w (by omega) (by omega)]
   rfl
  ·rw[show IntKind.i64.wrap (1-(1:Int))=0 by rw[wrap_id] <;> omega,if_pos rfl,if_neg (by omega),
    G126s0_eq 1 l s.rows_.e0 n cl m k s (.inr rfl) hB hs.c0.ts hl.tm hs.i0.tm hl.w hs.i0.w (by omega) (by omega)]
   rfl
 ·rw[if_neg (beqF (by omega))]
  have hop6:¬ n.Op=6:=by omega
  rcases hi with rfl | rfl
  ·rw[if_pos (beqT rfl),G127s0_eq l s.rows_.e1 n cl m k s hK hs.c1.ts hl.tm hs.i1.tm hl.w hs.i1.w (by omega) (by omega)]
   have hF:chgF n 0 l s=asofF n l s.rows_.e1:=by unfold chgF; rw[if_neg hop6,if_pos rfl]
   rw[hF]
   rfl
  ·have hl0:=List.length_pos_iff.2 h0
   have w1:IntKind.i64.wrap ((l.length:Int)-1)=((l.length-1:Nat):Int):=by rw[wrap_id] <;> omega
   have t1:=hl.tm.get (l.length-1)
   have t0:=hl.tm.get 0
   have w2:IntKind.i64.wrap ((l.getD (l.length-1) default).Time+n.Keep)=(l.getD (l.length-1) default).Time+n.Keep:=by rw[wrap_id] <;> omega
   rw[if_neg (beqF (by omega)),w1]
   simp only[Int.toNat_natCast,Int.toNat_zero]
   rw[w2,if_pos (by omega),if_pos (by omega),if_pos (by omega)]
   have hF:chgF n 1 l s=cons (asofF n (nearF s.rows_.e0 (l.getD 0 default).Time ((l.getD (l.length-1) default).Time+n.Keep)) (cons (s.rows_.e1++l))++(asofF n (nearF s.rows_.e0 (l.getD 0 default).Time ((l.getD (l.length-1) default).Time+n.Keep)) s.rows_.e1).map neg):=by
    unfold chgF; rw[if_neg hop6,if_neg (by omega)]
   rw[hF,G128_eq s.rows_.e0 _ _ hs.c0.ts hs.i0.tm (by omega) (by omega) (by omega)]
   simp only[Option.bind_some]
   have c1:=near_okI hs.i0 (l.getD 0 default).Time ((l.getD (l.length-1) default).Time+n.Keep)
   have c2:=nearF_len s.rows_.e0 (l.getD 0 default).Time ((l.getD (l.length-1) default).Time+n.Keep)
   generalize nearF s.rows_.e0 (l.getD 0 default).Time ((l.getD (l.length-1) default).Time+n.Keep)=c at *
   have okA:=(hs.i1.app hl)
   have hcl:=cons_len (s.rows_.e1++l)
   rw[List.length_append]at hcl
   rw[if_pos (by omega),G12_eq _ _ hs.i1.okD hl.okD (by omega)]
   simp only[Option.bind_some]
   rw[G127s0_eq c (cons (s.rows_.e1++l)) n cl m k s hK (cons_can okA.n).ts c1.tm okA.cons.tm c1.w okA.cons.w (by omega) (by omega)]
   simp only[Option.bind_some]
   rw[if_pos (by omega),G127s0_eq c s.rows_.e1 n cl m k s hK hs.c1.ts c1.tm hs.i1.tm c1.w hs.i1.w (by omega) (by omega)]
   simp only[Option.bind_some]
   have a1:=asofF_len n c (cons (s.rows_.e1++l))
   have a2:=asofF_len n c s.rows_.e1
   rw[G129_eq _ _ (asofF_ok c1.w okA.cons.w c1.n) (asofF_ok c1.w hs.i1.w c1.n) (by omega)]
   rfl
def cntS(s:GSide):Int:=wt all1 s.rows_.e0+wt all1 s.rows_.e1
def cntK(m:KS)(k:ByteArray):Int:=match mlook m k with | some s=>cntS s | none=>0
theorem G15s0_eq(n:GNode)(cl:Int)(m:KS)(hm:MC m)(hl:∀ k s,mlook m k=some s→s.rows_.e0.length≤1000000000000∧s.rows_.e1.length≤1000000000000):G15s0 n cl m=some (W (sumK (cntK m) (mkeys m)),m):=by
 unfold G15s0
 refine Det.eq ?_
 unfold T15s0
 simp only[Tr.wpT]
 refine loopWp (fun s:List ByteArray×KS×Int=>s.2.1=m∧s.1.Nodup∧(∀ k,k∈s.1→k∈mkeys m)∧W (s.2.2+sumK (cntK m) s.1)=W (sumK (cntK m) (mkeys m))∧in64 s.2.2) (fun s=>s.1.length) (fun s hs=>?_) (s:=(mkeys m,m,0)) ⟨rfl,hm.nodup LO.bytes,fun _ h=>h,by rw[Int.zero_add],by simp only; omega,by simp only; omega⟩
 obtain⟨rem,m',acc⟩:=s
 obtain⟨e,h1,h2,h3,h4⟩:=hs
 simp only at e h1 h2 h3 h4
 subst e
 unfold T15s0_L0
 simp only[Tr.wpT]
 refine⟨fun hr=>?_,fun k c hk hc=>?_,fun hr=>?_⟩
 ·subst hr
  simp only[sel]
  simp only[sumK,Int.add_zero]at h3
  rw[←h3,W_id h4]
 ·obtain⟨q0,q1⟩:=hl k c hc
  refine⟨by omega,_,G13_eq _ q0,by omega,_,G13_eq _ q1,?_⟩
  simp only[sel]
  have hp:=kerase_perm hk
  refine⟨⟨mput_self LO.bytes hm hc,kerase_nodup h1 k,fun k' hk'=>h2 k' ((kerase_mem h1).1 hk').2,?_,W_in _⟩,kerase_len hk⟩
  rw[←h3,sumK_perm _ hp]
  simp only[sumK]
  have e1:cntK m' k=cntS c:=by unfold cntK; rw[hc]
  rw[e1]
  unfold cntS
  have e2:W (acc+W (W (wt all1 c.rows_.e0)+W (wt all1 c.rows_.e1)))=W (acc+(wt all1 c.rows_.e0+wt all1 c.rows_.e1)):=by
   show IntKind.i64.wrap _=IntKind.i64.wrap _
   rw[wrap_addR]
   refine W_add rfl ?_
   show IntKind.i64.wrap _=IntKind.i64.wrap _
   rw[wrap_addL,wrap_addR]
  rw[←Int.add_assoc]
  exact W_add (by rw[←e2]; exact wrap_wrap _) rfl
 ·obtain⟨k,rest,rfl⟩:=List.exists_cons_of_ne_nil hr
  obtain⟨c,hc⟩:=mkeys_look.1 (h2 k List.mem_cons_self)
  exact⟨k,c,List.mem_cons_self,hc⟩
theorem G16s0_eq(n:GNode)(cl:Int)(m:KS):G16s0 n cl m=some (decide (m=[])):=by
 unfold G16s0 T16s0
 simp only[Tr.den]
 congr 1
 cases m with
 | nil=>rfl
 | cons p m=>simp; omega
def setS(m:KS)(k:ByteArray):Option GSide→KS
 | none=>mdel m k
 | some s=>mput m k s
theorem setS_look(m:KS)(k:ByteArray)(o:Option GSide)(k':ByteArray):mlook (setS m k o) k'=if k=k' then o else mlook m k':=by
 cases o with
 | none=>exact mlook_mdel m k k'
 | some s=>exact mlook_mput m k s k'
theorem setS_mc{m:KS}(h:MC m)(k:ByteArray)(o:Option GSide):MC (setS m k o):=by
 cases o with
 | none=>exact h.mdel k
 | some s=>exact h.mput LO.bytes k s
def updS(i:Int)(s:GSide)(c:List GDelta):GSide:=if i=0 then ⟨⟨cons (s.rows_.e0++c),s.rows_.e1⟩⟩ else ⟨⟨s.rows_.e0,cons (s.rows_.e1++c)⟩⟩
def keepS(s:GSide):Option GSide:=if s.rows_.e0.length+s.rows_.e1.length=0 then none else some s
def newS(n:GNode)(i:Int)(l:List GDelta)(m:KS)(k:ByteArray):Option GSide:=keepS (updS i ((mlook m k).getD side0) (ofK n i k l))
def pushM(n:GNode)(i:Int)(l:List GDelta)(m:KS):KS:=(mkeys (groupM n i l)).foldl (fun m' k=>setS m' k (newS n i l m k)) m
def pushO(n:GNode)(i:Int)(l:List GDelta)(m:KS)(k:ByteArray):List GDelta:=chgF n i (ofK n i k l) ((mlook m k).getD side0)
theorem foldS_look(f:ByteArray→Option GSide)(k:ByteArray):∀ (ks:List ByteArray) (m':KS),(k∈ks→mlook (ks.foldl (fun m' k=>setS m' k (f k)) m') k=f k)∧(k∉ks→mlook (ks.foldl (fun m' k=>setS m' k (f k)) m') k=mlook m' k):=by
 intro ks
 induction ks with
 | nil=>exact fun m'=>⟨fun h=>by simp at h,fun _=>rfl⟩
 | cons a ks ih=>
  intro m'
  have ih:=ih (setS m' a (f a))
  rw[List.foldl_cons]
  refine⟨fun h=>?_,fun h=>?_⟩
  ·by_cases h':k∈ks
   ·exact ih.1 h'
   ·rw[ih.2 h',setS_look]
    rcases List.mem_cons.1 h with rfl | h
    ·rw[if_pos rfl]
    ·exact absurd h h'
  ·simp only[List.mem_cons,not_or]at h
   rw[ih.2 h.2,setS_look,if_neg (fun he=>h.1 he.symm)]
theorem pushM_in{n:GNode}{i:Int}{l:List GDelta}{m:KS}{k:ByteArray}(h:k∈mkeys (groupM n i l)):mlook (pushM n i l m) k=newS n i l m k:=(foldS_look (newS n i l m) k _ m).1 h
theorem pushM_out{n:GNode}{i:Int}{l:List GDelta}{m:KS}{k:ByteArray}(h:k∉mkeys (groupM n i l)):mlook (pushM n i l m) k=mlook m k:=(foldS_look (newS n i l m) k _ m).2 h
theorem pushM_mc(n:GNode)(i:Int)(l:List GDelta){m:KS}(h:MC m):MC (pushM n i l m):=by
 unfold pushM
 have:∀ (ks:List ByteArray) (m':KS),MC m'→MC (ks.foldl (fun m' k=>setS m' k (newS n i l m k)) m'):=by
  intro ks
  induction ks with
  | nil=>exact fun m' h=>h
  | cons a ks ih=>exact fun m' h=>ih _ (setS_mc h _ _)
 exact this _ m h
theorem groupM_len(n:GNode)(i:Int)(l:List GDelta):(groupM n i l).length≤l.length:=by
 have:∀ (l:List GDelta) (m:List (ByteArray×List GDelta)),(l.foldl (fun m d=>mput m (kd n i d) ((mlook m (kd n i d)).getD []++[d])) m).length≤m.length+l.length:=by
  intro l
  induction l with
  | nil=>intro m; simp
  | cons d l ih=>
   intro m
   rw[List.foldl_cons]
   refine Nat.le_trans (ih _) ?_
   have h1:=(mput_perm m (kd n i d) ((mlook m (kd n i d)).getD []++[d])).length_eq
   have h2:(mdel m (kd n i d)).length≤m.length:=List.length_filter_le _ _
   rw[h1]; simp only[List.length_cons]; omega
 have h2:=this l []
 simp only[List.length_nil,Nat.zero_add]at h2
 exact h2
structure okM (n:GNode)(m:KS):Prop where
 mc:MC m
 s:∀ k s,mlook m k=some s→okSd n s
theorem okM.get{n:GNode}{m:KS}(h:okM n m)(k:ByteArray):okSd n ((mlook m k).getD side0):=by
 cases hc:mlook m k with
 | none=>exact okSd0 n
 | some s=>exact h.s k s hc
theorem flatMapK_len{f:ByteArray→List GDelta}{c:Nat}(h:∀ a,(f a).length≤c)(l:List ByteArray):(l.flatMap f).length≤l.length*c:=by
 induction l with
 | nil=>simp
 | cons a l ih=>
  rw[List.flatMap_cons,List.length_append,List.length_cons,Nat.add_mul]
  have:=h a
  omega
theorem ofK_can{n:GNode}{i:Int}{k:ByteArray}{l:List GDelta}(h:Can l):Can (ofK n i k l):=h.filter _
theorem ofK_okI{n:GNode}{i:Int}{k:ByteArray}{l:List GDelta}(h:okI n i l):okI n i (ofK n i k l):=h.sub fun x hx=>(List.mem_filter.1 hx).1
theorem perm_cons_eq{l r:List GDelta}(h:l.Perm r)(hl:okN l):cons l=cons r:=(cons_can hl).ext (cons_can fun x hx=>hl x (h.mem_iff.2 hx)) ((cons_same l).trans ((Same.of_perm h).trans (cons_same r).symm))
structure PInv (n:GNode)(i:Int)(r:List GDelta)(m:KS)(s:List ByteArray×List (ByteArray×List GDelta)×KS×Int×List GDelta):Prop where
 gg:s.2.1=groupM n i r
 ii:s.2.2.2.1=i
 nd:s.1.Nodup
 sub:∀ k,k∈s.1→k∈mkeys (groupM n i r)
 mc:MC s.2.2.1
 new:∀ k,k∈mkeys (groupM n i r)→k∉s.1→mlook s.2.2.1 k=newS n i r m k
 old:∀ k,k∉mkeys (groupM n i r)∨k∈s.1→mlook s.2.2.1 k=mlook m k
 out:∃ done:List ByteArray,(done++s.1).Perm (mkeys (groupM n i r))∧s.2.2.2.2=done.flatMap (pushO n i r m)
theorem G25s0_eq(i:Int)(l:List GDelta)(n:GNode)(cl:Int)(m:KS)(hi:i=0∨i=1)(hn:okNode n)(hl:okI n i l)(hm:okM n m)(hlen:l.length≤1000)(hcl:(cons l).length≤1000):
  G25s0 i l n cl m=some (cons ((mkeys (groupM n i (cons l))).flatMap (pushO n i (cons l) m)),pushM n i (cons l) m):=by
 unfold G25s0
 refine Det.eq ?_
 unfold T25s0
 simp only[Tr.wpT]
 refine⟨_,G58s0_eq i l n cl m hi hl (hn.cols i) (by omega),?_⟩
 have hkI:=hl.cons
 have hkC:=cons_can hl.n
 generalize cons l=r at hcl hkI hkC
 have hg:=groupM_mc n i r
 have hgl:=groupM_len n i r
 have hbig:∀ k,(pushO n i r m k).length≤100000000:=fun k=>chgF_len (hm.get k) (Nat.le_trans (ofK_len n i k r) (by omega))
 have hokO:∀ k,okD (pushO n i r m k):=fun k=>chgF_ok hi (ofK_okI hkI) (hm.get k)
 refine loopWp (PInv n i r m) (fun s=>s.1.length) (fun s hs=>?_)
  (s:=(mkeys (groupM n i r),groupM n i r,m,i,[])) ⟨rfl,rfl,hg.nodup LO.bytes,fun _ h=>h,hm.mc,fun k h h'=>absurd h h',fun k _=>rfl,[],by simp,rfl⟩
 obtain⟨rem,g,m',i',out⟩:=s
 obtain⟨e1,e2,h1,h2,h3,h4,h4',done,h5,h6⟩:=hs
 simp only at e1 e2 h1 h2 h3 h4 h4' h5 h6
 subst e1 e2 h6
 have hdl:done.length+rem.length≤1000:=by
  have:=h5.length_eq
  rw[List.length_append,mkeys,List.length_map]at this
  omega
 have hdone:(done.flatMap (pushO n i' r m)).length≤1000*100000000:=
  Nat.le_trans (flatMapK_len hbig done) (Nat.mul_le_mul (show done.length≤1000 by omega) (Nat.le_refl _))
 unfold T25s0_L0
 simp only[Tr.wpT]
 refine⟨fun hr=>?_,fun k c hk hc=>?_,fun hr=>?_⟩
 ·subst hr
  simp only[sel]
  rw[List.append_nil]at h5
  have hp:(done.flatMap (pushO n i' r m)).Perm ((mkeys (groupM n i' r)).flatMap (pushO n i' r m)):=flatMap_perm _ h5
  have hokd:okD (done.flatMap (pushO n i' r m)):=⟨fun x hx=>by
   obtain⟨a,ha,hx⟩:=List.mem_flatMap.1 hx
   exact(hokO a).r x hx,fun x hx=>by
   obtain⟨a,ha,hx⟩:=List.mem_flatMap.1 hx
   exact(hokO a).n x hx⟩
  refine⟨_,G27_eq _ hokd.r hokd.n (by omega),?_⟩
  rw[perm_cons_eq hp hokd.n]
  congr 1
  refine h3.ext LO.bytes (pushM_mc n i' r hm.mc) fun k=>?_
  by_cases hk:k∈mkeys (groupM n i' r)
  ·rw[h4 k hk (by simp),pushM_in hk]
  ·rw[h4' k (.inl hk),pushM_out hk]
 ·have hkg:=h2 k hk
  have hlook:=groupM_look n i' k r
  rw[hc]at hlook
  have hne:ofK n i' k r≠[]:=by
   intro h0
   rw[if_pos h0]at hlook; cases hlook
  rw[if_neg hne]at hlook
  cases hlook
  have hm':=h4' k (.inr hk)
  have hb:=hbig k
  have hp:=kerase_perm hk
  have fin:∀ m2,m2=setS m' k (newS n i' r m k)→PInv n i' r m (kerase rem k,mput (groupM n i' r) k (ofK n i' k r),m2,i',done.flatMap (pushO n i' r m)++pushO n i' r m k)∧(kerase rem k).length<rem.length:=by
   rintro m2 rfl
   refine⟨⟨mput_self LO.bytes hg hc,rfl,kerase_nodup h1 k,fun k' hk'=>h2 k' ((kerase_mem h1).1 hk').2,setS_mc h3 _ _,fun k' q1 q2=>?_,fun k' q=>?_,done++[k],?_,?_⟩,kerase_len hk⟩
   ·simp only at q2 ⊢
    rw[setS_look]
    by_cases hkk:k=k'
    ·subst hkk; rw[if_pos rfl]
    ·rw[if_neg hkk]
     exact h4 k' q1 fun h=>q2 ((kerase_mem h1).2 ⟨fun he=>hkk he.symm,h⟩)
   ·simp only at q ⊢
    rw[setS_look]
    have hkk:¬ k=k':=by
     rintro rfl
     rcases q with q | q
     ·exact q hkg
     ·exact((kerase_mem h1).1 q).1 rfl
    rw[if_neg hkk]
    refine h4' k' (q.imp id fun q=>((kerase_mem h1).1 q).2)
   ·refine List.Perm.trans ?_ h5
    rw[List.append_assoc]
    exact List.Perm.append_left _ hp.symm
   ·simp
  have hcl':=ofK_len n i' k r
  have okK:=ofK_okI (k:=k) hkI
  have canK:=ofK_can (n:=n) (i:=i') (k:=k) hkC
  have main:∀ s:GSide,okSd n s→(mlook m k).getD side0=s→∃ r1,G59s0 i' (ofK n i' k r) n cl (mdel m' k) k s=some r1∧r1=pushO n i' r m k:=by
   intro s hs he
   refine⟨_,G59s0_eq i' _ n cl _ k s hi hn canK okK hs hne (by omega),?_⟩
   unfold pushO; rw[he]
  have nw:∀ s:GSide,(mlook m k).getD side0=s→newS n i' r m k=keepS (updS i' s (ofK n i' k r)):=by
   intro s he; unfold newS; rw[he]
  have wlen:∀ a b:List GDelta,a.length+b.length≤1000000→(IntKind.i64.wrap ((a.length:Int)+(b.length:Int))==0)=decide (a.length+b.length=0):=by
   intro a b hab
   rw[wrap_add (by omega),Bool.eq_iff_iff,beq_iff_eq,decide_eq_true_eq]
   omega
  have gen:∀ s:GSide,okSd n s→(mlook m k).getD side0=s →
    (i'=0→∃ e,G12 s.rows_.e0 (ofK n i' k r)=some e∧e.length+s.rows_.e1.length≤1000000∧keepS ⟨⟨e,s.rows_.e1⟩⟩=newS n i' r m k) ∧
    (i'=1→∃ e,G12 s.rows_.e1 (ofK n i' k r)=some e∧s.rows_.e0.length+e.length≤1000000∧keepS ⟨⟨s.rows_.e0,e⟩⟩=newS n i' r m k):=by
   intro s hs he
   have l0:=hs.l0
   have l1:=hs.l1
   have c0:=cons_len (s.rows_.e0++ofK n i' k r)
   have c1:=cons_len (s.rows_.e1++ofK n i' k r)
   rw[List.length_append]at c0 c1
   constructor
   ·rintro h0
    refine⟨_,G12_eq _ _ hs.i0.okD okK.okD (by omega),by omega,?_⟩
    rw[nw s he]; unfold updS; rw[if_pos h0]
   ·rintro h0
    refine⟨_,G12_eq _ _ hs.i1.okD okK.okD (by omega),by omega,?_⟩
    rw[nw s he]; unfold updS; rw[if_neg (by omega)]
  have keep0:∀ a b:List GDelta,a.length+b.length=0→keepS ⟨⟨a,b⟩⟩=newS n i' r m k→mdel m' k=setS m' k (newS n i' r m k):=by
   intro a b h0 h
   unfold keepS at h
   rw[if_pos h0]at h
   rw[←h]; rfl
  have keep1:∀ a b:List GDelta,¬ a.length+b.length=0→keepS ⟨⟨a,b⟩⟩=newS n i' r m k→mput m' k ⟨⟨a,b⟩⟩=setS m' k (newS n i' r m k):=by
   intro a b h0 h
   unfold keepS at h
   rw[if_neg h0]at h
   rw[←h]; rfl
  rw[hm']
  cases hmk:mlook m k with
  | none=>
   have he:(mlook m k).getD side0=side0:=by rw[hmk]; rfl
   obtain⟨r1,a1,rfl⟩:=main side0 (okSd0 n) he
   obtain⟨g0,g1⟩:=gen side0 (okSd0 n) he
   simp only
   refine⟨_,a1,by omega,?_⟩
   rcases hi with h0 | h0
   ·obtain⟨e,b1,b2,b3⟩:=g0 h0
    rw[if_pos h0]
    refine⟨by omega,e,b1,by omega,by omega,by omega,?_⟩
    have wl:=wlen e [] b2
    by_cases hz:e.length+([]:List GDelta).length=0
    ·rw[if_pos (by rw[wl]; exact decT hz)]
     simp only[sel]
     rw[←h0]
     exact fin _ (keep0 _ _ hz b3)
    ·rw[if_neg (by rw[wl]; exact decF hz)]
     simp only[sel]
     rw[←h0]
     exact fin _ (keep1 _ _ hz b3)
   ·obtain⟨e,b1,b2,b3⟩:=g1 h0
    rw[if_neg (by omega),if_pos h0]
    refine⟨by omega,e,b1,by omega,by omega,by omega,?_⟩
    have wl:=wlen [] e b2
    by_cases hz:([]:List GDelta).length+e.length=0
    ·rw[if_pos (by rw[wl]; exact decT hz)]
     simp only[sel]
     rw[←h0]
     exact fin _ (keep0 _ _ hz b3)
    ·rw[if_neg (by rw[wl]; exact decF hz)]
     simp only[sel]
     rw[←h0]
     exact fin _ (keep1 _ _ hz b3)
  | some s=>
   have he:(mlook m k).getD side0=s:=by rw[hmk]; rfl
   have hs:=hm.s k s hmk
   obtain⟨r1,a1,rfl⟩:=main s hs he
   obtain⟨g0,g1⟩:=gen s hs he
   simp only
   refine⟨_,a1,by omega,?_⟩
   rcases hi with h0 | h0
   ·obtain⟨e,b1,b2,b3⟩:=g0 h0
    rw[if_pos h0]
    refine⟨by omega,e,b1,by omega,by omega,by omega,?_⟩
    have wl:=wlen e s.rows_.e1 b2
    by_cases hz:e.length+s.rows_.e1.length=0
    ·rw[if_pos (by rw[wl]; exact decT hz)]
     simp only[sel]
     rw[←h0]
     exact fin _ (keep0 _ _ hz b3)
    ·rw[if_neg (by rw[wl]; exact decF hz)]
     simp only[sel]
     rw[←h0]
     exact fin _ (keep1 _ _ hz b3)
   ·obtain⟨e,b1,b2,b3⟩:=g1 h0
    rw[if_neg (by omega),if_pos h0]
    refine⟨by omega,e,b1,by omega,by omega,by omega,?_⟩
    have wl:=wlen s.rows_.e0 e b2
    by_cases hz:s.rows_.e0.length+e.length=0
    ·rw[if_pos (by rw[wl]; exact decT hz)]
     simp only[sel]
     rw[←h0]
     exact fin _ (keep0 _ _ hz b3)
    ·rw[if_neg (by rw[wl]; exact decF hz)]
     simp only[sel]
     rw[←h0]
     exact fin _ (keep1 _ _ hz b3)
 ·obtain⟨k,rest,rfl⟩:=List.exists_cons_of_ne_nil hr
  obtain⟨c,hc⟩:=mkeys_look.1 (h2 k List.mem_cons_self)
  exact⟨k,c,List.mem_cons_self,hc⟩
theorem bit1(d:Int):bitA .i64 d 1=0∨bitA .i64 d 1=1:=by
 unfold bitA
 have h:∀ x:BitVec 64,x &&& 1#64=0#64∨x &&& 1#64=1#64:=fun x=>by
  rw[BitVec.and_one_eq_setWidth_ofBool_getLsbD]
  cases x.getLsbD 0
  ·exact .inl rfl
  ·exact .inr rfl
 have e:(BitVec.ofInt 64 1)=1#64:=by decide
 rcases h (BitVec.ofInt 64 d) with h1 | h1
 ·left
  show IntKind.i64.wrap ((BitVec.ofInt 64 d &&& BitVec.ofInt 64 1).toNat:Int)=0
  rw[show (BitVec.ofInt 64 1)=1#64 from e,h1]; rfl
 ·right
  show IntKind.i64.wrap ((BitVec.ofInt 64 d &&& BitVec.ofInt 64 1).toNat:Int)=1
  rw[show (BitVec.ofInt 64 1)=1#64 from e,h1]; rfl
theorem G97_eq(a b c:Int):G97 a b c=some (decide (b≤a∧a≤c)):=by
 unfold G97 T97
 simp only[Tr.den]
 by_cases h:a≥b
 ·rw[if_pos (decT h)]
  simp only[Option.bind_some]
  congr 1
  by_cases h':a≤c
  ·rw[decT h',decT ⟨h,h'⟩]
  ·rw[Bool.eq_iff_iff,decide_eq_true_eq,decide_eq_true_eq]; omega
 ·rw[if_neg (decF h)]
  simp only[Option.bind_some]
  congr 1
  rw[Bool.eq_iff_iff,decide_eq_true_eq]
  constructor
  ·intro h; cases h
  ·omega
def backF(n:GNode):Int:=if n.Op=6 then (if n.After>n.Before then n.After else n.Before) else n.Keep-1
theorem G38_6:G38 6=some 6:=by
 unfold G38 T38
 simp[Tr.den,G97_eq]
theorem G38_7:G38 7=some 7:=by
 unfold G38 T38
 simp[Tr.den,G97_eq]
theorem G10_eq'{n:GNode}(hn:(n.Op=6∧okB n)∨(n.Op=7∧1≤n.Keep∧n.Keep≤10000)):G10 n=some (backF n,0):=by
 unfold G10 T10 G37 T37
 simp only[Tr.den]
 rcases hn with⟨h,hB⟩ | ⟨h,hK⟩
 ·rw[h,G38_6]
  have hb:=hB.b
  have ha:=hB.a
  have e:G98 n=some true:=by
   unfold G98 T98
   simp only[Tr.den,G97_eq,Option.bind_some]
   rw[if_pos (decT hb),decT ha]; rfl
  have e2:G99 n=some (backF n,0):=by unfold G99 T99 backF; simp only[Tr.den]; rw[if_pos h]
  simp only[Option.bind_some,Nat.reduceLT,if_true,Tr.den,e,e2,Bool.not_true,Bool.false_eq_true,if_false]
 ·rw[h,G38_7]
  have e:G100 n=some true:=by
   unfold G100 T100
   simp only[Tr.den,G97_eq,Option.bind_some]
   rw[decT hK]
  have e2:G101 n=some (backF n,0):=by
   unfold G101 T101 backF
   simp only[Tr.den]
   rw[if_neg (show ¬ n.Op=6 by omega),wrap_id (by omega) (by omega)]
  simp only[Option.bind_some,Nat.reduceLT,if_true,Tr.den,e,e2,Bool.not_true,Bool.false_eq_true,if_false]
theorem G10_eq{n:GNode}(hn:okNode n):G10 n=some (backF n,0):=G10_eq' hn.op
theorem backF_in{n:GNode}(hn:okNode n):0≤backF n∧backF n≤10000:=by
 unfold backF
 rcases hn.op with⟨h,hB⟩ | ⟨h,hK⟩
 ·rw[if_pos h]
  have hb:=hB.b
  have ha:=hB.a
  split <;> omega
 ·rw[if_neg (by omega)]; omega
def cutS(t:Int)(s:GSide):GSide:=⟨⟨s.rows_.e0.filter (aft t),s.rows_.e1.filter (aft t)⟩⟩
def newC(t:Int)(m:KS)(k:ByteArray):Option GSide:=keepS (cutS t ((mlook m k).getD side0))
def closeM(t:Int)(m:KS):KS:=(mkeys m).foldl (fun m' k=>setS m' k (newC t m k)) m
theorem closeM_look(t:Int)(m:KS)(k:ByteArray):mlook (closeM t m) k=(mlook m k).bind fun s=>keepS (cutS t s):=by
 by_cases h:k∈mkeys m
 ·rw[closeM,(foldS_look (newC t m) k _ m).1 h]
  obtain⟨c,hc⟩:=mkeys_look.1 h
  unfold newC; rw[hc]; rfl
 ·rw[closeM,(foldS_look (newC t m) k _ m).2 h]
  cases hc:mlook m k with
  | none=>rfl
  | some c=>exact absurd (mkeys_look.2 ⟨c,hc⟩) h
theorem foldS_mc(f:ByteArray→Option GSide):∀ (ks:List ByteArray) {m':KS},MC m'→MC (ks.foldl (fun m' k=>setS m' k (f k)) m'):=by
 intro ks
 induction ks with
 | nil=>exact fun h=>h
 | cons a ks ih=>exact fun h=>ih (setS_mc h _ _)
theorem closeM_mc(t:Int){m:KS}(h:MC m):MC (closeM t m):=foldS_mc _ _ h
structure CInv (t:Int)(m:KS)(s:List ByteArray×KS):Prop where
 nd:s.1.Nodup
 sub:∀ k,k∈s.1→k∈mkeys m
 mc:MC s.2
 new:∀ k,k∈mkeys m→k∉s.1→mlook s.2 k=newC t m k
 old:∀ k,k∉mkeys m∨k∈s.1→mlook s.2 k=mlook m k
theorem G32s0_old(c:Int)(n:GNode)(cl:Int)(m:KS)(h:c≤cl):G32s0 c n cl m=some (m,cl):=by
 unfold G32s0
 refine Det.eq ?_
 unfold T32s0
 simp only[Tr.wpT]
 rw[if_pos (decT h)]
 trivial
theorem G32s0_eq(c:Int)(n:GNode)(cl:Int)(m:KS)(hn:okNode n)(hm:okM n m)(h:cl<c)(h0:0≤c)(h1:c≤2199023255552):G32s0 c n cl m=some (closeM (c-backF n) m,c):=by
 have hbk:=backF_in hn
 unfold G32s0
 refine Det.eq ?_
 unfold T32s0
 simp only[Tr.wpT]
 rw[if_neg (decF (by omega))]
 refine⟨_,G10_eq hn,?_⟩
 have wt:IntKind.i64.wrap (c-backF n)=c-backF n:=wrap_id (by omega) (by omega)
 refine loopWp (CInv (c-backF n) m) (fun s=>s.1.length) (fun s hs=>?_)
  (s:=(mkeys m,m)) ⟨hm.mc.nodup LO.bytes,fun _ h=>h,hm.mc,fun k h h'=>absurd h h',fun k _=>rfl⟩
 obtain⟨rem,m'⟩:=s
 obtain⟨h1,h2,h3,h4,h4'⟩:=hs
 simp only at h1 h2 h3 h4 h4'
 unfold T32s0_L0
 simp only[Tr.wpT]
 refine⟨fun hr=>?_,fun k s hk hc=>?_,fun hr=>?_⟩
 ·subst hr
  simp only[sel]
  congr 1
  refine h3.ext LO.bytes (closeM_mc _ hm.mc) fun k=>?_
  by_cases hk:k∈mkeys m
  ·rw[h4 k hk (by simp),closeM,(foldS_look _ k _ m).1 hk]
  ·rw[h4' k (.inl hk),closeM,(foldS_look _ k _ m).2 hk]
 ·have hkm:=h2 k hk
  have hs:=h4' k (.inr hk)
  rw[hc]at hs
  have hS:=hm.s k s hs.symm
  have l0:=hS.l0
  have l1:=hS.l1
  have q0:=G14_can s.rows_.e0 (c-backF n) hS.i0.okD hS.c0 (by omega)
  have q1:=G14_can s.rows_.e1 (c-backF n) hS.i1.okD hS.c1 (by omega)
  have nw:newC (c-backF n) m k=keepS ⟨⟨s.rows_.e0.filter (aft (c-backF n)),s.rows_.e1.filter (aft (c-backF n))⟩⟩:=by
   unfold newC cutS; rw[←hs]; rfl
  have fin:∀ m2,m2=setS m' k (newC (c-backF n) m k)→CInv (c-backF n) m (kerase rem k,m2)∧(kerase rem k).length<rem.length:=by
   rintro m2 rfl
   refine⟨⟨kerase_nodup h1 k,fun k' hk'=>h2 k' ((kerase_mem h1).1 hk').2,setS_mc h3 _ _,fun k' q1 q2=>?_,fun k' q=>?_⟩,kerase_len hk⟩
   ·simp only at q2 ⊢
    rw[setS_look]
    by_cases hkk:k=k'
    ·subst hkk; rw[if_pos rfl]
    ·rw[if_neg hkk]
     exact h4 k' q1 fun h=>q2 ((kerase_mem h1).2 ⟨fun he=>hkk he.symm,h⟩)
   ·simp only at q ⊢
    rw[setS_look]
    have hkk:¬ k=k':=by
     rintro rfl
     rcases q with q | q
     ·exact q hkm
     ·exact((kerase_mem h1).1 q).1 rfl
    rw[if_neg hkk]
    exact h4' k' (q.imp id fun q=>((kerase_mem h1).1 q).2)
  refine loopWp (fun z:List GDelta×List GDelta×Int=>z=(s.rows_.e0,s.rows_.e1,0)∨z=(s.rows_.e0.filter (aft (c-backF n)),s.rows_.e1,1)∨z=(s.rows_.e0.filter (aft (c-backF n)),s.rows_.e1.filter (aft (c-backF n)),2)) (fun z=>(2-z.2.2).toNat) (fun z hz=>?_) (.inl rfl)
  unfold T32s0_L1
  rcases hz with rfl | rfl | rfl
  ·simp only[Tr.wpT]
   rw[if_pos (decT (by omega)),if_pos trivial,wt]
   refine⟨by omega,_,q0,by omega,?_⟩
   rw[wrap_id (by omega) (by omega)]
   exact⟨.inr (.inl rfl),by simp only; omega⟩
  ·simp only[Tr.wpT]
   rw[if_pos (decT (by omega)),if_neg (by omega),if_pos trivial,wt]
   refine⟨by omega,_,q1,by omega,?_⟩
   rw[wrap_id (by omega) (by omega)]
   exact⟨.inr (.inr rfl),by simp only; omega⟩
  ·simp only[Tr.wpT]
   rw[if_neg (decF (by omega))]
   simp only[sel]
   refine⟨by omega,by omega,?_⟩
   have f0:=List.length_filter_le (aft (c-backF n)) s.rows_.e0
   have f1:=List.length_filter_le (aft (c-backF n)) s.rows_.e1
   generalize s.rows_.e0.filter (aft (c-backF n))=x at *
   generalize s.rows_.e1.filter (aft (c-backF n))=y at *
   have wl:(IntKind.i64.wrap ((x.length:Int)+(y.length:Int))==0)=decide (x.length+y.length=0):=by
    rw[wrap_add (by omega),Bool.eq_iff_iff,beq_iff_eq,decide_eq_true_eq]
    omega
   by_cases hz:x.length+y.length=0
   ·rw[if_pos (by rw[wl]; exact decT hz)]
    refine fin _ ?_
    rw[nw]; unfold keepS; rw[if_pos hz]; rfl
   ·rw[if_neg (by rw[wl]; exact decF hz)]
    refine fin _ ?_
    rw[nw]; unfold keepS; rw[if_neg hz]; rfl
 ·obtain⟨k,rest,rfl⟩:=List.exists_cons_of_ne_nil hr
  obtain⟨s,hs⟩:=mkeys_look.1 (h2 k List.mem_cons_self)
  exact⟨k,s,List.mem_cons_self,(h4' k (.inr List.mem_cons_self)).trans hs⟩
theorem G9s0_eq(n:GNode)(h1:n.Key.length≤1000000)(h2:n.Key2.length≤1000000):G9s0 n=some (n,-1,[]):=by
 unfold G9s0 T9s0
 simp only[Tr.den]
 rw[G36_eq _ (by omega),G36_eq _ (by omega)]
 rfl
theorem G159_eq(a b:GValue):G159 a b=some (cmpV a b):=by
 unfold G159 T159 cmpV thenC cmpI
 simp only[Tr.den,decide_eq_true_eq]
 have hs:=bytesLess_cmp a.S.toList b.S.toList
 have h2:=bytesLess_cmp b.S.toList a.S.toList
 rw[Lib.toList_data,Lib.toList_data]at hs h2
 have e1:Op.bytesLess a.S.toList b.S.toList=decide (cmpS a.S b.S<0):=by rw[Lib.toList_data,Lib.toList_data]; exact hs
 have e2:(a.S.toList==b.S.toList)=decide (cmpS a.S b.S=0):=by
  rw[Bool.eq_iff_iff,beq_iff_eq,decide_eq_true_eq,TO.str.eq,Lib.toList_data,Lib.toList_data]
  constructor
  ·intro h
   generalize a.S=x at h ⊢
   generalize b.S=y at h ⊢
   cases x; cases y; simp at h; simp[h]
  ·intro h; rw[h]
 have h3:cmpS a.S b.S = -1∨cmpS a.S b.S=0∨cmpS a.S b.S=1:=by
  unfold cmpS
  generalize a.S.data.toList=x
  generalize b.S.data.toList=y
  induction x generalizing y with
  | nil=>cases y <;> simp[Lib.compareBytes]
  | cons u x ih=>
   cases y with
   | nil=>simp[Lib.compareBytes]
   | cons v y=>
    rw[Lib.compareBytes]
    by_cases q1:u<v
    ·rw[if_pos q1]; exact .inl rfl
    ·rw[if_neg q1]
     by_cases q2:v<u
     ·rw[if_pos q2]; exact .inr (.inr rfl)
     ·rw[if_neg q2]; exact ih y
 rw[e1,e2]
 by_cases k1:a.Kind<b.Kind
 ·simp[k1]
 ·by_cases k2:b.Kind<a.Kind
  ·simp[k1,k2]
  ·by_cases n1:a.N<b.N
   ·simp[k1,k2,n1]
   ·by_cases n2:b.N<a.N
    ·simp[k1,k2,n1,n2]
    ·rcases h3 with h | h | h <;> simp[k1,k2,n1,n2,h]
theorem G116_eq(a b:List GValue)(ha:a.length≤1073741824)(hb:b.length≤1073741824):G116 a b=some (cmpR a b):=by
 refine Sp.eq ?_
 unfold G116 T116
 simp only[Tr.den,sq_bind]
 refine Sq.while (fun k:Int=>0≤k∧k≤a.length∧k≤b.length∧cmpR (a.drop k.toNat) (b.drop k.toNat)=cmpR a b) (fun k=>a.length-k.toNat) (fun k hk=>?_) ⟨by omega,by omega,by omega,by simp⟩
 obtain⟨h0,h1,h2,h3⟩:=hk
 unfold T116_L0
 simp only[Tr.den,G159_eq,Option.bind_some]
 have stop:(k=a.length∨k=b.length)→Sp (sel (fun _:Unit=>if decide ((a.length:Int)<(b.length:Int))=true then some (-1:Int) else if decide ((a.length:Int)>(b.length:Int))=true then some 1 else some 0) some (Sum.inl ())) (fun z=>z=cmpR a b):=by
  intro hk
  simp only[sel]
  rcases hk with hk | hk
  ·rw[List.drop_eq_nil_of_le (show a.length≤k.toNat by omega)]at h3
   by_cases hl:(a.length:Int)<b.length
   ·rw[if_pos (decT hl)]
    rw[drop_getD (show k.toNat<b.length by omega)]at h3
    exact sq_some.2 h3
   ·rw[if_neg (decF hl),if_neg (decF (by omega))]
    rw[List.drop_eq_nil_of_le (show b.length≤k.toNat by omega)]at h3
    exact sq_some.2 h3
  ·rw[List.drop_eq_nil_of_le (show b.length≤k.toNat by omega)]at h3
   rw[if_neg (decF (by omega))]
   by_cases hl:(a.length:Int)>b.length
   ·rw[if_pos (decT hl)]
    rw[drop_getD (show k.toNat<a.length by omega)]at h3
    exact sq_some.2 h3
   ·rw[if_neg (decF (by omega))]
    rw[List.drop_eq_nil_of_le (show a.length≤k.toNat by omega)]at h3
    exact sq_some.2 h3
 by_cases hk:k<a.length
 ·rw[if_pos (decT hk)]
  simp only[Option.bind_some]
  by_cases hk':k<b.length
  ·rw[if_pos (decT hk'),if_pos ⟨h0,hk⟩,if_pos ⟨h0,hk'⟩]
   rw[drop_getD (show k.toNat<a.length by omega),drop_getD (show k.toNat<b.length by omega)]at h3
   simp only[cmpL]at h3
   by_cases hz:cmpV (a.getD k.toNat default) (b.getD k.toNat default)=0
   ·rw[if_neg (bneF hz),wrap_id (by omega) (by omega)]
    refine sq_some.2 ⟨⟨by omega,by omega,by omega,?_⟩,by omega⟩
    rw[show (k+1).toNat=k.toNat+1 by omega]; refine Eq.trans ?_ h3; simp only[thenC,hz,if_true]
   ·rw[if_pos (bneT hz)]
    refine sq_some.2 (sq_some.2 ?_)
    refine Eq.trans ?_ h3; simp only[thenC,if_neg hz]
  ·rw[if_neg (decF hk')]
   exact sq_some.2 (stop (.inr (by omega)))
 ·rw[if_neg (decF hk)]
  exact sq_some.2 (stop (.inl (by omega)))
theorem G49_eq(a b:GDelta)(ha:okR a)(hb:okR b):G49 a b=some (cmpD a b):=by
 unfold G49 T49
 simp only[Tr.den]
 rw[G116_eq _ _ ha hb]
 unfold cmpD thenC cmpI
 by_cases h1:a.Time<b.Time
 ·rw[if_pos (decT h1),if_pos h1,if_neg (by omega)]
 ·rw[if_neg (decF h1),if_neg h1]
  by_cases h2:b.Time<a.Time
  ·rw[if_pos (decT h2),if_pos h2,if_neg (by omega)]
  ·rw[if_neg (decF h2),if_neg h2,if_pos rfl]; rfl
theorem G115_eq(d:GDelta)(n:Int)(h:okR d):G115 d n=some ⟨d.Time,d.Row,n⟩:=by
 unfold okR at h
 unfold G115 T115
 simp only[Tr.den]
 rw[if_pos (by omega)]
theorem cmpD_le{x y:GDelta}:(cmpD x y≤0)↔ltD y x=false:=by
 have:=cmpD_gt (x:=x) (y:=y)
 unfold ltD
 constructor
 ·intro h; exact decide_eq_false (by omega)
 ·intro h; have:=of_decide_eq_false h; omega
theorem merge_sp(a b:List GDelta)(ha:Srt a)(hb:Srt b)(oa:okRs a)(ob:okRs b)(hn:a.length+b.length≤1000000000000):
  Sp (whileM (fun s=>(T154_L0 a b s).den) (([]:List GDelta),0,0)) (sel (fun r=>r.Perm (a++b)∧Srt r) (fun _=>False)):=by
 refine Sq.while (fun s:List GDelta×Int×Int=>∃ i k:Nat,s.2.1=i∧s.2.2=k∧i≤a.length∧k≤b.length∧(s.1++(a.drop i++b.drop k)).Perm (a++b)∧Srt s.1∧(∀ x,x∈s.1→∀ y,y∈a.drop i++b.drop k→ltD y x=false)) (fun s=>(a.length-s.2.1).toNat+(b.length-s.2.2).toNat) (fun s hs=>?_)
  ⟨0,0,rfl,rfl,by omega,by omega,by simp,.nil,by simp⟩
 obtain⟨o,i,k⟩:=s
 obtain⟨i,k,e1,e2,h1,h2,h3,h4,h5⟩:=hs
 simp only at e1 e2 h3 h4 h5
 subst e1 e2
 have hlen:=h3.length_eq
 simp only[List.length_append,List.length_drop]at hlen
 unfold T154_L0
 simp only[Tr.den,Int.toNat_natCast]
 have takeA:i<a.length→(k<b.length→ltD (b.getD k default) (a.getD i default)=false) →
   Sp (if 0≤(i:Int)∧(i:Int)<(a.length:Int) then (if (o.length+[a.getD i default].length)*40≤140737488355328 then some (o++[a.getD i default],IntKind.i64.wrap ((i:Int)+1),(k:Int)) else none) else none)
    (fun v=>(∃ i' k':Nat,v.2.1=i'∧v.2.2=k'∧i'≤a.length∧k'≤b.length∧(v.1++(a.drop i'++b.drop k')).Perm (a++b)∧Srt v.1∧(∀ x,x∈v.1→∀ y,y∈a.drop i'++b.drop k'→ltD y x=false))∧(a.length-v.2.1).toNat+(b.length-v.2.2).toNat<(a.length-(i:Int)).toNat+(b.length-(k:Int)).toNat):=by
  intro hi hle
  rw[if_pos (by omega),if_pos (by simp only[List.length_cons,List.length_nil]; omega),wrap_inc (by omega)]
  have hd:=drop_getD hi
  refine sq_some.2 ⟨⟨i+1,k,rfl,rfl,by omega,h2,?_,?_,?_⟩,by simp only; omega⟩
  ·rw[hd]at h3; simpa using h3
  ·refine Srt.app.2 ⟨h4,List.pairwise_singleton _ _,fun x hx y hy=>?_⟩
   rw[List.mem_singleton.1 hy]
   exact h5 x hx _ (by rw[hd]; simp)
  ·intro x hx y hy
   have hy':y∈a.drop i++b.drop k:=by
    rw[hd]; rcases List.mem_append.1 hy with hy | hy
    ·exact List.mem_append_left _ (List.mem_cons_of_mem _ hy)
    ·exact List.mem_append_right _ hy
   rcases List.mem_append.1 hx with hx | hx
   ·exact h5 x hx y hy'
   ·rw[List.mem_singleton.1 hx]
    rcases List.mem_append.1 hy with hy | hy
    ·obtain⟨j,j1,j2,rfl⟩:=mem_drop_getD hy
     exact ha.get (by omega) j2
    ·obtain⟨j,j1,j2,rfl⟩:=mem_drop_getD hy
     exact swo_ltD.ntrans _ _ _ (hb.get j1 j2) (hle (by omega))
 have takeB:k<b.length→(i<a.length→ltD (a.getD i default) (b.getD k default)=false) →
   Sp (if 0≤(k:Int)∧(k:Int)<(b.length:Int) then (if (o.length+[b.getD k default].length)*40≤140737488355328 then some (o++[b.getD k default],(i:Int),IntKind.i64.wrap ((k:Int)+1)) else none) else none)
    (fun v=>(∃ i' k':Nat,v.2.1=i'∧v.2.2=k'∧i'≤a.length∧k'≤b.length∧(v.1++(a.drop i'++b.drop k')).Perm (a++b)∧Srt v.1∧(∀ x,x∈v.1→∀ y,y∈a.drop i'++b.drop k'→ltD y x=false))∧(a.length-v.2.1).toNat+(b.length-v.2.2).toNat<(a.length-(i:Int)).toNat+(b.length-(k:Int)).toNat):=by
  intro hk hle
  rw[if_pos (by omega),if_pos (by simp only[List.length_cons,List.length_nil]; omega),wrap_inc (by omega)]
  have hd:=drop_getD hk
  refine sq_some.2 ⟨⟨i,k+1,rfl,rfl,h1,by omega,?_,?_,?_⟩,by simp only; omega⟩
  ·rw[hd]at h3
   refine List.Perm.trans ?_ h3
   rw[List.append_assoc]
   refine List.Perm.append_left _ ?_
   rw[←List.append_assoc]
   refine(List.Perm.append_right _ List.perm_append_comm).trans ?_
   simp
  ·refine Srt.app.2 ⟨h4,List.pairwise_singleton _ _,fun x hx y hy=>?_⟩
   rw[List.mem_singleton.1 hy]
   exact h5 x hx _ (by rw[hd]; simp)
  ·intro x hx y hy
   have hy':y∈a.drop i++b.drop k:=by
    rw[hd]; rcases List.mem_append.1 hy with hy | hy
    ·exact List.mem_append_left _ hy
    ·exact List.mem_append_right _ (List.mem_cons_of_mem _ hy)
   rcases List.mem_append.1 hx with hx | hx
   ·exact h5 x hx y hy'
   ·rw[List.mem_singleton.1 hx]
    rcases List.mem_append.1 hy with hy | hy
    ·obtain⟨j,j1,j2,rfl⟩:=mem_drop_getD hy
     exact swo_ltD.ntrans _ _ _ (ha.get j1 j2) (hle (by omega))
    ·obtain⟨j,j1,j2,rfl⟩:=mem_drop_getD hy
     exact hb.get (by omega) j2
 have step:∀ (x:Option (List GDelta×Int×Int)),Sp x (fun v=>(∃ i' k':Nat,v.2.1=i'∧v.2.2=k'∧i'≤a.length∧k'≤b.length∧(v.1++(a.drop i'++b.drop k')).Perm (a++b)∧Srt v.1∧(∀ x,x∈v.1→∀ y,y∈a.drop i'++b.drop k'→ltD y x=false))∧(a.length-v.2.1).toNat+(b.length-v.2.2).toNat<(a.length-(i:Int)).toNat+(b.length-(k:Int)).toNat) →
   Sp (x.bind fun v=>some (.inl (v.1,v.2.1,v.2.2))) (sel (fun s':List GDelta×Int×Int=>(∃ i' k':Nat,s'.2.1=i'∧s'.2.2=k'∧i'≤a.length∧k'≤b.length∧(s'.1++(a.drop i'++b.drop k')).Perm (a++b)∧Srt s'.1∧(∀ x,x∈s'.1→∀ y,y∈a.drop i'++b.drop k'→ltD y x=false))∧(a.length-s'.2.1).toNat+(b.length-s'.2.2).toNat<(a.length-(i:Int)).toNat+(b.length-(k:Int)).toNat) (sel (fun r:List GDelta=>r.Perm (a++b)∧Srt r) (fun _:List GDelta=>False))):=
  fun x hx=>Sq.bind _ hx fun v hv=>sq_some.2 hv
 by_cases hi:i<a.length
 ·rw[if_pos (decT (show (i:Int)<a.length by omega))]
  simp only[Option.bind_some,if_true]
  by_cases hk:k<b.length
  ·rw[if_pos (decT (show (i:Int)<a.length by omega))]
   simp only[Option.bind_some]
   rw[if_pos (decT (show (k:Int)<b.length by omega)),if_pos (by omega),if_pos (by omega),G49_eq _ _ (oa.get i) (ob.get k)]
   simp only[Option.bind_some]
   by_cases hc:cmpD (a.getD i default) (b.getD k default)≤0
   ·rw[if_pos (decT hc)]
    exact step _ (takeA hi fun _=>cmpD_le.1 hc)
   ·rw[if_neg (decF hc)]
    refine step _ (takeB hk fun _=>?_)
    cases hlt:ltD (a.getD i default) (b.getD k default) with
    | false=>rfl
    | true=>have:=of_decide_eq_true hlt; omega
  ·rw[if_pos (decT (show (i:Int)<a.length by omega))]
   simp only[Option.bind_some]
   rw[if_neg (decF (show ¬ (k:Int)<b.length by omega))]
   simp only[Option.bind_some]
   rw[if_pos (decT (show (k:Int)≥b.length by omega))]
   exact step _ (takeA hi fun h=>absurd h hk)
 ·rw[if_neg (decF (show ¬ (i:Int)<a.length by omega))]
  simp only[Option.bind_some]
  by_cases hk:k<b.length
  ·rw[if_pos (decT (show (k:Int)<b.length by omega)),if_neg (decF (show ¬ (i:Int)<a.length by omega))]
   simp only[Option.bind_some,Bool.false_eq_true,if_false]
   rw[if_neg (decF (show ¬ (k:Int)≥b.length by omega))]
   exact step _ (takeB hk fun h=>absurd h hi)
  ·rw[if_neg (decF (show ¬ (k:Int)<b.length by omega))]
   refine sq_some.2 ⟨?_,h4⟩
   rw[List.drop_eq_nil_of_le (show a.length≤i by omega),List.drop_eq_nil_of_le (show b.length≤k by omega)]at h3
   simpa using h3
theorem G154_sp(l:List GDelta)(ho:okRs l)(hn:l.length≤1000000000000):Sp (G154 l) (fun d=>d.Perm l∧Srt d):=by
 refine fixF_sq (C:=fun (a:List GDelta) (x:Option (List GDelta))=>Con Proofs.Tryz.prog 135 [.t (eL cGDelta (a))] x (fun (y:List GDelta)=>.t (eL cGDelta (y)))) (fun a=>⟨callable_of Proofs.Tryz.func135 (by kernel_rfl),fun _ h=>nomatch h⟩) (fun rec a=>T154 rec a) (fun rec a=>T154_ok rec a)
  (fun l=>okRs l∧l.length≤1000000000000) (fun l=>l.length) (fun l d=>d.Perm l∧Srt d) (fun b f l hl hrec=>?_) true l ⟨ho,hn⟩
 obtain⟨ho,hn⟩:=hl
 unfold T154
 simp only[Tr.den]
 by_cases h2:l.length<2
 ·rw[if_pos (decT (by omega))]
  refine sq_some.2 ⟨.refl _,?_⟩
  match l,h2 with
  | [],_=>exact .nil
  | [x],_=>exact List.pairwise_singleton _ _
 ·have w1:IntKind.i64.wrap (Int.tdiv (l.length:Int) 2)=((l.length / 2:Nat):Int):=by
   rw[show Int.tdiv (l.length:Int) 2=((l.length / 2:Nat):Int) from rfl]
   rw[wrap_nat (by omega)]
  rw[if_neg (decF (by omega)),w1]
  have e1:(l.drop (0:Int).toNat).take (((l.length / 2:Nat):Int)-0).toNat=l.take (l.length / 2):=by rw[Int.toNat_zero,List.drop_zero,Int.sub_zero,Int.toNat_natCast]
  have e2:(l.drop ((l.length / 2:Nat):Int).toNat).take ((l.length:Int)-((l.length / 2:Nat):Int)).toNat=l.drop (l.length / 2):=by
   rw[Int.toNat_natCast]; exact List.take_of_length_le (by simp only[List.length_drop]; omega)
  rw[if_pos (by omega),e1]
  refine Sq.bind _ (hrec _ ⟨fun x hx=>ho x (List.mem_of_mem_take hx),by simp; omega⟩ (by simp; omega)) (fun r1 h1=>?_)
  rw[if_pos (by omega),e2]
  refine Sq.bind _ (hrec _ ⟨fun x hx=>ho x (List.mem_of_mem_drop hx),by simp; omega⟩ (by simp; omega)) (fun r2 h2'=>?_)
  have l1:=h1.1.length_eq
  have l2:=h2'.1.length_eq
  simp only[List.length_take,List.length_drop]at l1 l2
  have hm:=(merge_sp r1 r2 h1.2 h2'.2 (fun x hx=>ho x (List.mem_of_mem_take (h1.1.mem_iff.1 hx))) (fun x hx=>ho x (List.mem_of_mem_drop (h2'.1.mem_iff.1 hx))) (by omega)).get
  obtain⟨z,hz1,hz2⟩:=hm
  rw[hz1]
  cases z with
  | inr z=>exact hz2.elim
  | inl z=>
   refine sq_some.2 ⟨?_,hz2.2⟩
   refine hz2.1.trans ((h1.1.append h2'.1).trans ?_)
   rw[List.take_append_drop]
theorem drop_get(d:List GDelta)(i j:Nat):(d.drop i).getD j default=d.getD (i+j) default:=by
 simp[List.getD_eq_getElem?_getD]
theorem inner107(d v4:List GDelta)(i:Nat)(h0:i<d.length)(ho:okRs d)(hn:d.length≤1000000000000):
  Sp (whileM (fun s=>(T107_L1 d (i:Int) s).den) (v4,0,(i:Int)))
   (sel (fun r:List GDelta×Int×Int=>∃ k:Nat,r=(v4,W (wt all1 ((d.drop i).take k)),((i+k:Nat):Int))∧1≤k∧i+k≤d.length∧(∀ x,x∈(d.drop i).take k→pl x=pl (d.getD i default))∧(i+k<d.length→pl (d.getD (i+k) default)≠pl (d.getD i default))) (fun _=>False)):=by
 refine Sq.while (fun s:List GDelta×Int×Int=>∃ k:Nat,s=(v4,W (wt all1 ((d.drop i).take k)),((i+k:Nat):Int))∧i+k≤d.length∧(∀ x,x∈(d.drop i).take k→pl x=pl (d.getD i default))) (fun s=>(d.length-s.2.2).toNat) (fun s hs=>?_) ⟨0,rfl,by omega,by simp⟩
 obtain⟨k,rfl,h2,h3⟩:=hs
 unfold T107_L1
 simp only[Tr.den,Int.toNat_natCast]
 by_cases hk:i+k<d.length
 ·have w:(if IntKind.i64.wrap ((d.length:Int)-1)<((i+k:Nat):Int) then IntKind.i64.wrap ((d.length:Int)-1) else ((i+k:Nat):Int))=((i+k:Nat):Int):=by
   rw[wrap_id (by omega) (by omega),if_neg (by omega)]
  rw[if_pos (decT (by omega)),if_pos (by omega),w]
  simp only[Int.toNat_natCast]
  rw[if_pos (by omega),G49_eq _ _ (ho.get i) (ho.get (i+k))]
  simp only[Option.bind_some]
  by_cases hc:cmpD (d.getD i default) (d.getD (i+k) default)=0
  ·rw[if_pos (beqT hc),if_pos (by omega)]
   have hp:=cmpD_zero.1 hc
   have hk':k<(d.drop i).length:=by simp; omega
   have e2:W (W (wt all1 ((d.drop i).take k))+(d.getD (i+k) default).N)=W (wt all1 ((d.drop i).take (k+1))):=by
    rw[take_succ_getD hk',wt_app,drop_get,show wt all1 [d.getD (i+k) default]=(d.getD (i+k) default).N by simp[wt,all1]]
    exact wrap_addL _ _
   rw[show IntKind.i64.wrap (W (wt all1 ((d.drop i).take k))+(d.getD (i+k) default).N)=_ from e2,wrap_inc (by omega)]
   refine sq_some.2 ⟨⟨k+1,rfl,by omega,fun x hx=>?_⟩,by simp only; omega⟩
   rw[take_succ_getD hk',List.mem_append,List.mem_singleton,drop_get]at hx
   rcases hx with hx | rfl
   ·exact h3 x hx
   ·exact hp.symm
  ·rw[if_neg (beqF hc)]
   have h1:1≤k:=by
    by_cases hk0:k=0
    ·subst hk0; exact absurd (cmpD_zero.2 rfl) hc
    ·omega
   exact sq_some.2 ⟨k,rfl,h1,h2,h3,fun _ he=>hc (cmpD_zero.2 he.symm)⟩
 ·rw[if_neg (decF (by omega))]
  simp only[Option.bind_some,Bool.false_eq_true,if_false]
  exact sq_some.2 ⟨k,rfl,by omega,h2,h3,fun h=>absurd h hk⟩
theorem loop107(l d:List GDelta)(hd:d.Perm l)(hs:Srt d)(ho:okRs l)(hN:okN l)(hn:l.length≤1000000000000):
  Sp (whileM (fun s=>(T107_L0 d s).den) (([]:List GDelta),0)) (sel (fun r=>r=cons l) (fun _=>False)):=by
 have hod:=ho.perm hd.symm
 have hlen:=hd.length_eq
 refine Sq.while (fun s:List GDelta×Int=>∃ i:Nat,s.2=i∧i≤d.length∧Can s.1∧(∀ x,x∈s.1→∀ y,y∈d.drop i→cmpD x y<0)∧Same (s.1++d.drop i) l∧s.1.length≤i) (fun s=>(d.length-s.2).toNat) (fun s hs'=>?_)
  ⟨0,rfl,by omega,.nil,by simp,.of_perm hd,by simp⟩
 obtain⟨v4,i⟩:=s
 obtain⟨i,e,h1,h4,h5,h6,h7⟩:=hs'
 simp only at e h4 h5 h6 h7
 subst e
 unfold T107_L0
 simp only[Tr.den,Int.toNat_natCast]
 by_cases h0:i<d.length
 ·rw[if_pos (decT (by omega))]
  refine Sq.bind _ (inner107 d v4 i h0 hod (by omega)) (fun z hz=>?_)
  cases z with
  | inr z=>exact hz.elim
  | inl z=>
   obtain⟨k,rfl,k1,k2,k3,k4⟩:=hz
   simp only[sel]
   have hsp:d.drop i=(d.drop i).take k++d.drop (i+k):=by
    rw[←List.drop_drop,List.take_append_drop]
   have hd0:d.getD i default∈d.drop i:=by rw[drop_getD h0]; exact List.mem_cons_self
   have hmem:∀ y,y∈d.drop (i+k)→y∈d.drop i:=fun y hy=>by rw[hsp]; exact List.mem_append_right _ hy
   have hgt:∀ y,y∈d.drop (i+k)→cmpD (d.getD i default) y<0:=by
    intro y hy
    obtain⟨j,j1,j2,rfl⟩:=mem_drop_getD hy
    have hk:i+k<d.length:=by omega
    have a1:=ltD_false (hs.get (i:=i) (j:=i+k) (by omega) hk)
    have a2:cmpD (d.getD i default) (d.getD (i+k) default)<0:=by
     have b1:cmpD (d.getD i default) (d.getD (i+k) default)≠0:=fun he=>k4 hk (cmpD_zero.1 he).symm
     have b2:=cmpD_gt (x:=d.getD i default) (y:=d.getD (i+k) default)
     omega
    have a3:=ltD_false (hs.get (i:=i+k) (j:=j) j1 j2)
    by_cases hc:cmpD (d.getD i default) (d.getD j default)<0
    ·exact hc
    ·have:=swo_ltD.ntrans (d.getD i default) (d.getD j default) (d.getD (i+k) default) (decide_eq_false hc) (decide_eq_false a3)
     exact absurd a2 (ltD_false this)
   have hw:∀ p,W (wt p (v4++d.drop i))=W (wt p v4+(if p (pl (d.getD i default))=true then W (wt all1 ((d.drop i).take k)) else 0)+wt p (d.drop (i+k))):=by
    intro p
    conv=>lhs; rw[hsp]
    rw[wt_app,wt_app,wt_same k3 p,←Int.add_assoc]
    refine W_add ?_ rfl
    refine W_add rfl ?_
    split
    ·exact(wrap_wrap _).symm
    ·rfl
   have hbind:∀ v5:List GDelta,Can v5→(∀ x,x∈v5→∀ y,y∈d.drop (i+k)→cmpD x y<0)→(∀ p,W (wt p v5)=W (wt p v4+(if p (pl (d.getD i default))=true then W (wt all1 ((d.drop i).take k)) else 0)))→v5.length≤v4.length+1 →
     Sp (some (Sum.inl (v5,((i+k:Nat):Int))))
      (sel (fun s':List GDelta×Int=>(∃ i:Nat,s'.2=i∧i≤d.length∧Can s'.1∧(∀ x,x∈s'.1→∀ y,y∈d.drop i→cmpD x y<0)∧Same (s'.1++d.drop i) l∧s'.1.length≤i)∧(d.length-s'.2).toNat<(d.length-(i:Int)).toNat) (sel (fun r:List GDelta=>r=cons l) (fun _:List GDelta=>False))):=by
    intro v5 c1 c2 c3 c4
    refine sq_some.2 ⟨⟨i+k,rfl,k2,c1,c2,fun p=>?_,by simp only; omega⟩,by simp only; omega⟩
    rw[←h6 p,hw p,wt_app]
    exact W_add (c3 p) rfl
   by_cases hz:W (wt all1 ((d.drop i).take k))=0
   ·rw[if_neg (bneF hz)]
    simp only[Option.bind_some]
    refine hbind v4 h4 (fun x hx y hy=>h5 x hx y (hmem y hy)) (fun p=>?_) (by omega)
    rw[hz]; simp
   ·rw[if_pos (bneT hz),if_pos (by omega)]
    rw[G115_eq _ _ (hod.get i)]
    simp only[Option.bind_some,List.length_singleton]
    rw[if_pos (by omega)]
    simp only[Option.bind_some]
    refine hbind (v4++[⟨(d.getD i default).Time,(d.getD i default).Row,W (wt all1 ((d.drop i).take k))⟩]) ⟨?_,?_,?_⟩ ?_ (fun p=>?_) (by simp)
    ·refine List.pairwise_append.2 ⟨h4.lt,List.pairwise_singleton _ _,fun x hx y hy=>?_⟩
     rw[List.mem_singleton.1 hy]
     exact h5 x hx (d.getD i default) hd0
    ·intro x hx
     rcases List.mem_append.1 hx with hx | hx
     ·exact h4.nz x hx
     ·rw[List.mem_singleton.1 hx]; exact hz
    ·intro x hx
     rcases List.mem_append.1 hx with hx | hx
     ·exact h4.n64 x hx
     ·rw[List.mem_singleton.1 hx]; exact W_in _
    ·intro x hx y hy
     rcases List.mem_append.1 hx with hx | hx
     ·exact h5 x hx y (hmem y hy)
     ·rw[List.mem_singleton.1 hx]; exact hgt y hy
    ·rw[wt_app]
     simp only[wt,Int.add_zero]
     rfl
 ·rw[if_neg (decF (by omega))]
  refine sq_some.2 ?_
  rw[List.drop_eq_nil_of_le (by omega),List.append_nil]at h6
  exact(cons_eq h4 hN h6).symm
theorem G107_eq(l:List GDelta)(ho:okRs l)(hN:okN l)(hn:l.length≤1000000000000):G107 l=some (cons l):=by
 refine Sp.eq ?_
 unfold G107 T107
 simp only[Tr.den]
 refine Sq.bind _ (G154_sp l ho hn) (fun d hd=>?_)
 refine Sq.bind _ (loop107 l d hd.1 hd.2 ho hN hn) (fun z hz=>?_)
 cases z with
 | inr z=>exact hz.elim
 | inl z=>exact sq_some.2 hz
theorem G47_eq(a b:List GDelta)(ha:okD a)(hb:okD b)(hn:a.length+b.length≤1000000000000):G47 a b=some (cons (a++b)):=by
 unfold G47 T47
 simp only[Tr.den,List.nil_append]
 rw[if_pos (by simp only[List.length_nil]; omega),if_pos (by omega),G107_eq _ (ha.app hb).r (ha.app hb).n (by simp; omega)]
 rfl
end Go.PL
