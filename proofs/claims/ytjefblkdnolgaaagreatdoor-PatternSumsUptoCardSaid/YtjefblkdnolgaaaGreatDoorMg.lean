/-
  Parts: The kept part of a plain-law text (strip.py). Own work. The kept part of a plain-law text (strip.py). Own work. The kept part of a plain-law text (strip.py). Own work. The kept part of a plain-law text (strip.py). Own work. Plain law of expressions: every right expression has a value. Own work. Plain law of expressions: right by parts is right at a height. Own work. Plain law of expressions: the parts of the type rule. Own work. Plain law of expressions: what has a type is right by parts. Own work. Plain law of expressions: right functions. Own work. Plain law of patterns: what the walk finds is the longest run that ends at a place. Own work.
-/
import Derived.Test.YtjefblkdnolgaaaGreatDoorMf
namespace Go.PL
open Go
set_option linter.unusedVariables false
set_option maxRecDepth 20000
theorem iD(n:aE)(i:Int)(l:List aA):(bS n i l).length≤l.length:=by
 have:∀ (l:List aA) (m:List (ByteArray×List aA)),(l.foldl (fun m d=>mput m (kd n i d) ((aY m (kd n i d)).getD []++[d])) m).length≤m.length+l.length:=by
  intro l
  induction l with
  | nil=>intro m; simp
  | cons d l ih=>
   intro m
   rw[List.foldl_cons]
   refine Nat.le_trans (ih _) ?_
   have h1:=(mput_perm m (kd n i d) ((aY m (kd n i d)).getD []++[d])).length_eq
   have h2:(mdel m (kd n i d)).length≤m.length:=List.length_filter_le _ _
   rw[h1]; simp only[List.length_cons]; omega
 have h2:=this l []
 simp only[List.length_nil,Nat.zero_add]at h2
 exact h2
theorem flatMapK_len{f:ByteArray→List aA}{c:Nat}(h:∀ a,(f a).length≤c)(l:List ByteArray):(l.flatMap f).length≤l.length*c:=by
 induction l with
 | nil=>simp
 | cons a l ih=>
  rw[List.flatMap_cons,List.length_append,List.length_cons,Nat.add_mul]
  have:=h a
  omega
theorem ofK_can{n:aE}{i:Int}{k:ByteArray}{l:List aA}(h:Can l):Can (ofK n i k l):=h.filter _
theorem ofK_okI{n:aE}{i:Int}{k:ByteArray}{l:List aA}(h:okI n i l):okI n i (ofK n i k l):=h.sub fun x hx=>(List.mem_filter.1 hx).1
theorem perm_cons_eq{l r:List aA}(h:l.Perm r)(hl:okN l):cons l=cons r:=(dB hl).ext (dB fun x hx=>hl x (h.mem_iff.2 hx)) ((dC l).trans ((eH.of_perm h).trans (dC r).symm))
theorem G97_eq(a b c:Int):G97 a b c=some (decide (b≤a∧a≤c)):=by
 unfold G97 T97
 simp only[Tr.den]
 by_cases h:a≥b
 ·rw[if_pos (bH h)]
  simp only[Option.bind_some]
  congr 1
  by_cases h':a≤c
  ·rw[bH h',bH ⟨h,h'⟩]
  ·rw[Bool.eq_iff_iff,decide_eq_true_eq,decide_eq_true_eq]; omega
 ·rw[if_neg (bK h)]
  simp only[Option.bind_some]
  congr 1
  rw[Bool.eq_iff_iff,decide_eq_true_eq]
  constructor
  ·intro h; cases h
  ·omega
theorem G159_eq(a b:aC):G159 a b=some (cmpV a b):=by
 unfold G159 T159 cmpV eG cmpI
 simp only[Tr.den,decide_eq_true_eq]
 have hs:=iO a.S.toList b.S.toList
 have h2:=iO b.S.toList a.S.toList
 rw[Lib.toList_data,Lib.toList_data]at hs h2
 have e1:Op.bytesLess a.S.toList b.S.toList=decide (cmpS a.S b.S<0):=by rw[Lib.toList_data,Lib.toList_data]; exact hs
 have e2:(a.S.toList==b.S.toList)=decide (cmpS a.S b.S=0):=by
  rw[Bool.eq_iff_iff,beq_iff_eq,decide_eq_true_eq,TO.str.eq,Lib.toList_data,Lib.toList_data]
  constructor
  ·intro h
   generalize a.S=x at h ⊢
   generalize b.S=y at h ⊢
   cases x; cases y; simp at h; simp[h]
  ·intro h; rw[h]
 have h3:cmpS a.S b.S = -1∨cmpS a.S b.S=0∨cmpS a.S b.S=1:=by
  unfold cmpS
  generalize a.S.data.toList=x
  generalize b.S.data.toList=y
  induction x generalizing y with
  | nil=>cases y <;> simp[Lib.compareBytes]
  | cons u x ih=>
   cases y with
   | nil=>simp[Lib.compareBytes]
   | cons v y=>
    rw[Lib.compareBytes]
    by_cases q1:u<v
    ·rw[if_pos q1]; exact .inl rfl
    ·rw[if_neg q1]
     by_cases q2:v<u
     ·rw[if_pos q2]; exact .inr (.inr rfl)
     ·rw[if_neg q2]; exact ih y
 rw[e1,e2]
 by_cases k1:a.Kind<b.Kind
 ·simp[k1]
 ·by_cases k2:b.Kind<a.Kind
  ·simp[k1,k2]
  ·by_cases n1:a.N<b.N
   ·simp[k1,k2,n1]
   ·by_cases n2:b.N<a.N
    ·simp[k1,k2,n1,n2]
    ·rcases h3 with h | h | h <;> simp[k1,k2,n1,n2,h]
theorem G116_eq(a b:List aC)(ha:a.length≤1073741824)(hb:b.length≤1073741824):G116 a b=some (cmpR a b):=by
 refine Sp.eq ?_
 unfold G116 T116
 simp only[Tr.den,bL]
 refine Sq.while (fun k:Int=>0≤k∧k≤a.length∧k≤b.length∧cmpR (a.drop k.toNat) (b.drop k.toNat)=cmpR a b) (fun k=>a.length-k.toNat) (fun k hk=>?_) ⟨by omega,by omega,by omega,by simp⟩
 obtain⟨h0,h1,h2,h3⟩:=hk
 unfold T116_L0
 simp only[Tr.den,G159_eq,Option.bind_some]
 have stop:(k=a.length∨k=b.length)→Sp (sel (fun _:Unit=>if decide ((a.length:Int)<(b.length:Int))=true then some (-1:Int) else if decide ((a.length:Int)>(b.length:Int))=true then some 1 else some 0) some (Sum.inl ())) (fun z=>z=cmpR a b):=by
  intro hk
  simp only[sel]
  rcases hk with hk | hk
  ·rw[List.drop_eq_nil_of_le (show a.length≤k.toNat by omega)]at h3
   by_cases hl:(a.length:Int)<b.length
   ·rw[if_pos (bH hl)]
    rw[bW (show k.toNat<b.length by omega)]at h3
    exact aB.2 h3
   ·rw[if_neg (bK hl),if_neg (bK (by omega))]
    rw[List.drop_eq_nil_of_le (show b.length≤k.toNat by omega)]at h3
    exact aB.2 h3
  ·rw[List.drop_eq_nil_of_le (show b.length≤k.toNat by omega)]at h3
   rw[if_neg (bK (by omega))]
   by_cases hl:(a.length:Int)>b.length
   ·rw[if_pos (bH hl)]
    rw[bW (show k.toNat<a.length by omega)]at h3
    exact aB.2 h3
   ·rw[if_neg (bK (by omega))]
    rw[List.drop_eq_nil_of_le (show a.length≤k.toNat by omega)]at h3
    exact aB.2 h3
 by_cases hk:k<a.length
 ·rw[if_pos (bH hk)]
  simp only[Option.bind_some]
  by_cases hk':k<b.length
  ·rw[if_pos (bH hk'),if_pos ⟨h0,hk⟩,if_pos ⟨h0,hk'⟩]
   rw[bW (show k.toNat<a.length by omega),bW (show k.toNat<b.length by omega)]at h3
   simp only[cmpL]at h3
   by_cases hz:cmpV (a.getD k.toNat default) (b.getD k.toNat default)=0
   ·rw[if_neg (bneF hz),bR (by omega) (by omega)]
    refine aB.2 ⟨⟨by omega,by omega,by omega,?_⟩,by omega⟩
    rw[show (k+1).toNat=k.toNat+1 by omega]; refine Eq.trans ?_ h3; simp only[eG,hz,if_true]
   ·rw[if_pos (bneT hz)]
    refine aB.2 (aB.2 ?_)
    refine Eq.trans ?_ h3; simp only[eG,if_neg hz]
  ·rw[if_neg (bK hk')]
   exact aB.2 (stop (.inr (by omega)))
 ·rw[if_neg (bK hk)]
  exact aB.2 (stop (.inl (by omega)))
theorem G49_eq(a b:aA)(ha:okR a)(hb:okR b):G49 a b=some (cR a b):=by
 unfold G49 T49
 simp only[Tr.den]
 rw[G116_eq _ _ ha hb]
 unfold cR eG cmpI
 by_cases h1:a.Time<b.Time
 ·rw[if_pos (bH h1),if_pos h1,if_neg (by omega)]
 ·rw[if_neg (bK h1),if_neg h1]
  by_cases h2:b.Time<a.Time
  ·rw[if_pos (bH h2),if_pos h2,if_neg (by omega)]
  ·rw[if_neg (bK h2),if_neg h2,if_pos rfl]; rfl
section
variable {P:Program} {A R:Type}
theorem fixN_sqh{C:A→Option R→Prop}(c0:∀ a,C a none)(B:{f:A→Option R // ∀ a,C a (f a)}→A→Tr P R)(ok:∀ f a,C a (B f a).den)(I:Nat→A→Prop)(Q:A→R→Prop)
  (h:∀ b f n a,I n a→(∀ m a',m<n→I m a'→Sq b (f.1 a') (Q a'))→Sq b (B f a).den (Q a)):∀ k n a,I n a→Sq (decide (n<k)) ((fixN c0 B ok k).1 a) (Q a):=by
 intro k
 induction k with
 | zero=>intro n a ha; exact⟨fun y hy=>(by cases hy),fun hb=>by simp at hb⟩
 | succ k ih=>
  intro n a ha
  refine h _ _ n a ha fun m a' hm ha'=>?_
  have h1:=ih m a' ha'
  exact⟨h1.1,fun hb=>h1.2 (by simp at hb ⊢; omega)⟩
theorem fixF_sqh{C:A→Option R→Prop}(c0:∀ a,C a none)(B:{f:A→Option R // ∀ a,C a (f a)}→A→Tr P R)(ok:∀ f a,C a (B f a).den)(I:Nat→A→Prop)(Q:A→R→Prop)
  (h:∀ b f n a,I n a→(∀ m a',m<n→I m a'→Sq b (f.1 a') (Q a'))→Sq b (B f a).den (Q a))(b:Bool)(n:Nat)(a:A)(ha:I n a):Sq b (fixF c0 B ok a) (Q a):=by
 have h1:=fixN_sqh c0 B ok I Q h
 unfold fixF Lim
 split
 ·rename_i hh
  obtain⟨k,hk⟩:=hh.choose_spec
  exact aB.2 ((h1 k n a ha).1 _ hk)
 ·rename_i hh
  exfalso
  have h2:=h1 (n+1) n a ha
  obtain⟨y,hy⟩:=Option.isSome_iff_exists.1 (h2.2 (by simp))
  exact hh ⟨y,_,hy⟩
end
theorem gV{S R:Type}{b:Bool}{bd:S→Option (S⊕R)}(idx:S→Int)(N:Nat)(hN:N≤1000000000000000)(I:S→Prop){Q:R→Prop}
  (h:∀ s (k:Nat),I s→idx s=k→k≤N→Sq b (bd s) (sel (fun s'=>idx s'=IntKind.i64.wrap ((k:Int)+1)∧k<N∧I s') Q)){s:S}(hs:I s)(h0:idx s=0):Sq b (cA bd s) Q:=by
 refine Sq.while (fun s=>I s∧∃ k:Nat,idx s=k∧k≤N) (fun s=>N-(idx s).toNat) (fun s hs=>?_) ⟨hs,0,h0,by omega⟩
 obtain⟨hI,k,hk,hkN⟩:=hs
 refine(h s k hI hk hkN).imp fun z hz=>?_
 cases z with
 | inr r=>exact hz
 | inl s'=>
  obtain⟨q1,q2,q3⟩:=hz
  rw[aL (by omega)]at q1
  exact⟨⟨q3,k+1,q1,by omega⟩,by rw[q1,hk]; omega⟩
inductive OkE (fs:List aF):Nat→Nat→Nat→aW→Prop
 | mk {nc np h:Nat} {e:aW} (k:Nat) (hm:Nat→Nat) (hs:e.S.size≤1048576) (hl:e.Args.length≤1048576) (ho:0≤e.Op∧e.Op≤22)
   (hlt:∀ i,hm i<h) (hA:∀ i,i<e.Args.length→OkE fs nc np (hm i) (e.Args.getD i default))
   (c3:e.Op=3→0≤e.N∧e.N<nc) (c4:e.Op=4→0≤e.N∧e.N<np) (c1:e.Op=6∨e.Op=7∨e.Op=20→1≤e.Args.length) (c2:8≤e.Op∧e.Op≤19→2≤e.Args.length)
   (c21:e.Op=21→3≤e.Args.length) (c22:e.Op=22→0≤e.N∧e.N<fs.length∧k<h) (hb:e.Op=22→OkE fs 0 e.Args.length k (fs.getD e.N.toNat default).Body):OkE fs nc np h e
def Sm(v:aC):Prop:=v.S.size≤1073741824
structure OkF (fs:List aF)(nc np:Nat)(f:dQ):Prop where
 fs:f.funcs_=fs
 nc:f.row_.length=nc
 np:f.params_.length=np
 row:∀ v,v∈f.row_→Sm v
 params:∀ v,v∈f.params_→Sm v
theorem sm_vI(n:Int):Sm (vI n):=by show (0:Nat)≤_; omega
theorem sm_vB(b:Bool):Sm (vB b):=by show (0:Nat)≤_; omega
theorem sm_getD{l:List aC}(h:∀ v,v∈l→Sm v){i:Nat}(hi:i<l.length):Sm (l.getD i default):=h _ (aQ hi)
theorem iA{c:Prop}[Decidable c]{x y:aC}(hx:Sm x)(hy:Sm y):Sm (if c then x else y):=by split <;> assumption
theorem iV(op:Int)(a b:aC):Sm (bop op a b):=by
 unfold bop
 refine iA (sm_vI _) (iA (sm_vI _) (iA (sm_vI _) (iA (iA (sm_vI _) (sm_vI _)) (iA (iA (sm_vI _) (sm_vI _)) (iA (sm_vB _) (iA (sm_vB _) (iA (sm_vB _) (iA (sm_vB _) (iA (sm_vB _) (iA (sm_vB _) ?_))))))))))
 show ((a.S++b.S).extract 0 (min 200 (a.S.size+b.S.size))).size≤1073741824
 rw[ByteArray.size_extract]; omega
theorem G362_sp(fs:List aF)(nc np n:Nat)(f:dQ)(e:aW)(hf:OkF fs nc np f)(he:OkE fs nc np n e):Sp (G362 f e) Sm:=by
 refine fixF_sqh (C:=fun (a:dQ×aW) (x:Option (aC))=>Con Proofs.Tryz.prog 171 [.t (fW a.1),.t (cJ a.2)] x (fun (y:aC)=>.t (cE y))) (fun a=>⟨bJ Proofs.Tryz.func171 (by kernel_rfl),fun _ h=>nomatch h⟩) (fun rec a=>T362 rec a.1 a.2) (fun rec a=>T362_ok rec a.1 a.2)
  (fun n a=>∃ fs nc np,OkF fs nc np a.1∧OkE fs nc np n a.2) (fun _=>Sm) (fun b r n a ha hrec=>?_) true n (f,e) ⟨fs,nc,np,hf,he⟩
 clear hf he fs nc np f e
 obtain⟨f,e⟩:=a
 obtain⟨fs,nc,np,hf,he⟩:=ha
 simp only at hf he ⊢
 have hfun:=hf.fs
 cases he with
 | mk k' hm hs hl ho hlt hA c3 c4 c1 c2 c21 c22 hb=>
 have hr:∀ i,i<e.Args.length→Sq b (r.1 (f,e.Args.getD i default)) Sm:=fun i hi=>hrec _ _ (hlt i) ⟨fs,nc,np,hf,hA i hi⟩
 unfold T362
 by_cases h21:e.Op=21
 ·have hl3:=c21 h21
  simp only[h21,Tr.den]
  rw[if_pos (by decide),if_pos (by omega)]
  refine Sq.bind _ (hr 0 (by omega)) fun v1 _=>?_
  split
  ·rw[if_pos (by omega)]
   refine Sq.bind _ (hr 1 (by omega)) fun v2 h2=>aB.2 h2
  ·rw[if_pos (by omega)]
   refine Sq.bind _ (hr 2 (by omega)) fun v2 h2=>aB.2 h2
 ·simp only[Tr.den]
  rw[if_neg (by simpa using h21)]
  refine bL.2 (gV (fun s:List aC×Int=>s.2) e.Args.length (by omega) (fun s=>(s.1.length:Int)=s.2∧∀ v,v∈s.1→Sm v) (fun s k hI hk hkN=>?_) ⟨rfl,fun v hv=>by cases hv⟩ rfl)
  obtain⟨b6,v5⟩:=s
  obtain⟨hbl,hbs⟩:=hI
  simp only at hk hbl hbs
  subst hk
  unfold T362_L0
  simp only[Tr.den,Int.toNat_natCast]
  by_cases hc:k<e.Args.length
  ·rw[if_pos (bH (by omega)),if_pos (by omega)]
   refine Sq.bind _ (hr k hc) fun v hv=>?_
   rw[if_pos (by simp only[List.length_singleton]; omega)]
   refine aB.2 ⟨rfl,hc,?_,fun u hu=>?_⟩
   ·simp only[List.length_append,List.length_singleton]; rw[aL (by omega)]; omega
   ·rcases List.mem_append.1 hu with h | h
    ·exact hbs u h
    ·cases List.mem_singleton.1 h; exact hv
  ·rw[if_neg (bK (by omega))]
   refine aB.2 ?_
   have hbe:b6.length=e.Args.length:=by omega
   show Sq b _ Sm
   simp only[sel]
   have z0:(0:Int).toNat=0:=rfl
   have z1:(1:Int).toNat=1:=rfl
   have hop:e.Op=0∨e.Op=1∨e.Op=2∨e.Op=3∨e.Op=4∨e.Op=5∨e.Op=6∨e.Op=7∨e.Op=20∨e.Op=22∨(8≤e.Op∧e.Op≤19):=by omega
   rcases hop with h | h | h | h | h | h | h | h | h | h | h
   ·rw[if_pos (by rw[h]; rfl),eJ]; exact aB.2 (sm_vI _)
   ·simp (decide:=true) only[h,↓reduceIte]
    exact aB.2 (by show e.S.size≤_; omega)
   ·simp (decide:=true) only[h,↓reduceIte,gE]
    exact aB.2 (sm_vB _)
   ·have:=c3 h
    have hn:=hf.nc
    simp (decide:=true) only[h,↓reduceIte]
    rw[if_pos (by omega)]
    exact aB.2 (sm_getD hf.row (by omega))
   ·have:=c4 h
    have hn:=hf.np
    simp (decide:=true) only[h,↓reduceIte]
    rw[if_pos (by omega)]
    exact aB.2 (sm_getD hf.params (by omega))
   ·simp (decide:=true) only[h,↓reduceIte,eJ]
    exact aB.2 (sm_vI _)
   ·have:=c1 (by omega)
    simp (decide:=true) only[h,↓reduceIte,gE]
    rw[if_pos ⟨trivial,by omega⟩,if_pos (by show 0<b6.length; omega)]
    exact aB.2 (sm_vB _)
   ·have:=c1 (by omega)
    simp (decide:=true) only[h,↓reduceIte,eJ]
    rw[if_pos ⟨trivial,by omega⟩,if_pos (by show 0<b6.length; omega)]
    exact aB.2 (sm_vI _)
   ·have:=c1 (by omega)
    simp (decide:=true) only[h,↓reduceIte,eJ]
    rw[if_pos ⟨trivial,by omega⟩,if_pos (by show 0<b6.length; omega)]
    exact aB.2 (sm_vI _)
   ·have hc2:=c22 h
    simp (decide:=true) only[h,↓reduceIte]
    rw[if_pos (by rw[hfun]; omega)]
    rw[hfun]
    refine Sq.bind _ (hrec k' (_,_) hc2.2.2 ⟨fs,0,e.Args.length,⟨rfl,rfl,hbe,fun v hv=>(by cases hv),hbs⟩,hb h⟩) fun v hv=>aB.2 hv
   ·have h2:=c2 h
    have p0:Sm (b6.getD 0 default):=sm_getD hbs (by omega)
    have p1:Sm (b6.getD 1 default):=sm_getD hbs (by omega)
    have d0:(0:Int)≤0∧(0:Int)<(b6.length:Int):=⟨by omega,by omega⟩
    have d1:(0:Int)≤1∧(1:Int)<(b6.length:Int):=⟨by omega,by omega⟩
    have d2:0<b6.length:=by omega
    have d3:1<b6.length:=by omega
    have hop:e.Op=8∨e.Op=9∨e.Op=10∨e.Op=11∨e.Op=12∨e.Op=13∨e.Op=14∨e.Op=15∨e.Op=16∨e.Op=17∨e.Op=18∨e.Op=19:=by omega
    rcases hop with h | h | h | h | h | h | h | h | h | h | h | h
    ·simp (decide:=true) only[h,↓reduceIte]
     change Sq b (((some 225:Option Nat).bind _).bind _) Sm
     simp only[Option.bind_some,Tr.den,z0,z1]
     rw[if_pos ⟨trivial,by omega⟩,if_pos d2,if_pos ⟨trivial,by omega⟩,if_pos d3,G380_eq]
     exact aB.2 (iV 8 (b6.getD 0 default) (b6.getD 1 default))
    ·simp (decide:=true) only[h,↓reduceIte]
     change Sq b (((some 226:Option Nat).bind _).bind _) Sm
     simp only[Option.bind_some,Tr.den,z0,z1]
     rw[if_pos ⟨trivial,by omega⟩,if_pos d2,if_pos ⟨trivial,by omega⟩,if_pos d3,G381_eq]
     exact aB.2 (iV 9 (b6.getD 0 default) (b6.getD 1 default))
    ·simp (decide:=true) only[h,↓reduceIte]
     change Sq b (((some 227:Option Nat).bind _).bind _) Sm
     simp only[Option.bind_some,Tr.den,z0,z1]
     rw[if_pos ⟨trivial,by omega⟩,if_pos d2,if_pos ⟨trivial,by omega⟩,if_pos d3,G382_eq]
     exact aB.2 (iV 10 (b6.getD 0 default) (b6.getD 1 default))
    ·simp (decide:=true) only[h,↓reduceIte]
     change Sq b (((some 228:Option Nat).bind _).bind _) Sm
     simp only[Option.bind_some,Tr.den,z0,z1]
     rw[if_pos ⟨trivial,by omega⟩,if_pos d2,if_pos ⟨trivial,by omega⟩,if_pos d3,G383_eq]
     exact aB.2 (iV 11 (b6.getD 0 default) (b6.getD 1 default))
    ·simp (decide:=true) only[h,↓reduceIte]
     change Sq b (((some 229:Option Nat).bind _).bind _) Sm
     simp only[Option.bind_some,Tr.den,z0,z1]
     rw[if_pos ⟨trivial,by omega⟩,if_pos d2,if_pos ⟨trivial,by omega⟩,if_pos d3,G384_eq]
     exact aB.2 (iV 12 (b6.getD 0 default) (b6.getD 1 default))
    ·simp (decide:=true) only[h,↓reduceIte]
     change Sq b (((some 230:Option Nat).bind _).bind _) Sm
     simp only[Option.bind_some,Tr.den,z0,z1]
     rw[if_pos ⟨trivial,by omega⟩,if_pos d2,if_pos ⟨trivial,by omega⟩,if_pos d3,G385_eq]
     exact aB.2 (iV 13 (b6.getD 0 default) (b6.getD 1 default))
    ·simp (decide:=true) only[h,↓reduceIte]
     change Sq b (((some 231:Option Nat).bind _).bind _) Sm
     simp only[Option.bind_some,Tr.den,z0,z1]
     rw[if_pos ⟨trivial,by omega⟩,if_pos d2,if_pos ⟨trivial,by omega⟩,if_pos d3,G386_eq]
     exact aB.2 (iV 14 (b6.getD 0 default) (b6.getD 1 default))
    ·simp (decide:=true) only[h,↓reduceIte]
     change Sq b (((some 232:Option Nat).bind _).bind _) Sm
     simp only[Option.bind_some,Tr.den,z0,z1]
     rw[if_pos ⟨trivial,by omega⟩,if_pos d2,if_pos ⟨trivial,by omega⟩,if_pos d3,G387_eq]
     exact aB.2 (iV 15 (b6.getD 0 default) (b6.getD 1 default))
    ·simp (decide:=true) only[h,↓reduceIte]
     change Sq b (((some 233:Option Nat).bind _).bind _) Sm
     simp only[Option.bind_some,Tr.den,z0,z1]
     rw[if_pos ⟨trivial,by omega⟩,if_pos d2,if_pos ⟨trivial,by omega⟩,if_pos d3,G388_eq]
     exact aB.2 (iV 16 (b6.getD 0 default) (b6.getD 1 default))
    ·simp (decide:=true) only[h,↓reduceIte]
     change Sq b (((some 234:Option Nat).bind _).bind _) Sm
     simp only[Option.bind_some,Tr.den,z0,z1]
     rw[if_pos ⟨trivial,by omega⟩,if_pos d2,if_pos ⟨trivial,by omega⟩,if_pos d3,G389_eq]
     exact aB.2 (iV 17 (b6.getD 0 default) (b6.getD 1 default))
    ·simp (decide:=true) only[h,↓reduceIte]
     change Sq b (((some 235:Option Nat).bind _).bind _) Sm
     simp only[Option.bind_some,Tr.den,z0,z1]
     rw[if_pos ⟨trivial,by omega⟩,if_pos d2,if_pos ⟨trivial,by omega⟩,if_pos d3,G390_eq]
     exact aB.2 (iV 18 (b6.getD 0 default) (b6.getD 1 default))
    ·simp (decide:=true) only[h,↓reduceIte]
     change Sq b (((some 236:Option Nat).bind _).bind _) Sm
     simp only[Option.bind_some,Tr.den,z0,z1]
     rw[if_pos ⟨trivial,by omega⟩,if_pos d2,if_pos ⟨trivial,by omega⟩,if_pos d3,G391_eq _ (by have q0:=p0; have q1:=p1; unfold Sm at q0 q1; show (b6.getD 0 default).S.size+(b6.getD 1 default).S.size≤_; omega)]
     exact aB.2 (iV 19 (b6.getD 0 default) (b6.getD 1 default))
inductive OkI (ar:Nat→Nat)(n:Nat):Nat→Nat→aW→Prop
 | mk {nc np:Nat} {e:aW} (hs:e.S.size≤1048576) (hl:e.Args.length≤1048576) (ho:0≤e.Op∧e.Op≤22)
   (hA:∀ i,i<e.Args.length→OkI ar n nc np (e.Args.getD i default))
   (c3:e.Op=3→0≤e.N∧e.N<nc) (c4:e.Op=4→0≤e.N∧e.N<np) (c1:e.Op=6∨e.Op=7∨e.Op=20→1≤e.Args.length) (c2:8≤e.Op∧e.Op≤19→2≤e.Args.length)
   (c21:e.Op=21→3≤e.Args.length) (c22:e.Op=22→0≤e.N∧e.N<n∧e.Args.length=ar e.N.toNat):OkI ar n nc np e
theorem bound_fun(f:Nat→Nat):∀ n,∃ H,∀ i,i<n→f i<H
 | 0=>⟨0,fun i hi=>absurd hi (Nat.not_lt_zero i)⟩
 | n+1=>by
  obtain⟨H,hH⟩:=bound_fun f n
  refine⟨H+f n+1,fun i hi=>?_⟩
  rcases Nat.lt_or_ge i n with h | h
  ·have:=hH i h; omega
  ·have:i=n:=by omega
   subst this; omega
theorem okI_okE{fs:List aF}(hB:∀ i,i<fs.length→OkI (fun k=>(fs.getD k default).Params.length) i 0 (fs.getD i default).Params.length (fs.getD i default).Body):
  ∀ j,j≤fs.length→∀ nc np e,OkI (fun k=>(fs.getD k default).Params.length) j nc np e→∃ h,OkE fs nc np h e:=by
 intro j
 induction j using Nat.strongRecOn with
 | _ j ih=>
  intro hj nc np e he
  induction he with
  | @mk e hs hl ho hA c3 c4 c1 c2 c21 c22 ihA=>
   have hc:∀ i,∃ h,i<e.Args.length→OkE fs nc np h (e.Args.getD i default):=fun i=>by
    by_cases hi:i<e.Args.length
    ·obtain⟨h,hh⟩:=ihA i hi
     exact⟨h,fun _=>hh⟩
    ·exact⟨0,fun h=>absurd h hi⟩
   let hm:Nat→Nat:=fun i=>if i<e.Args.length then (hc i).choose else 0
   have hmA:∀ i,i<e.Args.length→OkE fs nc np (hm i) (e.Args.getD i default):=fun i hi=>by
    show OkE fs nc np (if i<e.Args.length then (hc i).choose else 0) _
    rw[if_pos hi]
    exact(hc i).choose_spec hi
   obtain⟨H,hH⟩:=bound_fun hm e.Args.length
   obtain⟨k,hk⟩:∃ k,e.Op=22→OkE fs 0 e.Args.length k (fs.getD e.N.toNat default).Body:=by
    by_cases h22:e.Op=22
    ·obtain⟨g1,g2,g3⟩:=c22 h22
     obtain⟨k,hk⟩:=ih e.N.toNat (by omega) (by omega) 0 _ _ (hB e.N.toNat (by omega))
     exact⟨k,fun _=>by rw[g3]; exact hk⟩
    ·exact⟨0,fun h=>absurd h h22⟩
   refine⟨H+k+1,.mk k hm hs hl ho (fun i=>?_) hmA c3 c4 c1 c2 c21 (fun h=>?_) hk⟩
   ·by_cases hi:i<e.Args.length
    ·have:=hH i hi; omega
    ·show (if i<e.Args.length then (hc i).choose else 0)<_
     rw[if_neg hi]; omega
   ·obtain⟨g1,g2,g3⟩:=c22 h
    exact⟨g1,by omega,by omega⟩
theorem G151_eq(n:Int):G151 n=some (decide (0≤n∧n<3)):=by
 by_cases h:0≤n
 ·simp[G151,T151,Tr.den,h]
 ·simp[G151,T151,Tr.den,h]
def numE(op:Int):Int:=
 if 0≤op∧op≤5 then 0 else if op=6∨op=7∨op=20 then 1 else if op=21 then 3 else if op=22 then -1 else if 5<op∧op<21 then 2 else -1
theorem G201_eq(op:Int):G201 op=some (numE op):=by
 have hs:op=0∨op=1∨op=2∨op=3∨op=4∨op=5∨op=6∨op=7∨op=20∨op=21∨op=22∨(op<0∨(8≤op∧op≤19)∨22<op):=by omega
 rcases hs with h | h | h | h | h | h | h | h | h | h | h | h
 iterate 11 (subst h; rfl)
 have n0:(op==0)=false:=by simp; omega
 have n1:(op==1)=false:=by simp; omega
 have n2:(op==2)=false:=by simp; omega
 have n3:(op==3)=false:=by simp; omega
 have n4:(op==4)=false:=by simp; omega
 have n5:(op==5)=false:=by simp; omega
 have n6:(op==6)=false:=by simp; omega
 have n7:(op==7)=false:=by simp; omega
 have n20:(op==20)=false:=by simp; omega
 have n21:(op==21)=false:=by simp; omega
 have n22:(op==22)=false:=by simp; omega
 have q1:¬ (0≤op∧op≤5):=by omega
 have q2:¬ (op=6∨op=7∨op=20):=by omega
 have q3:¬ op=21:=by omega
 have q4:¬ op=22:=by omega
 unfold G201 T201 numE
 rw[if_neg q1,if_neg q2,if_neg q3,if_neg q4]
 simp only[Tr.den,n0,n1,n2,n3,n4,n5,n6,n7,n20,n21,n22,Option.bind_some,Bool.false_eq_true,if_false]
 by_cases h1:op>5
 ·have h1':5<op:=h1
  by_cases h2:op<21
  ·rw[if_pos (bH h1),if_pos ⟨h1',h2⟩,decide_eq_true h2]; rfl
  ·rw[if_pos (bH h1),if_neg (fun h=>h2 h.2),decide_eq_false h2]; rfl
 ·have:¬ (5<op∧op<21):=by omega
  rw[if_neg (bK h1),if_neg this]; rfl
theorem G202_sp(l:List Int)(n:Int):Sp (G202 l n) (fun r=>r.2=true→0≤n∧n<l.length):=by
 unfold G202 T202
 simp only[Tr.den]
 by_cases h1:n<0
 ·rw[if_pos (bH h1)]
  exact aB.2 (fun h=>by cases h)
 ·rw[if_neg (bK h1)]
  by_cases h2:n≥(l.length:Int)
  ·simp only[Option.bind_some,decide_eq_true h2,if_true]
   exact aB.2 (fun h=>by cases h)
  ·simp only[Option.bind_some,decide_eq_false h2,Bool.false_eq_true,if_false]
   rw[if_pos (by omega),if_pos (by omega),G151_eq]
   exact aB.2 (fun _=>by omega)
theorem G200_sp(fs:List aF)(n:Int)(l:List Int)(hl:l.length≤1048576):Sp (G200 fs n l) (fun r=>r.2=true→0≤n∧n<fs.length∧l.length=(fs.getD n.toNat default).Params.length):=by
 unfold G200 T200
 simp only[Tr.den]
 by_cases h1:n<0
 ·rw[if_pos (bH h1)]
  exact aB.2 (fun h=>by cases h)
 ·rw[if_neg (bK h1)]
  by_cases h2:n≥(fs.length:Int)
  ·simp only[Option.bind_some,decide_eq_true h2,if_true]
   exact aB.2 (fun h=>by cases h)
  ·simp only[Option.bind_some,decide_eq_false h2,Bool.false_eq_true,if_false]
   rw[if_pos (by omega)]
   by_cases h3:((fs.getD n.toNat default).Params.length:Int)=(l.length:Int)
   ·rw[if_neg (by simpa using h3)]
    refine bL.2 (gV (fun s:Int=>s) l.length (by omega) (fun _=>True) (fun s k _ hk hkN=>?_) trivial rfl)
    subst hk
    unfold T200_L0
    simp only[Tr.den,Int.toNat_natCast]
    by_cases hc:k<l.length
    ·rw[if_pos (bH (by omega)),if_pos (by omega),if_pos (by omega)]
     split
     ·exact aB.2 (aB.2 (fun h=>by cases h))
     ·exact aB.2 ⟨rfl,hc,trivial⟩
    ·rw[if_neg (bK (by omega))]
     exact aB.2 (aB.2 (fun _=>by omega))
   ·rw[if_pos (by simpa using h3)]
    exact aB.2 (fun h=>by cases h)
theorem Sq.of{α:Type}{b:Bool}{x:Option α}{Q:α→Prop}(h:Sp x Q):Sq b x Q:=⟨h.1,fun _=>h.2 rfl⟩
inductive BndE:aW→Prop
 | mk {e:aW} (hs:e.S.size≤1048576) (hl:e.Args.length≤1048576) (hA:∀ i,i<e.Args.length→BndE (e.Args.getD i default)):BndE e
theorem sizeOf_argE{e x:aW}(h:x∈e.Args):SizeOf.sizeOf x<SizeOf.sizeOf e:=by
 cases e with
 | mk a b s l=>
  have:=List.sizeOf_lt_of_mem h
  simp only[aW.Args]at this
  simp only[aW.mk.sizeOf_spec]
  omega
abbrev arF (fs:List aF)(k:Nat):Nat:=(fs.getD k default).Params.length
set_option maxHeartbeats 1000000 in
theorem G185_sp(fs:List aF)(cs ps:List Int)(e:aW)(he:BndE e):Sp (G185 fs cs ps e) (fun r=>r.2=true→OkI (arF fs) fs.length cs.length ps.length e):=by
 refine fixF_sq (C:=fun (a:(List aF)×(List Int)×(List Int)×aW) (x:Option (Int×Bool))=>Con Proofs.Tryz.prog 212 [.t (eL bA (a.1)),.t (eL bC (a.2.1)),.t (eL bC (a.2.2.1)),.t (cJ a.2.2.2)] x (fun (y:Int×Bool)=>.tup [.t (.int .i64 (y.1)),.t (.bool (y.2))])) (fun a=>⟨bJ Proofs.Tryz.func212 (by kernel_rfl),fun _ h=>nomatch h⟩) (fun rec a=>T185 rec a.1 a.2.1 a.2.2.1 a.2.2.2) (fun rec a=>T185_ok rec a.1 a.2.1 a.2.2.1 a.2.2.2)
  (fun a=>BndE a.2.2.2) (fun a=>SizeOf.sizeOf a.2.2.2) (fun a r=>r.2=true→OkI (arF a.1) a.1.length a.2.1.length a.2.2.1.length a.2.2.2) (fun b r a ha hrec=>?_) true (fs,cs,ps,e) he
 clear he fs cs ps e
 obtain⟨fs,cs,ps,e⟩:=a
 simp only at ha hrec ⊢
 cases ha with
 | mk hs hl hA=>
 have hr:∀ i,i<e.Args.length→Sq b (r.1 (fs,cs,ps,e.Args.getD i default)) (fun r=>r.2=true→OkI (arF fs) fs.length cs.length ps.length (e.Args.getD i default)):=fun i hi=>hrec _ (hA i hi) (sizeOf_argE (aQ hi))
 unfold T185
 simp only[Tr.den]
 refine bL.2 (gV (fun s:List Int×Int=>s.2) e.Args.length (by omega) (fun s=>(s.1.length:Int)=s.2∧∀ i:Nat,(i:Int)<s.2→OkI (arF fs) fs.length cs.length ps.length (e.Args.getD i default)) (fun s k hI hk hkN=>?_) ⟨rfl,fun i hi=>absurd hi (by show ¬ ((i:Int)<0); omega)⟩ rfl)
 obtain⟨b3,v2⟩:=s
 obtain⟨hbl,hbs⟩:=hI
 simp only at hk hbl hbs
 subst hk
 unfold T185_L0
 simp only[Tr.den,Int.toNat_natCast]
 by_cases hc:k<e.Args.length
 ·rw[if_pos (bH (by omega)),if_pos (by omega)]
  refine Sq.bind _ (hr k hc) fun v hv=>?_
  by_cases hv2:v.2=true
  ·rw[if_neg (by rw[hv2]; decide),if_pos (by simp only[List.length_singleton]; omega)]
   refine aB.2 ⟨rfl,hc,?_,fun i hi=>?_⟩
   ·simp only[List.length_append,List.length_singleton]; rw[aL (by omega)]; omega
   ·simp only at hi
    rw[aL (by omega)]at hi
    rcases Nat.lt_or_ge i k with h | h
    ·exact hbs i (by omega)
    ·have:i=k:=by omega
     subst this; exact hv hv2
  ·rw[if_pos (by simp only[Bool.not_eq_true]at hv2; rw[hv2]; rfl)]
   exact aB.2 (aB.2 (fun h=>by cases h))
 ·rw[if_neg (bK (by omega))]
  refine aB.2 ?_
  have hbe:b3.length=e.Args.length:=by omega
  have hA':∀ i,i<e.Args.length→OkI (arF fs) fs.length cs.length ps.length (e.Args.getD i default):=fun i hi=>hbs i (by omega)
  simp only[sel]
  refine Sq.bind (fun s:List Int×Bool=>s.1=b3) (by split <;> exact aB.2 rfl) (fun s hsb=>?_)
  obtain⟨j5,j6⟩:=s
  simp only at hsb
  subst hsb
  cases j6 with
  | true=>exact aB.2 (fun h=>by cases h)
  | false=>
   simp only[Bool.false_eq_true,if_false]
   by_cases h22:e.Op=22
   ·rw[if_pos (by rw[h22]; rfl)]
    refine Sq.bind _ (Sq.of (G200_sp fs e.N j5 (by omega))) fun r hr=>aB.2 (fun h=>?_)
    have h3:=hr h
    exact .mk hs hl (by omega) hA' (fun h=>by omega) (fun h=>by omega) (fun h=>by omega) (fun h=>by omega) (fun h=>by omega) (fun _=>⟨h3.1,h3.2.1,by rw[←hbe]; exact h3.2.2⟩)
   ·rw[if_neg (by simpa using h22),G201_eq]
    simp only[Option.bind_some]
    by_cases hN:numE e.Op=(j5.length:Int)
    ·rw[if_neg (by simpa using hN)]
     have hh:(0≤e.Op∧e.Op≤21)∧(e.Op=6∨e.Op=7∨e.Op=20→1≤j5.length)∧(8≤e.Op∧e.Op≤19→2≤j5.length)∧(e.Op=21→3≤j5.length):=by
      unfold numE at hN
      repeat' split at hN
      all_goals omega
     obtain⟨ho,c1,c2,c21⟩:=hh
     have fin:(e.Op=3→0≤e.N∧e.N<cs.length)→(e.Op=4→0≤e.N∧e.N<ps.length)→OkI (arF fs) fs.length cs.length ps.length e:=fun c3 c4=>
      .mk hs hl (by omega) hA' c3 c4 (fun h=>by have:=c1 h; omega) (fun h=>by have:=c2 h; omega) (fun h=>by have:=c21 h; omega) (fun h=>absurd h h22)
     clear hN
     by_cases h3:e.Op=3
     ·simp (decide:=true) only[h3,↓reduceIte]
      refine Sq.bind _ (Sq.of (G202_sp cs e.N)) fun r hr=>aB.2 (fun h=>fin (fun _=>hr h) (fun h=>by omega))
     by_cases h4:e.Op=4
     ·simp (decide:=true) only[h4,↓reduceIte]
      refine Sq.bind _ (Sq.of (G202_sp ps e.N)) fun r hr=>aB.2 (fun h=>fin (fun h=>by omega) (fun _=>hr h))
     have fin':=fin (fun h=>absurd h h3) (fun h=>absurd h h4)
     by_cases hu:e.Op=0∨e.Op=1∨e.Op=2∨e.Op=5
     ·rcases hu with h | h | h | h
      all_goals simp (decide:=true) only[h,↓reduceIte]
      all_goals repeat' (first | exact aB.2 (fun _=>fin') | split)
     by_cases hu1:e.Op=6∨e.Op=7∨e.Op=20
     ·have g0:(0:Int)<(j5.length:Int):=by have:=c1 hu1; omega
      have g0':Int.toNat 0<j5.length:=by show 0<j5.length; omega
      rcases hu1 with h | h | h
      all_goals simp (decide:=true) only[h,g0,g0',and_self,↓reduceIte]
      all_goals repeat' (first | exact aB.2 (fun _=>fin') | split)
     have l2:2≤j5.length:=by
      by_cases h:e.Op=21
      ·have:=c21 h; omega
      ·exact c2 (by omega)
     have g0:(0:Int)<(j5.length:Int):=by omega
     have g0':Int.toNat 0<j5.length:=by show 0<j5.length; omega
     have g1:(1:Int)<(j5.length:Int):=by omega
     have g1':Int.toNat 1<j5.length:=by show 1<j5.length; omega
     have hop:e.Op=8∨e.Op=9∨e.Op=10∨e.Op=11∨e.Op=12∨e.Op=13∨e.Op=14∨e.Op=15∨e.Op=16∨e.Op=17∨e.Op=18∨e.Op=19∨e.Op=21:=by omega
     rcases hop with h | h | h | h | h | h | h | h | h | h | h | h | h
     iterate 12
      ·simp (decide:=true) only[h,g0,g0',g1,g1',and_self,↓reduceIte,Option.bind_some]
       repeat' (first | exact aB.2 (fun _=>fin') | split)
     have l3:=c21 h
     have g2:(2:Int)<(j5.length:Int):=by omega
     have g2':Int.toNat 2<j5.length:=by show 2<j5.length; omega
     simp (decide:=true) only[h,g0,g0',g1,g1',g2,g2',and_self,↓reduceIte,Option.bind_some]
     repeat' (first | exact aB.2 (fun _=>fin') | split)
    ·rw[if_pos (by simpa using hN)]
     exact aB.2 (fun h=>by cases h)
theorem G80_spE(e:aW)(h:BndE e):Sp (G80 e) (fun _=>True):=by
 refine fixF_sq (C:=fun (a:aW) (x:Option (Int))=>Con Proofs.Tryz.prog 130 [.t (cJ a)] x (fun (y:Int)=>.t (.int .i64 (y)))) (fun a=>⟨bJ Proofs.Tryz.func130 (by kernel_rfl),fun _ h=>nomatch h⟩) (fun rec a=>T80 rec a) (fun rec a=>T80_ok rec a)
  BndE (fun e=>SizeOf.sizeOf e) (fun _ _=>True) (fun b f e he hrec=>?_) true e h
 cases he with
 | mk hs hl hA=>
 unfold T80
 simp only[Tr.den,bL]
 refine gV (fun s:Int×Int=>s.2) e.Args.length (by omega) (fun _=>True) (fun s k _ hk hkN=>?_) trivial rfl
 obtain⟨v1,v2⟩:=s
 simp only at hk
 subst hk
 unfold T80_L0
 simp only[Tr.den,Int.toNat_natCast]
 by_cases hc:k<e.Args.length
 ·rw[if_pos (bH (by omega)),if_pos (by omega)]
  refine Sq.bind _ (hrec _ (hA k hc) (sizeOf_argE (aQ hc))) fun r _=>aB.2 ⟨rfl,hc,trivial⟩
 ·rw[if_neg (bK (by omega))]
  exact aB.2 (aB.2 trivial)
theorem G152_spE(fs:List aF)(cs ps:List Int)(e:aW)(he:BndE e):Sp (G152 fs cs ps e) (fun r=>r.2=true→OkI (arF fs) fs.length cs.length ps.length e):=by
 unfold G152 T152
 simp only[Tr.den]
 refine Sq.bind _ (G80_spE e he) fun r _=>?_
 split
 ·exact aB.2 (fun h=>by cases h)
 ·refine Sq.bind _ (G185_sp fs cs ps e he) fun r2 h2=>?_
  split
  ·exact aB.2 (fun h=>by cases h)
  ·rename_i h3
   exact aB.2 (fun _=>h2 (by simpa using h3))
theorem G82_sp(fs:List aF)(hl:fs.length≤1048576)(hb:∀ i,i<fs.length→BndE (fs.getD i default).Body∧(fs.getD i default).Params.length≤1048576):
  Sp (G82 fs) (fun ok=>ok=true→fs.length≤20∧∀ i,i<fs.length→OkI (arF (fs.take i)) (fs.take i).length 0 (fs.getD i default).Params.length (fs.getD i default).Body):=by
 unfold G82 T82
 simp only[Tr.den]
 refine bL.2 (gV (fun s:Int=>s) fs.length (by omega) (fun s=>∀ i:Nat,(i:Int)<s→OkI (arF (fs.take i)) (fs.take i).length 0 (fs.getD i default).Params.length (fs.getD i default).Body) (fun s k hI hk hkN=>?_) (fun i hi=>absurd hi (by show ¬ ((i:Int)<0); omega)) rfl)
 subst hk
 unfold T82_L0
 simp only[Tr.den,Int.toNat_natCast]
 by_cases hc:k<fs.length
 ·rw[if_pos (bH (by omega))]
  by_cases h20:(k:Int)≤20
  ·simp only[Option.bind_some,decide_eq_true h20,if_true]
   rw[if_pos (by omega)]
   have hp:=(hb k hc).2
   refine bL.2 (gV (fun s:Int=>s) (fs.getD k default).Params.length (by omega) (fun _=>True) (fun s m _ hm hmN=>?_) trivial rfl)
   subst hm
   unfold T82_L1
   simp only[Tr.den,Int.toNat_natCast]
   by_cases hm:m<(fs.getD k default).Params.length
   ·rw[if_pos (bH (by omega)),if_pos (by omega),G151_eq]
    simp only[Option.bind_some]
    split
    ·exact aB.2 (aB.2 (aB.2 (fun h=>by cases h)))
    ·exact aB.2 ⟨rfl,hm,trivial⟩
   ·rw[if_neg (bK (by omega))]
    refine aB.2 ?_
    simp only[sel]
    rw[if_pos ⟨by omega,by omega,by omega⟩]
    have e1:(fs.drop (Int.toNat 0)).take ((k:Int)-0).toNat=fs.take k:=by
     rw[show ((k:Int)-0).toNat=k by omega]; rfl
    rw[e1,if_pos ⟨by omega,by omega,by omega⟩]
    refine Sq.bind _ (Sq.of (G152_spE (fs.take k) [] (fs.getD k default).Params (fs.getD k default).Body (hb k hc).1)) fun r5 h5=>?_
    by_cases ho:r5.2=true
    ·rw[if_neg (by rw[ho]; decide)]
     refine Sq.bind (fun _=>True) (by split <;> exact aB.2 trivial) fun j6 _=>?_
     cases j6 with
     | true=>exact aB.2 (aB.2 (fun h=>by cases h))
     | false=>
      refine aB.2 ⟨rfl,hc,fun i hi=>?_⟩
      rw[aL (by omega)]at hi
      rcases Nat.lt_or_ge i k with h | h
      ·exact hI i (by omega)
      ·have:i=k:=by omega
       subst this; exact h5 ho
    ·rw[if_pos (by simp only[Bool.not_eq_true]at ho; rw[ho]; rfl)]
     exact aB.2 (aB.2 (fun h=>by cases h))
  ·simp only[Option.bind_some,decide_eq_false h20,Bool.false_eq_true,if_false]
   refine aB.2 (aB.2 (fun h=>?_))
   have:=of_decide_eq_true h
   omega
 ·rw[if_neg (bK (by omega))]
  simp only[Option.bind_some,Bool.false_eq_true,if_false]
  refine aB.2 (aB.2 (fun h=>⟨by have:=of_decide_eq_true h; omega,fun i hi=>hI i (by omega)⟩))
theorem OkI.congr{ar ar':Nat→Nat}{n:Nat}(h:∀ k,k<n→ar k=ar' k){nc np:Nat}{e:aW}(he:OkI ar n nc np e):OkI ar' n nc np e:=by
 induction he with
 | @mk e hs hl ho hA c3 c4 c1 c2 c21 c22 ih=>
  exact .mk hs hl ho ih c3 c4 c1 c2 c21 (fun h22=>by
   obtain⟨g1,g2,g3⟩:=c22 h22
   exact⟨g1,g2,by rw[g3]; exact h _ (by omega)⟩)
theorem arF_take{fs:List aF}{i k:Nat}(h:k<i):arF (fs.take i) k=arF fs k:=by
 unfold arF
 rw[List.getD_eq_getElem?_getD,List.getD_eq_getElem?_getD,List.getElem?_take,if_pos h]
theorem right_okE{fs:List aF}(hl:fs.length≤1048576)(hb:∀ i,i<fs.length→BndE (fs.getD i default).Body∧(fs.getD i default).Params.length≤1048576)(h:G82 fs=some true)
  {cs ps:List Int}{e:aW}(he:BndE e){t:Int}(ht:G152 fs cs ps e=some (t,true)):∃ h,OkE fs cs.length ps.length h e:=by
 have h1:=(G82_sp fs hl hb).1 _ h rfl
 refine okI_okE (fun i hi=>?_) fs.length (Nat.le_refl _) _ _ e ((G152_spE fs cs ps e he).1 _ ht rfl)
 have h2:=h1.2 i hi
 rw[List.length_take,Nat.min_eq_left (by omega)]at h2
 exact h2.congr (fun k hk=>arF_take hk)
section
variable {α:Type} [Inhabited α] (tm:α→Int) (nx:Int→α→Int) (hit:Int→Bool) (sz bg:Int)
def isM(t0 now:Int)(l:List α):Bool:=decide (tm (l.getLastD default)-t0<sz)&&hit (l.foldl nx now)
theorem wlkM_get(h0:∀ q,nx 0 q=0)(hh:hit 0=false)(t0 i:Int)(hi:0≤i):∀ (now:Int) (qs:List α) (fs:List Int) (k:Nat),fs.length=qs.length→k<qs.length→qs.Pairwise (fun x y=>tm x≤tm y) →
  (iE tm nx hit sz t0 i now qs fs).getD k default=if isM tm nx hit sz t0 now (qs.take (k+1))=true∧fs.getD k default<0 then i else fs.getD k default
 | now,[],_,k,_,hk,_=>by simp at hk
 | now,q::qs,[],k,hl,hk,_=>by simp at hl
 | now,q::qs,f::fs,k,hl,hk,hs=>by
  have hs':=List.pairwise_cons.1 hs
  have zero:∀ l:List α,l.foldl nx 0=0:=by
   intro l
   induction l with
   | nil=>rfl
   | cons a l ih=>rw[List.foldl_cons,h0,ih]
  unfold iE
  by_cases hc:tm q-t0<sz∧now≠0
  ·rw[if_pos hc]
   cases k with
   | zero=>
    simp only[List.getD_cons_zero,List.take_succ_cons,List.take_zero]
    unfold isM
    simp only[List.getLastD_cons,List.getLastD_nil,List.foldl_cons,List.foldl_nil,decide_eq_true hc.1,Bool.true_and]
   | succ k=>
    simp only[List.getD_cons_succ]
    have hk':k<qs.length:=by simp only[List.length_cons]at hk; omega
    rw[wlkM_get h0 hh t0 i hi (nx now q) qs fs k (by simpa using hl) hk' hs'.2]
    have e:isM tm nx hit sz t0 now ((q::qs).take (k+1+1))=isM tm nx hit sz t0 (nx now q) (qs.take (k+1)):=by
     unfold isM
     rw[List.take_succ_cons,List.foldl_cons]
     have hne:qs.take (k+1)≠[]:=by
      intro h; have:=congrArg List.length h; rw[List.length_take,List.length_nil]at this; omega
     obtain⟨a,b,hab⟩:=List.exists_cons_of_ne_nil hne
     rw[hab]; rfl
    rw[e]
  ·rw[if_neg hc]
   have e:isM tm nx hit sz t0 now ((q::qs).take (k+1))=false:=by
    unfold isM
    by_cases hn:now=0
    ·subst hn
     rw[zero,hh,Bool.and_false]
    ·have ht:¬ tm q-t0<sz:=fun h=>hc ⟨h,hn⟩
     have:¬ tm (((q::qs).take (k+1)).getLastD default)-t0<sz:=by
      have hm:((q::qs).take (k+1)).getLastD default∈(q::qs):=by
       rw[List.take_succ_cons,List.getLastD_cons]
       have:(qs.take k).getLastD q∈q::qs.take k:=by
        cases hq:qs.take k with
        | nil=>simp
        | cons a b=>
         rw[List.getLastD_cons]
         have:=List.getLast_mem (l:=a::b) (by simp)
         rw[List.getLast_eq_getLastD]at this
         exact List.mem_cons_of_mem _ this
       rcases List.mem_cons.1 this with h | h
       ·rw[h]; exact List.mem_cons_self
       ·exact List.mem_cons_of_mem _ (List.mem_of_mem_take h)
      rcases List.mem_cons.1 hm with h | h
      ·rw[h]; exact ht
      ·have:=hs'.1 _ h; omega
     rw[decide_eq_false this,Bool.false_and]
   rw[e,if_neg (by simp)]
def firstM:Int→List α→Nat→Int
 | _,[],_=>-1
 | i,q::qs,0=>if isM tm nx hit sz (tm q) bg [q]=true then i else -1
 | i,q::qs,k+1=>if isM tm nx hit sz (tm q) bg ((q::qs).take (k+1+1))=true then i else firstM (i+1) qs k
theorem frmM_get(h0:∀ q,nx 0 q=0)(hh:hit 0=false):∀ (i:Int) (qs:List α) (fs:List Int) (k:Nat),0≤i→fs.length=qs.length→k<qs.length→qs.Pairwise (fun x y=>tm x≤tm y)→(fs.getD k default<0→fs.getD k default = -1) →
  (frmM tm nx hit sz bg i qs fs).getD k default=if fs.getD k default<0 then firstM tm nx hit sz bg i qs k else fs.getD k default
 | i,[],fs,k,hi,hl,hk,hs,hf=>by simp at hk
 | i,q::qs,fs,k,hi,hl,hk,hs,hf=>by
  have hg:=wlkM_get tm nx hit sz h0 hh (tm q) i hi bg (q::qs) fs
  have hlen:=wlkM_len tm nx hit sz (tm q) i bg (q::qs) fs
  unfold frmM
  generalize iE tm nx hit sz (tm q) i bg (q::qs) fs=st at hg hlen
  cases st with
  | nil=>rw[List.length_nil]at hlen; simp only[List.length_cons]at hl; omega
  | cons f fs'=>
   simp only
   cases k with
   | zero=>
    have h1:=hg 0 hl hk hs
    simp only[List.getD_cons_zero]at h1 ⊢
    rw[h1,show (q::qs).take (0+1)=[q] from rfl]
    unfold firstM
    by_cases hm:isM tm nx hit sz (tm q) bg [q]=true
    ·by_cases hn:fs.getD 0 default<0
     ·rw[if_pos ⟨hm,hn⟩,if_pos hn,if_pos hm]
     ·rw[if_neg (fun h=>hn h.2),if_neg hn]
    ·rw[if_neg (fun h=>hm h.1)]
     by_cases hn:fs.getD 0 default<0
     ·rw[if_pos hn,if_neg hm,hf hn]
     ·rw[if_neg hn]
   | succ k=>
    have h1:=hg (k+1) hl hk hs
    simp only[List.getD_cons_succ]at h1 ⊢
    have hk':k<qs.length:=by simp only[List.length_cons]at hk; omega
    have hl':fs'.length=qs.length:=by
     simp only[List.length_cons]at hlen hl; omega
    by_cases hm:isM tm nx hit sz (tm q) bg ((q::qs).take (k+1+1))=true
    ·by_cases hn:fs.getD (k+1) default<0
     ·rw[if_pos ⟨hm,hn⟩]at h1
      rw[frmM_get h0 hh (i+1) qs fs' k (by omega) hl' hk' (List.pairwise_cons.1 hs).2 (fun h=>by omega),h1,if_neg (by omega),if_pos hn]
      conv=>rhs; unfold firstM
      rw[if_pos hm]
     ·rw[if_neg (fun h=>hn h.2)]at h1
      rw[frmM_get h0 hh (i+1) qs fs' k (by omega) hl' hk' (List.pairwise_cons.1 hs).2 (fun h=>by rw[h1]at h; exact absurd h hn),h1,if_neg hn,if_neg hn]
    ·rw[if_neg (fun h=>hm h.1)]at h1
     rw[frmM_get h0 hh (i+1) qs fs' k (by omega) hl' hk' (List.pairwise_cons.1 hs).2 (fun h=>by rw[h1]at h ⊢; exact hf h),h1]
     conv=>rhs; unfold firstM
     rw[if_neg hm]
end
end Go.PL
