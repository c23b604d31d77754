/-
  Parts: The kept part of a plain-law text (strip.py). Own work. The kept part of a plain-law text (strip.py). Own work. Plain law of expressions: what the operators compute. Own work. Plain law of patterns: the walk over the places, as plain lists. Own work. Plain law of expressions: every right expression has a value. Own work. Plain law of expressions: right by parts is right at a height. Own work. Plain law of expressions: the parts of the type rule. Own work. Plain law of expressions: what has a type is right by parts. Own work. Plain law of expressions: right functions. Own work.
-/
import Derived.Test.YtjefblkdnolgaaaGreatDoorMf
namespace Go.PL
open Go
set_option linter.unusedVariables false
set_option maxRecDepth 20000
theorem G159_eq(a b:GValue):G159 a b=some (cmpV a b):=by
 unfold G159 T159 cmpV thenC cmpI
 simp only[Tr.den,decide_eq_true_eq]
 have hs:=bytesLess_cmp a.S.toList b.S.toList
 have h2:=bytesLess_cmp b.S.toList a.S.toList
 rw[Lib.toList_data,Lib.toList_data]at hs h2
 have e1:Op.bytesLess a.S.toList b.S.toList=decide (cmpS a.S b.S<0):=by rw[Lib.toList_data,Lib.toList_data]; exact hs
 have e2:(a.S.toList==b.S.toList)=decide (cmpS a.S b.S=0):=by
  rw[Bool.eq_iff_iff,beq_iff_eq,decide_eq_true_eq,TO.str.eq,Lib.toList_data,Lib.toList_data]
  constructor
  ·intro h
   generalize a.S=x at h ⊢
   generalize b.S=y at h ⊢
   cases x; cases y; simp at h; simp[h]
  ·intro h; rw[h]
 have h3:cmpS a.S b.S = -1∨cmpS a.S b.S=0∨cmpS a.S b.S=1:=by
  unfold cmpS
  generalize a.S.data.toList=x
  generalize b.S.data.toList=y
  induction x generalizing y with
  | nil=>cases y <;> simp[Lib.compareBytes]
  | cons u x ih=>
   cases y with
   | nil=>simp[Lib.compareBytes]
   | cons v y=>
    rw[Lib.compareBytes]
    by_cases q1:u<v
    ·rw[if_pos q1]; exact .inl rfl
    ·rw[if_neg q1]
     by_cases q2:v<u
     ·rw[if_pos q2]; exact .inr (.inr rfl)
     ·rw[if_neg q2]; exact ih y
 rw[e1,e2]
 by_cases k1:a.Kind<b.Kind
 ·simp[k1]
 ·by_cases k2:b.Kind<a.Kind
  ·simp[k1,k2]
  ·by_cases n1:a.N<b.N
   ·simp[k1,k2,n1]
   ·by_cases n2:b.N<a.N
    ·simp[k1,k2,n1,n2]
    ·rcases h3 with h | h | h <;> simp[k1,k2,n1,n2,h]
theorem G116_eq(a b:List GValue)(ha:a.length≤1073741824)(hb:b.length≤1073741824):G116 a b=some (cmpR a b):=by
 refine Sp.eq ?_
 unfold G116 T116
 simp only[Tr.den,sq_bind]
 refine Sq.while (fun k:Int=>0≤k∧k≤a.length∧k≤b.length∧cmpR (a.drop k.toNat) (b.drop k.toNat)=cmpR a b) (fun k=>a.length-k.toNat) (fun k hk=>?_) ⟨by omega,by omega,by omega,by simp⟩
 obtain⟨h0,h1,h2,h3⟩:=hk
 unfold T116_L0
 simp only[Tr.den,G159_eq,Option.bind_some]
 have stop:(k=a.length∨k=b.length)→Sp (sel (fun _:Unit=>if decide ((a.length:Int)<(b.length:Int))=true then some (-1:Int) else if decide ((a.length:Int)>(b.length:Int))=true then some 1 else some 0) some (Sum.inl ())) (fun z=>z=cmpR a b):=by
  intro hk
  simp only[sel]
  rcases hk with hk | hk
  ·rw[List.drop_eq_nil_of_le (show a.length≤k.toNat by omega)]at h3
   by_cases hl:(a.length:Int)<b.length
   ·rw[if_pos (decT hl)]
    rw[drop_getD (show k.toNat<b.length by omega)]at h3
    exact sq_some.2 h3
   ·rw[if_neg (decF hl),if_neg (decF (by omega))]
    rw[List.drop_eq_nil_of_le (show b.length≤k.toNat by omega)]at h3
    exact sq_some.2 h3
  ·rw[List.drop_eq_nil_of_le (show b.length≤k.toNat by omega)]at h3
   rw[if_neg (decF (by omega))]
   by_cases hl:(a.length:Int)>b.length
   ·rw[if_pos (decT hl)]
    rw[drop_getD (show k.toNat<a.length by omega)]at h3
    exact sq_some.2 h3
   ·rw[if_neg (decF (by omega))]
    rw[List.drop_eq_nil_of_le (show a.length≤k.toNat by omega)]at h3
    exact sq_some.2 h3
 by_cases hk:k<a.length
 ·rw[if_pos (decT hk)]
  simp only[Option.bind_some]
  by_cases hk':k<b.length
  ·rw[if_pos (decT hk'),if_pos ⟨h0,hk⟩,if_pos ⟨h0,hk'⟩]
   rw[drop_getD (show k.toNat<a.length by omega),drop_getD (show k.toNat<b.length by omega)]at h3
   simp only[cmpL]at h3
   by_cases hz:cmpV (a.getD k.toNat default) (b.getD k.toNat default)=0
   ·rw[if_neg (bneF hz),wrap_id (by omega) (by omega)]
    refine sq_some.2 ⟨⟨by omega,by omega,by omega,?_⟩,by omega⟩
    rw[show (k+1).toNat=k.toNat+1 by omega]; refine Eq.trans ?_ h3; simp only[thenC,hz,if_true]
   ·rw[if_pos (bneT hz)]
    refine sq_some.2 (sq_some.2 ?_)
    refine Eq.trans ?_ h3; simp only[thenC,if_neg hz]
  ·rw[if_neg (decF hk')]
   exact sq_some.2 (stop (.inr (by omega)))
 ·rw[if_neg (decF hk)]
  exact sq_some.2 (stop (.inl (by omega)))
theorem G49_eq(a b:GDelta)(ha:okR a)(hb:okR b):G49 a b=some (cmpD a b):=by
 unfold G49 T49
 simp only[Tr.den]
 rw[G116_eq _ _ ha hb]
 unfold cmpD thenC cmpI
 by_cases h1:a.Time<b.Time
 ·rw[if_pos (decT h1),if_pos h1,if_neg (by omega)]
 ·rw[if_neg (decF h1),if_neg h1]
  by_cases h2:b.Time<a.Time
  ·rw[if_pos (decT h2),if_pos h2,if_neg (by omega)]
  ·rw[if_neg (decF h2),if_neg h2,if_pos rfl]; rfl
def vI(n:Int):GValue:=⟨0,n,⟨#[]⟩⟩
def vB(b:Bool):GValue:=⟨2,if b then 1 else 0,⟨#[]⟩⟩
def vT(s:ByteArray):GValue:=⟨1,0,s⟩
theorem G378_eq(n:Int):G378 n=some (vI n):=by simp[G378,T378,Tr.den,vI]
theorem G361_eq(n:Int):G361 n=some (vI n):=by simp[G361,T361,Tr.den,vI]
theorem G379_eq(b:Bool):G379 b=some (vB b):=by cases b <;> simp[G379,T379,Tr.den,vB]
def bop(op:Int)(a b:GValue):GValue:=
 if op=8 then vI (IntKind.i64.wrap (a.N+b.N)) else if op=9 then vI (IntKind.i64.wrap (a.N-b.N)) else if op=10 then vI (IntKind.i64.wrap (a.N*b.N))
 else if op=11 then (if b.N=0 then vI 0 else vI (IntKind.i64.wrap (Int.tdiv a.N b.N))) else if op=12 then (if b.N=0 then vI 0 else vI (Int.tmod a.N b.N))
 else if op=13 then vB ((a.Kind==b.Kind)&&((a.N==b.N)&&(a.S.toList==b.S.toList))) else if op=14 then vB (!((a.Kind==b.Kind)&&((a.N==b.N)&&(a.S.toList==b.S.toList))))
 else if op=15 then vB (decide (cmpV a b<0)) else if op=16 then vB (decide (cmpV a b≤0))
 else if op=17 then vB (a.N==1&&b.N==1) else if op=18 then vB (a.N==1 || b.N==1)
 else vT ((a.S++b.S).extract 0 (min 200 (a.S.size+b.S.size)))
theorem G380_eq(p:GPair):G380 p=some (bop 8 p.a_ p.b_):=by simp[G380,T380,Tr.den,G378_eq,bop]
theorem G381_eq(p:GPair):G381 p=some (bop 9 p.a_ p.b_):=by simp[G381,T381,Tr.den,G378_eq,bop]
theorem G382_eq(p:GPair):G382 p=some (bop 10 p.a_ p.b_):=by simp[G382,T382,Tr.den,G378_eq,bop]
theorem G383_eq(p:GPair):G383 p=some (bop 11 p.a_ p.b_):=by
 by_cases h:p.b_.N=0
 ·simp[G383,T383,Tr.den,G378_eq,bop,h]
 ·simp[G383,T383,Tr.den,G378_eq,bop,h]
theorem G384_eq(p:GPair):G384 p=some (bop 12 p.a_ p.b_):=by
 by_cases h:p.b_.N=0
 ·simp[G384,T384,Tr.den,G378_eq,bop,h]
 ·simp[G384,T384,Tr.den,G378_eq,bop,h]
theorem G385_eq(p:GPair):G385 p=some (bop 13 p.a_ p.b_):=by simp[G385,T385,Tr.den,G379_eq,bop]
theorem G386_eq(p:GPair):G386 p=some (bop 14 p.a_ p.b_):=by simp[G386,T386,Tr.den,G379_eq,bop]
theorem G387_eq(p:GPair):G387 p=some (bop 15 p.a_ p.b_):=by simp[G387,T387,Tr.den,G175_eq,G379_eq,bop]
theorem G388_eq(p:GPair):G388 p=some (bop 16 p.a_ p.b_):=by simp[G388,T388,Tr.den,G175_eq,G379_eq,bop]
theorem G389_eq(p:GPair):G389 p=some (bop 17 p.a_ p.b_):=by
 by_cases h:p.a_.N=1
 ·simp[G389,T389,Tr.den,G379_eq,bop,h]
 ·have e:(p.a_.N==1)=false:=by simpa using h
  simp[G389,T389,Tr.den,G379_eq,bop,e]
theorem G390_eq(p:GPair):G390 p=some (bop 18 p.a_ p.b_):=by
 by_cases h:p.a_.N=1
 ·simp[G390,T390,Tr.den,G379_eq,bop,h]
 ·have e:(p.a_.N==1)=false:=by simpa using h
  simp[G390,T390,Tr.den,G379_eq,bop,e]
theorem G391_eq(p:GPair)(h:p.a_.S.size+p.b_.S.size≤9223372036854775807):G391 p=some (bop 19 p.a_ p.b_):=by
 have hs:(p.a_.S++p.b_.S).size=p.a_.S.size+p.b_.S.size:=ByteArray.size_append
 have h1:((p.a_.S.size+p.b_.S.size:Nat):Int)≤9223372036854775807:=by omega
 by_cases hc:(200:Int)<((p.a_.S.size+p.b_.S.size:Nat):Int)
 ·have e:min 200 (p.a_.S.size+p.b_.S.size)=200:=by omega
  simp only[G391,T391,Tr.den,bop,hs,if_pos hc,if_pos h1,e]
  simp[vT]; omega
 ·have e:min 200 (p.a_.S.size+p.b_.S.size)=p.a_.S.size+p.b_.S.size:=by omega
  simp only[G391,T391,Tr.den,bop,hs,if_neg hc,if_pos h1,e]
  simp[vT]
  exact⟨by omega,by congr 1⟩
section
variable {α:Type} [Inhabited α] (tm:α→Int) (nx:Int→α→Int) (hit:Int→Bool) (sz:Int)
def wlkM(t0 i:Int):Int→List α→List Int→List Int
 | now,q::qs,f::fs=>if tm q-t0<sz∧now≠0 then (if hit (nx now q)=true∧f<0 then i else f)::wlkM t0 i (nx now q) qs fs else f::fs
 | _,_,fs=>fs
def frmM(bg:Int):Int→List α→List Int→List Int
 | i,q::qs,fs=>match wlkM tm nx hit sz (tm q) i bg (q::qs) fs with
  | f::fs'=>f::frmM bg (i+1) qs fs'
  | []=>[]
 | _,[],fs=>fs
omit [Inhabited α] in
theorem wlkM_len(t0 i:Int):∀ (now:Int) (qs:List α) (fs:List Int),(wlkM tm nx hit sz t0 i now qs fs).length=fs.length
 | now,q::qs,f::fs=>by
  unfold wlkM
  split
  ·simp only[List.length_cons,wlkM_len t0 i _ qs fs]
  ·rfl
 | _,[],fs=>by unfold wlkM; rfl
 | _,_::_,[]=>by unfold wlkM; rfl
omit [Inhabited α] in
theorem frmM_len(bg:Int):∀ (i:Int) (qs:List α) (fs:List Int),(frmM tm nx hit sz bg i qs fs).length=fs.length
 | i,q::qs,fs=>by
  unfold frmM
  have h:=wlkM_len tm nx hit sz (tm q) i bg (q::qs) fs
  split
  ·rename_i f fs' e
   rw[e]at h
   rw[List.length_cons,frmM_len bg _ qs fs',←h]; rfl
  ·rename_i e
   rw[e]at h
   exact h
 | _,[],fs=>by unfold frmM; rfl
omit [Inhabited α] in
theorem wlkM_mem(t0 i:Int):∀ (now:Int) (qs:List α) (fs:List Int) (x:Int),x∈wlkM tm nx hit sz t0 i now qs fs→x=i∨x∈fs
 | now,q::qs,f::fs,x,hx=>by
  unfold wlkM at hx
  split at hx
  ·rcases List.mem_cons.1 hx with rfl | hx
   ·split
    ·exact .inl rfl
    ·exact .inr List.mem_cons_self
   ·rcases wlkM_mem t0 i _ qs fs x hx with h | h
    ·exact .inl h
    ·exact .inr (List.mem_cons_of_mem _ h)
  ·exact .inr hx
 | _,[],fs,x,hx=>by unfold wlkM at hx; exact .inr hx
 | _,_::_,[],x,hx=>by unfold wlkM at hx; exact .inr hx
omit [Inhabited α] in
theorem frmM_mem(bg:Int):∀ (i:Int) (qs:List α) (fs:List Int) (x:Int),x∈frmM tm nx hit sz bg i qs fs→(i≤x∧x<i+qs.length)∨x∈fs
 | i,q::qs,fs,x,hx=>by
  have hm:=wlkM_mem tm nx hit sz (tm q) i bg (q::qs) fs x
  unfold frmM at hx
  split at hx
  ·rename_i f fs' e
   rw[e]at hm
   have one:x=i∨x∈fs→(i≤x∧x<i+(q::qs).length)∨x∈fs:=by
    rintro (rfl | h)
    ·exact .inl ⟨Int.le_refl _,by rw[List.length_cons]; omega⟩
    ·exact .inr h
   rcases List.mem_cons.1 hx with rfl | hx
   ·exact one (hm List.mem_cons_self)
   ·rcases frmM_mem bg (i+1) qs fs' x hx with h | h
    ·exact .inl ⟨by omega,by rw[List.length_cons]; omega⟩
    ·exact one (hm (List.mem_cons_of_mem _ h))
  ·simp at hx
 | _,[],fs,x,hx=>by unfold frmM at hx; exact .inr hx
theorem wlkM_at(t0 i:Int)(now:Int)(ps:List α)(fr:List Int)(k:Nat)(h:k<ps.length)(h':fr.length=ps.length):
  wlkM tm nx hit sz t0 i now (ps.drop k) (fr.drop k)=if tm (ps.getD k default)-t0<sz∧now≠0
   then (if hit (nx now (ps.getD k default))=true∧fr.getD k default<0 then i else fr.getD k default)::wlkM tm nx hit sz t0 i (nx now (ps.getD k default)) (ps.drop (k+1)) (fr.drop (k+1))
   else fr.drop k:=by
 rw[drop_getD h,drop_getD (l:=fr) (by omega)]
 conv=>lhs; unfold wlkM
omit [Inhabited α] in
theorem wlkM_end(t0 i:Int)(now:Int)(ps:List α)(fr:List Int)(k:Nat)(h:ps.length≤k)(h':fr.length=ps.length):wlkM tm nx hit sz t0 i now (ps.drop k) (fr.drop k)=[]:=by
 rw[List.drop_eq_nil_of_le h,List.drop_eq_nil_of_le (show fr.length≤k by omega)]
 unfold wlkM; rfl
def tgtM(bg:Int)(ps:List α)(fr:List Int)(k:Nat):List Int:=fr.take k++wlkM tm nx hit sz (tm (ps.getD k default)) (k:Int) bg (ps.drop k) (fr.drop k)
theorem tgtM_len(bg:Int)(ps:List α)(fr:List Int)(k:Nat):(tgtM tm nx hit sz bg ps fr k).length=fr.length:=by
 unfold tgtM
 rw[List.length_append,wlkM_len,List.length_take,List.length_drop]; omega
theorem inM_step{t0 i now:Int}{ps:List α}{fr T:List Int}{k:Nat}(h:k<ps.length)(h':fr.length=ps.length)(hT:fr.take k++wlkM tm nx hit sz t0 i now (ps.drop k) (fr.drop k)=T)(hc:tm (ps.getD k default)-t0<sz∧now≠0):
  let fr':=if hit (nx now (ps.getD k default))=true∧fr.getD k default<0 then fr.set k i else fr
  fr'.take (k+1)++wlkM tm nx hit sz t0 i (nx now (ps.getD k default)) (ps.drop (k+1)) (fr'.drop (k+1))=T:=by
 intro fr'
 rw[wlkM_at tm nx hit sz t0 i now ps fr k h h',if_pos hc]at hT
 rw[←hT]
 have hl:k<fr.length:=by omega
 by_cases hh:hit (nx now (ps.getD k default))=true∧fr.getD k default<0
 ·have e:fr'=fr.set k i:=if_pos hh
  rw[e,if_pos hh,take_succ_getD (by simpa using hl),getD_set,if_pos ⟨rfl,hl⟩,List.take_set_of_le (Nat.le_refl _),List.drop_set_of_lt (by omega),List.append_assoc]
  rfl
 ·have e:fr'=fr:=if_neg hh
  rw[e,if_neg hh,take_succ_getD hl,List.append_assoc]
  rfl
theorem inM_stop{t0 i now:Int}{ps:List α}{fr T:List Int}{k:Nat}(h:k<ps.length)(h':fr.length=ps.length)(hT:fr.take k++wlkM tm nx hit sz t0 i now (ps.drop k) (fr.drop k)=T)(hc:¬ (tm (ps.getD k default)-t0<sz∧now≠0)):fr=T:=by
 rw[wlkM_at tm nx hit sz t0 i now ps fr k h h',if_neg hc,List.take_append_drop]at hT
 exact hT
omit [Inhabited α] in
theorem inM_end{t0 i now:Int}{ps:List α}{fr T:List Int}{k:Nat}(h:ps.length≤k)(h':fr.length=ps.length)(hT:fr.take k++wlkM tm nx hit sz t0 i now (ps.drop k) (fr.drop k)=T):fr=T:=by
 rw[wlkM_end tm nx hit sz t0 i now ps fr k h h',List.append_nil,List.take_of_length_le (by omega)]at hT
 exact hT
theorem outM_step{bg:Int}{ps:List α}{fr F:List Int}{k:Nat}(h:k<ps.length)(h':fr.length=ps.length)(hF:fr.take k++frmM tm nx hit sz bg (k:Int) (ps.drop k) (fr.drop k)=F):
  (tgtM tm nx hit sz bg ps fr k).take (k+1)++frmM tm nx hit sz bg ((k:Int)+1) (ps.drop (k+1)) ((tgtM tm nx hit sz bg ps fr k).drop (k+1))=F:=by
 rw[←hF]
 have hl:(fr.take k).length=k:=by rw[List.length_take]; omega
 have hs:=wlkM_len tm nx hit sz (tm (ps.getD k default)) (k:Int) bg (ps.drop k) (fr.drop k)
 rw[List.length_drop]at hs
 have e:frmM tm nx hit sz bg (k:Int) (ps.drop k) (fr.drop k)=match wlkM tm nx hit sz (tm (ps.getD k default)) (k:Int) bg (ps.drop k) (fr.drop k) with
   | f::fs'=>f::frmM tm nx hit sz bg ((k:Int)+1) (ps.drop (k+1)) fs'
   | []=>[]:=by
  rw[drop_getD h]
  conv=>lhs; unfold frmM
 rw[e]
 unfold tgtM
 generalize wlkM tm nx hit sz (tm (ps.getD k default)) (k:Int) bg (ps.drop k) (fr.drop k)=st at hs
 cases st with
 | nil=>simp only[List.length_nil]at hs; omega
 | cons f fs'=>
  simp only
  have e2:(fr.take k).drop (k+1)=[]:=List.drop_eq_nil_of_le (by omega)
  rw[List.take_append,List.drop_append,hl,List.take_of_length_le (l:=fr.take k) (by omega),e2,show k+1-k=1 by omega]
  simp
end
theorem replicate_mem{n:Nat}{x y:Int}(h:x∈List.replicate n y):x=y:=(List.mem_replicate.1 h).2
def outsM{α:Type}[Inhabited α](tm:α→Int)(key:List GValue)(low:Int)(ps:List α):Nat→List Int→List GDelta
 | _,[]=>[]
 | j,i::fr=>(if 0≤i∧low≤tm (ps.getD j default) then [⟨tm (ps.getD j default),key++[vI (tm (ps.getD i.toNat default)),vI ((j:Int)-i+1)],1⟩] else [])++outsM tm key low ps (j+1) fr
theorem outsM_len{α:Type}[Inhabited α](tm:α→Int)(key:List GValue)(low:Int)(ps:List α):∀ (j:Nat) (fr:List Int),(outsM tm key low ps j fr).length≤fr.length
 | _,[]=>Nat.le_refl _
 | j,i::fr=>by
  have:=outsM_len tm key low ps (j+1) fr
  unfold outsM
  rw[List.length_append,List.length_cons]
  split <;> simp <;> omega
section
variable {P:Program} {A R:Type}
theorem fixN_sqh{C:A→Option R→Prop}(c0:∀ a,C a none)(B:{f:A→Option R // ∀ a,C a (f a)}→A→Tr P R)(ok:∀ f a,C a (B f a).den)(I:Nat→A→Prop)(Q:A→R→Prop)
  (h:∀ b f n a,I n a→(∀ m a',m<n→I m a'→Sq b (f.1 a') (Q a'))→Sq b (B f a).den (Q a)):∀ k n a,I n a→Sq (decide (n<k)) ((fixN c0 B ok k).1 a) (Q a):=by
 intro k
 induction k with
 | zero=>intro n a ha; exact⟨fun y hy=>(by cases hy),fun hb=>by simp at hb⟩
 | succ k ih=>
  intro n a ha
  refine h _ _ n a ha fun m a' hm ha'=>?_
  have h1:=ih m a' ha'
  exact⟨h1.1,fun hb=>h1.2 (by simp at hb ⊢; omega)⟩
theorem fixF_sqh{C:A→Option R→Prop}(c0:∀ a,C a none)(B:{f:A→Option R // ∀ a,C a (f a)}→A→Tr P R)(ok:∀ f a,C a (B f a).den)(I:Nat→A→Prop)(Q:A→R→Prop)
  (h:∀ b f n a,I n a→(∀ m a',m<n→I m a'→Sq b (f.1 a') (Q a'))→Sq b (B f a).den (Q a))(b:Bool)(n:Nat)(a:A)(ha:I n a):Sq b (fixF c0 B ok a) (Q a):=by
 have h1:=fixN_sqh c0 B ok I Q h
 unfold fixF Lim
 split
 ·rename_i hh
  obtain⟨k,hk⟩:=hh.choose_spec
  exact sq_some.2 ((h1 k n a ha).1 _ hk)
 ·rename_i hh
  exfalso
  have h2:=h1 (n+1) n a ha
  obtain⟨y,hy⟩:=Option.isSome_iff_exists.1 (h2.2 (by simp))
  exact hh ⟨y,_,hy⟩
end
theorem sq_cnt{S R:Type}{b:Bool}{bd:S→Option (S⊕R)}(idx:S→Int)(N:Nat)(hN:N≤1000000000000000)(I:S→Prop){Q:R→Prop}
  (h:∀ s (k:Nat),I s→idx s=k→k≤N→Sq b (bd s) (sel (fun s'=>idx s'=IntKind.i64.wrap ((k:Int)+1)∧k<N∧I s') Q)){s:S}(hs:I s)(h0:idx s=0):Sq b (whileM bd s) Q:=by
 refine Sq.while (fun s=>I s∧∃ k:Nat,idx s=k∧k≤N) (fun s=>N-(idx s).toNat) (fun s hs=>?_) ⟨hs,0,h0,by omega⟩
 obtain⟨hI,k,hk,hkN⟩:=hs
 refine(h s k hI hk hkN).imp fun z hz=>?_
 cases z with
 | inr r=>exact hz
 | inl s'=>
  obtain⟨q1,q2,q3⟩:=hz
  rw[wrap_inc (by omega)]at q1
  exact⟨⟨q3,k+1,q1,by omega⟩,by rw[q1,hk]; omega⟩
inductive OkE (fs:List GFunc):Nat→Nat→Nat→Expr→Prop
 | mk {nc np h:Nat} {e:Expr} (k:Nat) (hm:Nat→Nat) (hs:e.S.size≤1048576) (hl:e.Args.length≤1048576) (ho:0≤e.Op∧e.Op≤22)
   (hlt:∀ i,hm i<h) (hA:∀ i,i<e.Args.length→OkE fs nc np (hm i) (e.Args.getD i default))
   (c3:e.Op=3→0≤e.N∧e.N<nc) (c4:e.Op=4→0≤e.N∧e.N<np) (c1:e.Op=6∨e.Op=7∨e.Op=20→1≤e.Args.length) (c2:8≤e.Op∧e.Op≤19→2≤e.Args.length)
   (c21:e.Op=21→3≤e.Args.length) (c22:e.Op=22→0≤e.N∧e.N<fs.length∧k<h) (hb:e.Op=22→OkE fs 0 e.Args.length k (fs.getD e.N.toNat default).Body):OkE fs nc np h e
def Sm(v:GValue):Prop:=v.S.size≤1073741824
structure OkF (fs:List GFunc)(nc np:Nat)(f:GFrame):Prop where
 fs:f.funcs_=fs
 nc:f.row_.length=nc
 np:f.params_.length=np
 row:∀ v,v∈f.row_→Sm v
 params:∀ v,v∈f.params_→Sm v
theorem sm_vI(n:Int):Sm (vI n):=by show (0:Nat)≤_; omega
theorem sm_vB(b:Bool):Sm (vB b):=by show (0:Nat)≤_; omega
theorem sm_getD{l:List GValue}(h:∀ v,v∈l→Sm v){i:Nat}(hi:i<l.length):Sm (l.getD i default):=h _ (getD_mem hi)
theorem sm_ite{c:Prop}[Decidable c]{x y:GValue}(hx:Sm x)(hy:Sm y):Sm (if c then x else y):=by split <;> assumption
theorem sm_bop(op:Int)(a b:GValue):Sm (bop op a b):=by
 unfold bop
 refine sm_ite (sm_vI _) (sm_ite (sm_vI _) (sm_ite (sm_vI _) (sm_ite (sm_ite (sm_vI _) (sm_vI _)) (sm_ite (sm_ite (sm_vI _) (sm_vI _)) (sm_ite (sm_vB _) (sm_ite (sm_vB _) (sm_ite (sm_vB _) (sm_ite (sm_vB _) (sm_ite (sm_vB _) (sm_ite (sm_vB _) ?_))))))))))
 show ((a.S++b.S).extract 0 (min 200 (a.S.size+b.S.size))).size≤1073741824
 rw[ByteArray.size_extract]; omega
theorem G362_sp(fs:List GFunc)(nc np n:Nat)(f:GFrame)(e:Expr)(hf:OkF fs nc np f)(he:OkE fs nc np n e):Sp (G362 f e) Sm:=by
 refine fixF_sqh (C:=fun (a:GFrame×Expr) (x:Option (GValue))=>Con Proofs.Tryz.prog 171 [.t (eGFrame a.1),.t (eExpr a.2)] x (fun (y:GValue)=>.t (eGValue y))) (fun a=>⟨callable_of Proofs.Tryz.func171 (by kernel_rfl),fun _ h=>nomatch h⟩) (fun rec a=>T362 rec a.1 a.2) (fun rec a=>T362_ok rec a.1 a.2)
  (fun n a=>∃ fs nc np,OkF fs nc np a.1∧OkE fs nc np n a.2) (fun _=>Sm) (fun b r n a ha hrec=>?_) true n (f,e) ⟨fs,nc,np,hf,he⟩
 clear hf he fs nc np f e
 obtain⟨f,e⟩:=a
 obtain⟨fs,nc,np,hf,he⟩:=ha
 simp only at hf he ⊢
 have hfun:=hf.fs
 cases he with
 | mk k' hm hs hl ho hlt hA c3 c4 c1 c2 c21 c22 hb=>
 have hr:∀ i,i<e.Args.length→Sq b (r.1 (f,e.Args.getD i default)) Sm:=fun i hi=>hrec _ _ (hlt i) ⟨fs,nc,np,hf,hA i hi⟩
 unfold T362
 by_cases h21:e.Op=21
 ·have hl3:=c21 h21
  simp only[h21,Tr.den]
  rw[if_pos (by decide),if_pos (by omega)]
  refine Sq.bind _ (hr 0 (by omega)) fun v1 _=>?_
  split
  ·rw[if_pos (by omega)]
   refine Sq.bind _ (hr 1 (by omega)) fun v2 h2=>sq_some.2 h2
  ·rw[if_pos (by omega)]
   refine Sq.bind _ (hr 2 (by omega)) fun v2 h2=>sq_some.2 h2
 ·simp only[Tr.den]
  rw[if_neg (by simpa using h21)]
  refine sq_bind.2 (sq_cnt (fun s:List GValue×Int=>s.2) e.Args.length (by omega) (fun s=>(s.1.length:Int)=s.2∧∀ v,v∈s.1→Sm v) (fun s k hI hk hkN=>?_) ⟨rfl,fun v hv=>by cases hv⟩ rfl)
  obtain⟨b6,v5⟩:=s
  obtain⟨hbl,hbs⟩:=hI
  simp only at hk hbl hbs
  subst hk
  unfold T362_L0
  simp only[Tr.den,Int.toNat_natCast]
  by_cases hc:k<e.Args.length
  ·rw[if_pos (decT (by omega)),if_pos (by omega)]
   refine Sq.bind _ (hr k hc) fun v hv=>?_
   rw[if_pos (by simp only[List.length_singleton]; omega)]
   refine sq_some.2 ⟨rfl,hc,?_,fun u hu=>?_⟩
   ·simp only[List.length_append,List.length_singleton]; rw[wrap_inc (by omega)]; omega
   ·rcases List.mem_append.1 hu with h | h
    ·exact hbs u h
    ·cases List.mem_singleton.1 h; exact hv
  ·rw[if_neg (decF (by omega))]
   refine sq_some.2 ?_
   have hbe:b6.length=e.Args.length:=by omega
   show Sq b _ Sm
   simp only[sel]
   have z0:(0:Int).toNat=0:=rfl
   have z1:(1:Int).toNat=1:=rfl
   have hop:e.Op=0∨e.Op=1∨e.Op=2∨e.Op=3∨e.Op=4∨e.Op=5∨e.Op=6∨e.Op=7∨e.Op=20∨e.Op=22∨(8≤e.Op∧e.Op≤19):=by omega
   rcases hop with h | h | h | h | h | h | h | h | h | h | h
   ·rw[if_pos (by rw[h]; rfl),G378_eq]; exact sq_some.2 (sm_vI _)
   ·simp (decide:=true) only[h,↓reduceIte]
    exact sq_some.2 (by show e.S.size≤_; omega)
   ·simp (decide:=true) only[h,↓reduceIte,G379_eq]
    exact sq_some.2 (sm_vB _)
   ·have:=c3 h
    have hn:=hf.nc
    simp (decide:=true) only[h,↓reduceIte]
    rw[if_pos (by omega)]
    exact sq_some.2 (sm_getD hf.row (by omega))
   ·have:=c4 h
    have hn:=hf.np
    simp (decide:=true) only[h,↓reduceIte]
    rw[if_pos (by omega)]
    exact sq_some.2 (sm_getD hf.params (by omega))
   ·simp (decide:=true) only[h,↓reduceIte,G378_eq]
    exact sq_some.2 (sm_vI _)
   ·have:=c1 (by omega)
    simp (decide:=true) only[h,↓reduceIte,G379_eq]
    rw[if_pos ⟨trivial,by omega⟩,if_pos (by show 0<b6.length; omega)]
    exact sq_some.2 (sm_vB _)
   ·have:=c1 (by omega)
    simp (decide:=true) only[h,↓reduceIte,G378_eq]
    rw[if_pos ⟨trivial,by omega⟩,if_pos (by show 0<b6.length; omega)]
    exact sq_some.2 (sm_vI _)
   ·have:=c1 (by omega)
    simp (decide:=true) only[h,↓reduceIte,G378_eq]
    rw[if_pos ⟨trivial,by omega⟩,if_pos (by show 0<b6.length; omega)]
    exact sq_some.2 (sm_vI _)
   ·have hc2:=c22 h
    simp (decide:=true) only[h,↓reduceIte]
    rw[if_pos (by rw[hfun]; omega)]
    rw[hfun]
    refine Sq.bind _ (hrec k' (_,_) hc2.2.2 ⟨fs,0,e.Args.length,⟨rfl,rfl,hbe,fun v hv=>(by cases hv),hbs⟩,hb h⟩) fun v hv=>sq_some.2 hv
   ·have h2:=c2 h
    have p0:Sm (b6.getD 0 default):=sm_getD hbs (by omega)
    have p1:Sm (b6.getD 1 default):=sm_getD hbs (by omega)
    have d0:(0:Int)≤0∧(0:Int)<(b6.length:Int):=⟨by omega,by omega⟩
    have d1:(0:Int)≤1∧(1:Int)<(b6.length:Int):=⟨by omega,by omega⟩
    have d2:0<b6.length:=by omega
    have d3:1<b6.length:=by omega
    have hop:e.Op=8∨e.Op=9∨e.Op=10∨e.Op=11∨e.Op=12∨e.Op=13∨e.Op=14∨e.Op=15∨e.Op=16∨e.Op=17∨e.Op=18∨e.Op=19:=by omega
    rcases hop with h | h | h | h | h | h | h | h | h | h | h | h
    ·simp (decide:=true) only[h,↓reduceIte]
     change Sq b (((some 225:Option Nat).bind _).bind _) Sm
     simp only[Option.bind_some,Tr.den,z0,z1]
     rw[if_pos ⟨trivial,by omega⟩,if_pos d2,if_pos ⟨trivial,by omega⟩,if_pos d3,G380_eq]
     exact sq_some.2 (sm_bop 8 (b6.getD 0 default) (b6.getD 1 default))
    ·simp (decide:=true) only[h,↓reduceIte]
     change Sq b (((some 226:Option Nat).bind _).bind _) Sm
     simp only[Option.bind_some,Tr.den,z0,z1]
     rw[if_pos ⟨trivial,by omega⟩,if_pos d2,if_pos ⟨trivial,by omega⟩,if_pos d3,G381_eq]
     exact sq_some.2 (sm_bop 9 (b6.getD 0 default) (b6.getD 1 default))
    ·simp (decide:=true) only[h,↓reduceIte]
     change Sq b (((some 227:Option Nat).bind _).bind _) Sm
     simp only[Option.bind_some,Tr.den,z0,z1]
     rw[if_pos ⟨trivial,by omega⟩,if_pos d2,if_pos ⟨trivial,by omega⟩,if_pos d3,G382_eq]
     exact sq_some.2 (sm_bop 10 (b6.getD 0 default) (b6.getD 1 default))
    ·simp (decide:=true) only[h,↓reduceIte]
     change Sq b (((some 228:Option Nat).bind _).bind _) Sm
     simp only[Option.bind_some,Tr.den,z0,z1]
     rw[if_pos ⟨trivial,by omega⟩,if_pos d2,if_pos ⟨trivial,by omega⟩,if_pos d3,G383_eq]
     exact sq_some.2 (sm_bop 11 (b6.getD 0 default) (b6.getD 1 default))
    ·simp (decide:=true) only[h,↓reduceIte]
     change Sq b (((some 229:Option Nat).bind _).bind _) Sm
     simp only[Option.bind_some,Tr.den,z0,z1]
     rw[if_pos ⟨trivial,by omega⟩,if_pos d2,if_pos ⟨trivial,by omega⟩,if_pos d3,G384_eq]
     exact sq_some.2 (sm_bop 12 (b6.getD 0 default) (b6.getD 1 default))
    ·simp (decide:=true) only[h,↓reduceIte]
     change Sq b (((some 230:Option Nat).bind _).bind _) Sm
     simp only[Option.bind_some,Tr.den,z0,z1]
     rw[if_pos ⟨trivial,by omega⟩,if_pos d2,if_pos ⟨trivial,by omega⟩,if_pos d3,G385_eq]
     exact sq_some.2 (sm_bop 13 (b6.getD 0 default) (b6.getD 1 default))
    ·simp (decide:=true) only[h,↓reduceIte]
     change Sq b (((some 231:Option Nat).bind _).bind _) Sm
     simp only[Option.bind_some,Tr.den,z0,z1]
     rw[if_pos ⟨trivial,by omega⟩,if_pos d2,if_pos ⟨trivial,by omega⟩,if_pos d3,G386_eq]
     exact sq_some.2 (sm_bop 14 (b6.getD 0 default) (b6.getD 1 default))
    ·simp (decide:=true) only[h,↓reduceIte]
     change Sq b (((some 232:Option Nat).bind _).bind _) Sm
     simp only[Option.bind_some,Tr.den,z0,z1]
     rw[if_pos ⟨trivial,by omega⟩,if_pos d2,if_pos ⟨trivial,by omega⟩,if_pos d3,G387_eq]
     exact sq_some.2 (sm_bop 15 (b6.getD 0 default) (b6.getD 1 default))
    ·simp (decide:=true) only[h,↓reduceIte]
     change Sq b (((some 233:Option Nat).bind _).bind _) Sm
     simp only[Option.bind_some,Tr.den,z0,z1]
     rw[if_pos ⟨trivial,by omega⟩,if_pos d2,if_pos ⟨trivial,by omega⟩,if_pos d3,G388_eq]
     exact sq_some.2 (sm_bop 16 (b6.getD 0 default) (b6.getD 1 default))
    ·simp (decide:=true) only[h,↓reduceIte]
     change Sq b (((some 234:Option Nat).bind _).bind _) Sm
     simp only[Option.bind_some,Tr.den,z0,z1]
     rw[if_pos ⟨trivial,by omega⟩,if_pos d2,if_pos ⟨trivial,by omega⟩,if_pos d3,G389_eq]
     exact sq_some.2 (sm_bop 17 (b6.getD 0 default) (b6.getD 1 default))
    ·simp (decide:=true) only[h,↓reduceIte]
     change Sq b (((some 235:Option Nat).bind _).bind _) Sm
     simp only[Option.bind_some,Tr.den,z0,z1]
     rw[if_pos ⟨trivial,by omega⟩,if_pos d2,if_pos ⟨trivial,by omega⟩,if_pos d3,G390_eq]
     exact sq_some.2 (sm_bop 18 (b6.getD 0 default) (b6.getD 1 default))
    ·simp (decide:=true) only[h,↓reduceIte]
     change Sq b (((some 236:Option Nat).bind _).bind _) Sm
     simp only[Option.bind_some,Tr.den,z0,z1]
     rw[if_pos ⟨trivial,by omega⟩,if_pos d2,if_pos ⟨trivial,by omega⟩,if_pos d3,G391_eq _ (by have q0:=p0; have q1:=p1; unfold Sm at q0 q1; show (b6.getD 0 default).S.size+(b6.getD 1 default).S.size≤_; omega)]
     exact sq_some.2 (sm_bop 19 (b6.getD 0 default) (b6.getD 1 default))
inductive OkI (ar:Nat→Nat)(n:Nat):Nat→Nat→Expr→Prop
 | mk {nc np:Nat} {e:Expr} (hs:e.S.size≤1048576) (hl:e.Args.length≤1048576) (ho:0≤e.Op∧e.Op≤22)
   (hA:∀ i,i<e.Args.length→OkI ar n nc np (e.Args.getD i default))
   (c3:e.Op=3→0≤e.N∧e.N<nc) (c4:e.Op=4→0≤e.N∧e.N<np) (c1:e.Op=6∨e.Op=7∨e.Op=20→1≤e.Args.length) (c2:8≤e.Op∧e.Op≤19→2≤e.Args.length)
   (c21:e.Op=21→3≤e.Args.length) (c22:e.Op=22→0≤e.N∧e.N<n∧e.Args.length=ar e.N.toNat):OkI ar n nc np e
theorem bound_fun(f:Nat→Nat):∀ n,∃ H,∀ i,i<n→f i<H
 | 0=>⟨0,fun i hi=>absurd hi (Nat.not_lt_zero i)⟩
 | n+1=>by
  obtain⟨H,hH⟩:=bound_fun f n
  refine⟨H+f n+1,fun i hi=>?_⟩
  rcases Nat.lt_or_ge i n with h | h
  ·have:=hH i h; omega
  ·have:i=n:=by omega
   subst this; omega
theorem okI_okE{fs:List GFunc}(hB:∀ i,i<fs.length→OkI (fun k=>(fs.getD k default).Params.length) i 0 (fs.getD i default).Params.length (fs.getD i default).Body):
  ∀ j,j≤fs.length→∀ nc np e,OkI (fun k=>(fs.getD k default).Params.length) j nc np e→∃ h,OkE fs nc np h e:=by
 intro j
 induction j using Nat.strongRecOn with
 | _ j ih=>
  intro hj nc np e he
  induction he with
  | @mk e hs hl ho hA c3 c4 c1 c2 c21 c22 ihA=>
   have hc:∀ i,∃ h,i<e.Args.length→OkE fs nc np h (e.Args.getD i default):=fun i=>by
    by_cases hi:i<e.Args.length
    ·obtain⟨h,hh⟩:=ihA i hi
     exact⟨h,fun _=>hh⟩
    ·exact⟨0,fun h=>absurd h hi⟩
   let hm:Nat→Nat:=fun i=>if i<e.Args.length then (hc i).choose else 0
   have hmA:∀ i,i<e.Args.length→OkE fs nc np (hm i) (e.Args.getD i default):=fun i hi=>by
    show OkE fs nc np (if i<e.Args.length then (hc i).choose else 0) _
    rw[if_pos hi]
    exact(hc i).choose_spec hi
   obtain⟨H,hH⟩:=bound_fun hm e.Args.length
   obtain⟨k,hk⟩:∃ k,e.Op=22→OkE fs 0 e.Args.length k (fs.getD e.N.toNat default).Body:=by
    by_cases h22:e.Op=22
    ·obtain⟨g1,g2,g3⟩:=c22 h22
     obtain⟨k,hk⟩:=ih e.N.toNat (by omega) (by omega) 0 _ _ (hB e.N.toNat (by omega))
     exact⟨k,fun _=>by rw[g3]; exact hk⟩
    ·exact⟨0,fun h=>absurd h h22⟩
   refine⟨H+k+1,.mk k hm hs hl ho (fun i=>?_) hmA c3 c4 c1 c2 c21 (fun h=>?_) hk⟩
   ·by_cases hi:i<e.Args.length
    ·have:=hH i hi; omega
    ·show (if i<e.Args.length then (hc i).choose else 0)<_
     rw[if_neg hi]; omega
   ·obtain⟨g1,g2,g3⟩:=c22 h
    exact⟨g1,by omega,by omega⟩
theorem G151_eq(n:Int):G151 n=some (decide (0≤n∧n<3)):=by
 by_cases h:0≤n
 ·simp[G151,T151,Tr.den,h]
 ·simp[G151,T151,Tr.den,h]
def numE(op:Int):Int:=
 if 0≤op∧op≤5 then 0 else if op=6∨op=7∨op=20 then 1 else if op=21 then 3 else if op=22 then -1 else if 5<op∧op<21 then 2 else -1
theorem G201_eq(op:Int):G201 op=some (numE op):=by
 have hs:op=0∨op=1∨op=2∨op=3∨op=4∨op=5∨op=6∨op=7∨op=20∨op=21∨op=22∨(op<0∨(8≤op∧op≤19)∨22<op):=by omega
 rcases hs with h | h | h | h | h | h | h | h | h | h | h | h
 iterate 11 (subst h; rfl)
 have n0:(op==0)=false:=by simp; omega
 have n1:(op==1)=false:=by simp; omega
 have n2:(op==2)=false:=by simp; omega
 have n3:(op==3)=false:=by simp; omega
 have n4:(op==4)=false:=by simp; omega
 have n5:(op==5)=false:=by simp; omega
 have n6:(op==6)=false:=by simp; omega
 have n7:(op==7)=false:=by simp; omega
 have n20:(op==20)=false:=by simp; omega
 have n21:(op==21)=false:=by simp; omega
 have n22:(op==22)=false:=by simp; omega
 have q1:¬ (0≤op∧op≤5):=by omega
 have q2:¬ (op=6∨op=7∨op=20):=by omega
 have q3:¬ op=21:=by omega
 have q4:¬ op=22:=by omega
 unfold G201 T201 numE
 rw[if_neg q1,if_neg q2,if_neg q3,if_neg q4]
 simp only[Tr.den,n0,n1,n2,n3,n4,n5,n6,n7,n20,n21,n22,Option.bind_some,Bool.false_eq_true,if_false]
 by_cases h1:op>5
 ·have h1':5<op:=h1
  by_cases h2:op<21
  ·rw[if_pos (decT h1),if_pos ⟨h1',h2⟩,decide_eq_true h2]; rfl
  ·rw[if_pos (decT h1),if_neg (fun h=>h2 h.2),decide_eq_false h2]; rfl
 ·have:¬ (5<op∧op<21):=by omega
  rw[if_neg (decF h1),if_neg this]; rfl
theorem G202_sp(l:List Int)(n:Int):Sp (G202 l n) (fun r=>r.2=true→0≤n∧n<l.length):=by
 unfold G202 T202
 simp only[Tr.den]
 by_cases h1:n<0
 ·rw[if_pos (decT h1)]
  exact sq_some.2 (fun h=>by cases h)
 ·rw[if_neg (decF h1)]
  by_cases h2:n≥(l.length:Int)
  ·simp only[Option.bind_some,decide_eq_true h2,if_true]
   exact sq_some.2 (fun h=>by cases h)
  ·simp only[Option.bind_some,decide_eq_false h2,Bool.false_eq_true,if_false]
   rw[if_pos (by omega),if_pos (by omega),G151_eq]
   exact sq_some.2 (fun _=>by omega)
theorem G200_sp(fs:List GFunc)(n:Int)(l:List Int)(hl:l.length≤1048576):Sp (G200 fs n l) (fun r=>r.2=true→0≤n∧n<fs.length∧l.length=(fs.getD n.toNat default).Params.length):=by
 unfold G200 T200
 simp only[Tr.den]
 by_cases h1:n<0
 ·rw[if_pos (decT h1)]
  exact sq_some.2 (fun h=>by cases h)
 ·rw[if_neg (decF h1)]
  by_cases h2:n≥(fs.length:Int)
  ·simp only[Option.bind_some,decide_eq_true h2,if_true]
   exact sq_some.2 (fun h=>by cases h)
  ·simp only[Option.bind_some,decide_eq_false h2,Bool.false_eq_true,if_false]
   rw[if_pos (by omega)]
   by_cases h3:((fs.getD n.toNat default).Params.length:Int)=(l.length:Int)
   ·rw[if_neg (by simpa using h3)]
    refine sq_bind.2 (sq_cnt (fun s:Int=>s) l.length (by omega) (fun _=>True) (fun s k _ hk hkN=>?_) trivial rfl)
    subst hk
    unfold T200_L0
    simp only[Tr.den,Int.toNat_natCast]
    by_cases hc:k<l.length
    ·rw[if_pos (decT (by omega)),if_pos (by omega),if_pos (by omega)]
     split
     ·exact sq_some.2 (sq_some.2 (fun h=>by cases h))
     ·exact sq_some.2 ⟨rfl,hc,trivial⟩
    ·rw[if_neg (decF (by omega))]
     exact sq_some.2 (sq_some.2 (fun _=>by omega))
   ·rw[if_pos (by simpa using h3)]
    exact sq_some.2 (fun h=>by cases h)
theorem Sq.of{α:Type}{b:Bool}{x:Option α}{Q:α→Prop}(h:Sp x Q):Sq b x Q:=⟨h.1,fun _=>h.2 rfl⟩
inductive BndE:Expr→Prop
 | mk {e:Expr} (hs:e.S.size≤1048576) (hl:e.Args.length≤1048576) (hA:∀ i,i<e.Args.length→BndE (e.Args.getD i default)):BndE e
theorem sizeOf_argE{e x:Expr}(h:x∈e.Args):SizeOf.sizeOf x<SizeOf.sizeOf e:=by
 cases e with
 | mk a b s l=>
  have:=List.sizeOf_lt_of_mem h
  simp only[Expr.Args]at this
  simp only[Expr.mk.sizeOf_spec]
  omega
abbrev arF (fs:List GFunc)(k:Nat):Nat:=(fs.getD k default).Params.length
set_option maxHeartbeats 1000000 in
theorem G185_sp(fs:List GFunc)(cs ps:List Int)(e:Expr)(he:BndE e):Sp (G185 fs cs ps e) (fun r=>r.2=true→OkI (arF fs) fs.length cs.length ps.length e):=by
 refine fixF_sq (C:=fun (a:(List GFunc)×(List Int)×(List Int)×Expr) (x:Option (Int×Bool))=>Con Proofs.Tryz.prog 212 [.t (eL cGFunc (a.1)),.t (eL cInt (a.2.1)),.t (eL cInt (a.2.2.1)),.t (eExpr a.2.2.2)] x (fun (y:Int×Bool)=>.tup [.t (.int .i64 (y.1)),.t (.bool (y.2))])) (fun a=>⟨callable_of Proofs.Tryz.func212 (by kernel_rfl),fun _ h=>nomatch h⟩) (fun rec a=>T185 rec a.1 a.2.1 a.2.2.1 a.2.2.2) (fun rec a=>T185_ok rec a.1 a.2.1 a.2.2.1 a.2.2.2)
  (fun a=>BndE a.2.2.2) (fun a=>SizeOf.sizeOf a.2.2.2) (fun a r=>r.2=true→OkI (arF a.1) a.1.length a.2.1.length a.2.2.1.length a.2.2.2) (fun b r a ha hrec=>?_) true (fs,cs,ps,e) he
 clear he fs cs ps e
 obtain⟨fs,cs,ps,e⟩:=a
 simp only at ha hrec ⊢
 cases ha with
 | mk hs hl hA=>
 have hr:∀ i,i<e.Args.length→Sq b (r.1 (fs,cs,ps,e.Args.getD i default)) (fun r=>r.2=true→OkI (arF fs) fs.length cs.length ps.length (e.Args.getD i default)):=fun i hi=>hrec _ (hA i hi) (sizeOf_argE (getD_mem hi))
 unfold T185
 simp only[Tr.den]
 refine sq_bind.2 (sq_cnt (fun s:List Int×Int=>s.2) e.Args.length (by omega) (fun s=>(s.1.length:Int)=s.2∧∀ i:Nat,(i:Int)<s.2→OkI (arF fs) fs.length cs.length ps.length (e.Args.getD i default)) (fun s k hI hk hkN=>?_) ⟨rfl,fun i hi=>absurd hi (by show ¬ ((i:Int)<0); omega)⟩ rfl)
 obtain⟨b3,v2⟩:=s
 obtain⟨hbl,hbs⟩:=hI
 simp only at hk hbl hbs
 subst hk
 unfold T185_L0
 simp only[Tr.den,Int.toNat_natCast]
 by_cases hc:k<e.Args.length
 ·rw[if_pos (decT (by omega)),if_pos (by omega)]
  refine Sq.bind _ (hr k hc) fun v hv=>?_
  by_cases hv2:v.2=true
  ·rw[if_neg (by rw[hv2]; decide),if_pos (by simp only[List.length_singleton]; omega)]
   refine sq_some.2 ⟨rfl,hc,?_,fun i hi=>?_⟩
   ·simp only[List.length_append,List.length_singleton]; rw[wrap_inc (by omega)]; omega
   ·simp only at hi
    rw[wrap_inc (by omega)]at hi
    rcases Nat.lt_or_ge i k with h | h
    ·exact hbs i (by omega)
    ·have:i=k:=by omega
     subst this; exact hv hv2
  ·rw[if_pos (by simp only[Bool.not_eq_true]at hv2; rw[hv2]; rfl)]
   exact sq_some.2 (sq_some.2 (fun h=>by cases h))
 ·rw[if_neg (decF (by omega))]
  refine sq_some.2 ?_
  have hbe:b3.length=e.Args.length:=by omega
  have hA':∀ i,i<e.Args.length→OkI (arF fs) fs.length cs.length ps.length (e.Args.getD i default):=fun i hi=>hbs i (by omega)
  simp only[sel]
  refine Sq.bind (fun s:List Int×Bool=>s.1=b3) (by split <;> exact sq_some.2 rfl) (fun s hsb=>?_)
  obtain⟨j5,j6⟩:=s
  simp only at hsb
  subst hsb
  cases j6 with
  | true=>exact sq_some.2 (fun h=>by cases h)
  | false=>
   simp only[Bool.false_eq_true,if_false]
   by_cases h22:e.Op=22
   ·rw[if_pos (by rw[h22]; rfl)]
    refine Sq.bind _ (Sq.of (G200_sp fs e.N j5 (by omega))) fun r hr=>sq_some.2 (fun h=>?_)
    have h3:=hr h
    exact .mk hs hl (by omega) hA' (fun h=>by omega) (fun h=>by omega) (fun h=>by omega) (fun h=>by omega) (fun h=>by omega) (fun _=>⟨h3.1,h3.2.1,by rw[←hbe]; exact h3.2.2⟩)
   ·rw[if_neg (by simpa using h22),G201_eq]
    simp only[Option.bind_some]
    by_cases hN:numE e.Op=(j5.length:Int)
    ·rw[if_neg (by simpa using hN)]
     have hh:(0≤e.Op∧e.Op≤21)∧(e.Op=6∨e.Op=7∨e.Op=20→1≤j5.length)∧(8≤e.Op∧e.Op≤19→2≤j5.length)∧(e.Op=21→3≤j5.length):=by
      unfold numE at hN
      repeat' split at hN
      all_goals omega
     obtain⟨ho,c1,c2,c21⟩:=hh
     have fin:(e.Op=3→0≤e.N∧e.N<cs.length)→(e.Op=4→0≤e.N∧e.N<ps.length)→OkI (arF fs) fs.length cs.length ps.length e:=fun c3 c4=>
      .mk hs hl (by omega) hA' c3 c4 (fun h=>by have:=c1 h; omega) (fun h=>by have:=c2 h; omega) (fun h=>by have:=c21 h; omega) (fun h=>absurd h h22)
     clear hN
     by_cases h3:e.Op=3
     ·simp (decide:=true) only[h3,↓reduceIte]
      refine Sq.bind _ (Sq.of (G202_sp cs e.N)) fun r hr=>sq_some.2 (fun h=>fin (fun _=>hr h) (fun h=>by omega))
     by_cases h4:e.Op=4
     ·simp (decide:=true) only[h4,↓reduceIte]
      refine Sq.bind _ (Sq.of (G202_sp ps e.N)) fun r hr=>sq_some.2 (fun h=>fin (fun h=>by omega) (fun _=>hr h))
     have fin':=fin (fun h=>absurd h h3) (fun h=>absurd h h4)
     by_cases hu:e.Op=0∨e.Op=1∨e.Op=2∨e.Op=5
     ·rcases hu with h | h | h | h
      all_goals simp (decide:=true) only[h,↓reduceIte]
      all_goals repeat' (first | exact sq_some.2 (fun _=>fin') | split)
     by_cases hu1:e.Op=6∨e.Op=7∨e.Op=20
     ·have g0:(0:Int)<(j5.length:Int):=by have:=c1 hu1; omega
      have g0':Int.toNat 0<j5.length:=by show 0<j5.length; omega
      rcases hu1 with h | h | h
      all_goals simp (decide:=true) only[h,g0,g0',and_self,↓reduceIte]
      all_goals repeat' (first | exact sq_some.2 (fun _=>fin') | split)
     have l2:2≤j5.length:=by
      by_cases h:e.Op=21
      ·have:=c21 h; omega
      ·exact c2 (by omega)
     have g0:(0:Int)<(j5.length:Int):=by omega
     have g0':Int.toNat 0<j5.length:=by show 0<j5.length; omega
     have g1:(1:Int)<(j5.length:Int):=by omega
     have g1':Int.toNat 1<j5.length:=by show 1<j5.length; omega
     have hop:e.Op=8∨e.Op=9∨e.Op=10∨e.Op=11∨e.Op=12∨e.Op=13∨e.Op=14∨e.Op=15∨e.Op=16∨e.Op=17∨e.Op=18∨e.Op=19∨e.Op=21:=by omega
     rcases hop with h | h | h | h | h | h | h | h | h | h | h | h | h
     iterate 12
      ·simp (decide:=true) only[h,g0,g0',g1,g1',and_self,↓reduceIte,Option.bind_some]
       repeat' (first | exact sq_some.2 (fun _=>fin') | split)
     have l3:=c21 h
     have g2:(2:Int)<(j5.length:Int):=by omega
     have g2':Int.toNat 2<j5.length:=by show 2<j5.length; omega
     simp (decide:=true) only[h,g0,g0',g1,g1',g2,g2',and_self,↓reduceIte,Option.bind_some]
     repeat' (first | exact sq_some.2 (fun _=>fin') | split)
    ·rw[if_pos (by simpa using hN)]
     exact sq_some.2 (fun h=>by cases h)
theorem G80_spE(e:Expr)(h:BndE e):Sp (G80 e) (fun _=>True):=by
 refine fixF_sq (C:=fun (a:Expr) (x:Option (Int))=>Con Proofs.Tryz.prog 130 [.t (eExpr a)] x (fun (y:Int)=>.t (.int .i64 (y)))) (fun a=>⟨callable_of Proofs.Tryz.func130 (by kernel_rfl),fun _ h=>nomatch h⟩) (fun rec a=>T80 rec a) (fun rec a=>T80_ok rec a)
  BndE (fun e=>SizeOf.sizeOf e) (fun _ _=>True) (fun b f e he hrec=>?_) true e h
 cases he with
 | mk hs hl hA=>
 unfold T80
 simp only[Tr.den,sq_bind]
 refine sq_cnt (fun s:Int×Int=>s.2) e.Args.length (by omega) (fun _=>True) (fun s k _ hk hkN=>?_) trivial rfl
 obtain⟨v1,v2⟩:=s
 simp only at hk
 subst hk
 unfold T80_L0
 simp only[Tr.den,Int.toNat_natCast]
 by_cases hc:k<e.Args.length
 ·rw[if_pos (decT (by omega)),if_pos (by omega)]
  refine Sq.bind _ (hrec _ (hA k hc) (sizeOf_argE (getD_mem hc))) fun r _=>sq_some.2 ⟨rfl,hc,trivial⟩
 ·rw[if_neg (decF (by omega))]
  exact sq_some.2 (sq_some.2 trivial)
theorem G152_spE(fs:List GFunc)(cs ps:List Int)(e:Expr)(he:BndE e):Sp (G152 fs cs ps e) (fun r=>r.2=true→OkI (arF fs) fs.length cs.length ps.length e):=by
 unfold G152 T152
 simp only[Tr.den]
 refine Sq.bind _ (G80_spE e he) fun r _=>?_
 split
 ·exact sq_some.2 (fun h=>by cases h)
 ·refine Sq.bind _ (G185_sp fs cs ps e he) fun r2 h2=>?_
  split
  ·exact sq_some.2 (fun h=>by cases h)
  ·rename_i h3
   exact sq_some.2 (fun _=>h2 (by simpa using h3))
theorem G82_sp(fs:List GFunc)(hl:fs.length≤1048576)(hb:∀ i,i<fs.length→BndE (fs.getD i default).Body∧(fs.getD i default).Params.length≤1048576):
  Sp (G82 fs) (fun ok=>ok=true→fs.length≤20∧∀ i,i<fs.length→OkI (arF (fs.take i)) (fs.take i).length 0 (fs.getD i default).Params.length (fs.getD i default).Body):=by
 unfold G82 T82
 simp only[Tr.den]
 refine sq_bind.2 (sq_cnt (fun s:Int=>s) fs.length (by omega) (fun s=>∀ i:Nat,(i:Int)<s→OkI (arF (fs.take i)) (fs.take i).length 0 (fs.getD i default).Params.length (fs.getD i default).Body) (fun s k hI hk hkN=>?_) (fun i hi=>absurd hi (by show ¬ ((i:Int)<0); omega)) rfl)
 subst hk
 unfold T82_L0
 simp only[Tr.den,Int.toNat_natCast]
 by_cases hc:k<fs.length
 ·rw[if_pos (decT (by omega))]
  by_cases h20:(k:Int)≤20
  ·simp only[Option.bind_some,decide_eq_true h20,if_true]
   rw[if_pos (by omega)]
   have hp:=(hb k hc).2
   refine sq_bind.2 (sq_cnt (fun s:Int=>s) (fs.getD k default).Params.length (by omega) (fun _=>True) (fun s m _ hm hmN=>?_) trivial rfl)
   subst hm
   unfold T82_L1
   simp only[Tr.den,Int.toNat_natCast]
   by_cases hm:m<(fs.getD k default).Params.length
   ·rw[if_pos (decT (by omega)),if_pos (by omega),G151_eq]
    simp only[Option.bind_some]
    split
    ·exact sq_some.2 (sq_some.2 (sq_some.2 (fun h=>by cases h)))
    ·exact sq_some.2 ⟨rfl,hm,trivial⟩
   ·rw[if_neg (decF (by omega))]
    refine sq_some.2 ?_
    simp only[sel]
    rw[if_pos ⟨by omega,by omega,by omega⟩]
    have e1:(fs.drop (Int.toNat 0)).take ((k:Int)-0).toNat=fs.take k:=by
     rw[show ((k:Int)-0).toNat=k by omega]; rfl
    rw[e1,if_pos ⟨by omega,by omega,by omega⟩]
    refine Sq.bind _ (Sq.of (G152_spE (fs.take k) [] (fs.getD k default).Params (fs.getD k default).Body (hb k hc).1)) fun r5 h5=>?_
    by_cases ho:r5.2=true
    ·rw[if_neg (by rw[ho]; decide)]
     refine Sq.bind (fun _=>True) (by split <;> exact sq_some.2 trivial) fun j6 _=>?_
     cases j6 with
     | true=>exact sq_some.2 (sq_some.2 (fun h=>by cases h))
     | false=>
      refine sq_some.2 ⟨rfl,hc,fun i hi=>?_⟩
      rw[wrap_inc (by omega)]at hi
      rcases Nat.lt_or_ge i k with h | h
      ·exact hI i (by omega)
      ·have:i=k:=by omega
       subst this; exact h5 ho
    ·rw[if_pos (by simp only[Bool.not_eq_true]at ho; rw[ho]; rfl)]
     exact sq_some.2 (sq_some.2 (fun h=>by cases h))
  ·simp only[Option.bind_some,decide_eq_false h20,Bool.false_eq_true,if_false]
   refine sq_some.2 (sq_some.2 (fun h=>?_))
   have:=of_decide_eq_true h
   omega
 ·rw[if_neg (decF (by omega))]
  simp only[Option.bind_some,Bool.false_eq_true,if_false]
  refine sq_some.2 (sq_some.2 (fun h=>⟨by have:=of_decide_eq_true h; omega,fun i hi=>hI i (by omega)⟩))
theorem OkI.congr{ar ar':Nat→Nat}{n:Nat}(h:∀ k,k<n→ar k=ar' k){nc np:Nat}{e:Expr}(he:OkI ar n nc np e):OkI ar' n nc np e:=by
 induction he with
 | @mk e hs hl ho hA c3 c4 c1 c2 c21 c22 ih=>
  exact .mk hs hl ho ih c3 c4 c1 c2 c21 (fun h22=>by
   obtain⟨g1,g2,g3⟩:=c22 h22
   exact⟨g1,g2,by rw[g3]; exact h _ (by omega)⟩)
theorem arF_take{fs:List GFunc}{i k:Nat}(h:k<i):arF (fs.take i) k=arF fs k:=by
 unfold arF
 rw[List.getD_eq_getElem?_getD,List.getD_eq_getElem?_getD,List.getElem?_take,if_pos h]
theorem right_okE{fs:List GFunc}(hl:fs.length≤1048576)(hb:∀ i,i<fs.length→BndE (fs.getD i default).Body∧(fs.getD i default).Params.length≤1048576)(h:G82 fs=some true)
  {cs ps:List Int}{e:Expr}(he:BndE e){t:Int}(ht:G152 fs cs ps e=some (t,true)):∃ h,OkE fs cs.length ps.length h e:=by
 have h1:=(G82_sp fs hl hb).1 _ h rfl
 refine okI_okE (fun i hi=>?_) fs.length (Nat.le_refl _) _ _ e ((G152_spE fs cs ps e he).1 _ ht rfl)
 have h2:=h1.2 i hi
 rw[List.length_take,Nat.min_eq_left (by omega)]at h2
 exact h2.congr (fun k hk=>arF_take hk)
end Go.PL
