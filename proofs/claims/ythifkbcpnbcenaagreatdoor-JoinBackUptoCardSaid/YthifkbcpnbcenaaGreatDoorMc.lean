/-
  Parts: Rules for maps: looking up, and what is found there under a name of its own. Own work. Rules for maps: writing and deleting entries. Own work. Rules for maps: writing, deleting, filling a gap. Own work. Rules for maps: making one, its length, loops over one. Own work. Rules for maps: the rounds of a loop over one. Own work. Rules for maps: rounds of a loop, by what the entries are; maps of data. Own work. Maps of rows become maps of data; an entry of a map of data, beside the map. Own work. A walker over code: runs of operations and control, by computation over abstract states. Own work. From functions of fuel to functions without fuel. Own work. Functions as trees: what they compute, and the walk through code that shows it. Own work. Functions as trees: the trees, what they compute, and the check against code. Own work. Functions as trees: the check of a tree against code. Own work. Functions as trees: what the check shows. Own work. Rows of ours: cut short, cleared from a place on. Own work.
-/
import Derived.Test.YthifkbcpnbcenaaGreatDoorMb
import Derived.Laws.Cover3
namespace Go.PL
open Go
def noIt(d:Nat):Option Iter→Bool
 | none=>true
 | some i=>match Nat.beq i.o d with | true=>false | false=>true
theorem noIt_ok{d:Nat}{it:Option Iter}(h:noIt d it=true):∀ k,k∈itN it→k≠d:=by
 cases it with
 | none=>simp[itN]
 | some i=>
  simp only[noIt]at h
  split at h
  ·cases h
  ·rename_i hk
   intro k hk'
   simp only[itN,List.mem_singleton]at hk'
   subst hk'
   exact Nat.ne_of_beq_eq_false hk
section
variable {F:Nat→Prop} {g g':Nat→Value} {w:World} {b clock ob d:Nat} {es:Array MapEntry} {it:Option Iter}
theorem ItR.agree{it:Option Iter}(h:ItR g w b es clock it)(hg:∀ k,k∈itN it→g' k=g k):ItR g' w b es clock it:=by
 cases it with
 | none=>exact True.intro
 | some i=>
  obtain⟨r,since,seen,c0,e1,e⟩:=h
  exact⟨r,since,seen,c0,by rw[hg i.o (by simp[itN])]; exact e1,e⟩
theorem MpR.uniq{m:List (T×Mem)}{ho:Option (T×Option PV)}{l r:List MapEntry}(h:MpR F g w b es clock it m ho l r){x:T×Mem}(hx:x∈m){e e':MapEntry}(he:e∈es.toList)(he':e'∈es.toList)
  (hk:KeyR x.1 e.key)(hk':KeyR x.1 e'.key):e=e':=by
 obtain⟨_,i,h1,h2⟩:=h.entry hx he hk
 obtain⟨_,j,h3,h4⟩:=h.entry hx he' hk'
 have hn:=(List.nodup_append.1 h.keys).1
 have:i=j:=by
  have e1:(m.map (·.1))[i]? = some x.1:=by simp[h1]
  have e2:(m.map (·.1))[j]? = some x.1:=by simp[h3]
  exact(List.getElem?_inj (by simpa using (List.getElem?_eq_some_iff.1 h1).1) hn).1 (e1.trans e2.symm)
 subst this
 rw[h2]at h4
 injection h4
theorem Foot.perm{m m':List (T×Mem)}{ho:Option (T×Option PV)}(hp:m.Perm m'){x:Nat}(h:Foot g w ob (.mp it m ho) x):Foot g w ob (.mp it m' ho) x:=by
 cases h with
 | self h=>exact .self h
 | iter h=>exact .iter h
 | mem h1 h2 h3 h4 h5 h6 h7=>exact .mem h1 h2 h3 (hp.mem_iff.1 h4) h5 h6 h7
theorem Foot.cons{m:List (T×Mem)}{ho ho':Option (T×Option PV)}{y:T×Mem}{x:Nat}(h:Foot g w ob (.mp it m ho) x):Foot g w ob (.mp it (y::m) ho') x:=by
 cases h with
 | self h=>exact .self h
 | iter h=>exact .iter h
 | mem h1 h2 h3 h4 h5 h6 h7=>exact .mem h1 h2 h3 (List.mem_cons_of_mem _ h4) h5 h6 h7
theorem Foot.agree{x:PObj}(ho:g' ob=g ob)(hg:∀ k,k∈itN it→g' k=g k){m:List (T×Mem)}{hl:Option (T×Option PV)}{c:Nat}(hx:x = .mp it m hl)(h:Foot g' w ob x c):Foot g w ob x c:=by
 subst hx
 cases h with
 | self h=>exact .self (ho▸h)
 | iter h=>exact .iter (by rw[←hg _ (by simp[itN])]; exact h)
 | mem h1 h2 h3 h4 h5 h6 h7=>exact .mem (by rw[←ho]; exact h1) h2 h3 h4 h5 h6 h7
theorem MpR.give{m:List (T×Mem)}{kk:T}{y:Mem}{l r:List MapEntry}(h:MpR F g w b es clock it ((kk,y)::m) none l r)(hob:g ob = .map (some b))(hb:w.heap[b]? = some (.map es clock))(hy:y.owned=true)
  (hdo:d≠ob)(hit:noIt d it=true){e:MapEntry}(he:e∈es.toList)(hk:KeyR kk e.key){p:Option PV}(hp:∀ g',g' d=e.val→∀ q,p=some q→VR F g' w q e.val):
  MemR F w y e.val∧∀ g',(∀ k,k≠d→g' k=g k)→g' d=e.val→ObjR F g' w ob (.mp it m (some (kk,p)))∧(∀ c,Foot g' w ob (.mp it m (some (kk,p))) c→Foot g w ob (.mp it ((kk,y)::m) none) c) ∧
   (∀ Y c,PObj.plain Y=true→Foot g' w d Y c→Foot g w ob (.mp it ((kk,y)::m) none) c)∧∀ Y c,PObj.plain Y=true→Foot g' w ob (.mp it m (some (kk,p))) c→Foot g' w d Y c→False:=by
 have hent:=h.entry (x:=(kk,y)) (by simp) he hk
 refine⟨hent.1.2,fun g' hg hd=>?_⟩
 have hno:=noIt_ok hit
 have hga:∀ k,k∈itN it→g' k=g k:=fun k hk=>hg k (hno k hk)
 have hob':g' ob=g ob:=hg ob (fun e=>hdo e.symm)
 obtain⟨e1,l',hl,hk1,hm1,he1,hM⟩:=h.focus (g':=g') (p:=p) (fun q hq v hv ⟨e2,h1,h2,h3⟩=>by
  have:e2=e:=h.uniq (x:=(kk,y)) (by simp) h1 he h3 hk
  subst this
  rw[←h2]
  exact hp g' hd q hq) (h.it.agree hga)
 have foot:∀ c,Foot g' w ob (.mp it m (some (kk,p))) c→Foot g w ob (.mp it ((kk,y)::m) none) c:=fun c hc=>(Foot.agree hob' hga rfl hc).cons
 refine⟨⟨b,es,clock,by rw[hob']; exact hob,hb,l',[e1],hM⟩,foot,fun Y c hY hc=>?_,fun Y c hY hc hc'=>?_⟩
 ·have:=hc.toBlk hY
  rw[hd]at this
  exact .mem hob hb he (x:=(kk,y)) (by simp) hk hy this
 ·have hv:=hc'.toBlk hY
  rw[hd]at hv
  obtain⟨vs,ty,hcell⟩:=hent.1.2.block hy hv
  cases Foot.agree hob' hga rfl hc with
  | self h'=>
   rw[hob]at h'; simp[blk]at h'; subst h'
   rw[hb]at hcell; cases hcell
  | iter h'=>
   obtain⟨r',since,seen,c0,e3,e4,_⟩:=h.it
   rw[e3]at h'; simp[blk]at h'; subst h'
   rw[e4]at hcell; cases hcell
  | @mem _ _ _ _ bm cl es' e2 x h1 h2 h3 h4 h5 h6 h7=>
   rw[hob]at h1; injection h1 with h1; injection h1 with h1; subst h1
   rw[hb]at h2; injection h2 with h2; injection h2 with h2 h2'; subst h2
   obtain⟨_,j,hj1,hj2⟩:=h.entry (x:=x) (List.mem_cons_of_mem _ h4) h3 h5
   obtain⟨_,i,hi1,hi2⟩:=hent
   have hij:i≠j:=by
    intro e'; subst e'
    rw[hi1]at hj1
    injection hj1 with hj1
    have hn:=(List.nodup_append.1 h.keys).1
    simp only[List.map_cons,List.nodup_cons]at hn
    exact hn.1 (by rw[show kk=x.1 by rw[←hj1]]; exact List.mem_map_of_mem h4)
   exact h.sep i j _ _ _ _ c hi1 hj1 hi2 hj2 hij hy h6 hv h7
theorem BoxV.ts{u:Value}{l:List T}(h:BoxV F g w u (l.map .t))(g':Nat→Value):BoxV F g' w u (l.map .t):=
 h.mono (fun b hb=>⟨hb,rfl⟩) (fun o ho=>by rw[names_go_t]at ho; simp at ho) (fun _ _=>rfl)
end
section
variable {P:Program} {E:Env} {I:Inf} {F:Nat→Prop} {g:Nat→Value} {st:St} {a:Act} {w:World} {K V:Type} [MKey K]
theorem VR.key{k:T}{v:Value}(h:VR F g w (.t k) v){kd:TypeDesc}(hd:keyD k=some kd):KeyR k v:=by
 have h:=h.cells_t rfl
 cases k with
 | int q n=>rw[h.inv_int]; exact .int ..
 | str s=>rw[h.inv_str]; exact .str ..
 | _=>cases hd
theorem gfocus_ne{N:List Nat}{o d:Nat}{x' y:PObj}{st2:St}(h:gfocus N o d x' y st=some st2):d≠o:=by
 unfold gfocus at h
 split at h
 ·rename_i h1 h2 h3; exact Nat.ne_of_beq_eq_false h2
 ·cases h
theorem MpR.found{b clock:Nat}{es:Array MapEntry}{it:Option Iter}{enc:V→Mem}{v:List (K×V)}{l r:List MapEntry}(h:MpR F g w b es clock it (eM enc v) none l r)(k:K):
  (mlook v k=none→∀ e,e∈es.toList→¬ KeyR (MKey.kT k) e.key)∧(∀ c,mlook v k=some c→(eM enc v).Perm ((MKey.kT k,enc c)::eM enc (mdel v k))∧∃ e,e∈es.toList∧KeyR (MKey.kT k) e.key):=by
 have hnd:(mkeys v).Nodup:=eM_nodup (enc:=enc) (List.nodup_append.1 h.keys).1
 have hr:=h.hole
 simp only[HoleR]at hr
 subst hr
 refine⟨fun hn e he hk=>?_,fun c hc=>?_⟩
 ·have:=h.perm.mem_iff.2 he
  rw[List.append_nil]at this
  obtain⟨j,y,hy,_,hR⟩:=h.ent.memr this
  have hy:=List.mem_of_getElem? hy
  simp only[eM,List.mem_map]at hy
  obtain⟨p,hp,rfl⟩:=hy
  have:p.1=k:=MKey.inj _ _ (hR.1.inj hk)
  exact mlook_none hn (this▸List.mem_map_of_mem hp)
 ·have hp:=eM_perm (enc:=enc) (mlook_some hnd hc)
  refine⟨hp,?_⟩
  obtain⟨j,e,h1,h2,h3⟩:=h.ent.mem (hp.mem_iff.2 (List.mem_cons_self ..))
  exact⟨e,h.perm.mem_iff.1 (List.mem_append_left _ (List.mem_of_getElem? h2)),h3.1⟩
theorem pops_lookbox(hG:Good P E I){ops l:List Oper}{o:Oper}{rest:List Oper}{Q:Post}{t d ob et:Nat}{x kx:Operand}{it:Option Iter}{eB:V→List T}(v:List (K×V))(k:K)
  (hl:l=o::rest)(hop:o.op = .lookup t x kx false)(hd:o.dst=some d)(hw:wantedP ops o st=some true)(hnt:Nat.blt d I.nt=true)(hx:ev st x=some (.map ob))(hk:ev st kx=some (.t (MKey.kT k)))
  (hob:look st.hp ob=some (.mp it (eM (fun c=>.box (eB c)) v) none))(hm:mapIn I.ti t (MKey.kT k)=some et)(hz:ZeroIs P et (.pointer none))(hit:noIt d it=true){st2:V→St}
  (hs:∀ c,gfocus I.N ob d (.mp it (eM (fun c=>.box (eB c)) (mdel v k)) (some (MKey.kT k,some (.ptr d 0)))) (.box ((eB c).map .t)) st=some (st2 c))
  (h0:mlook v k=none→pops P E ops Q rest (st.put d .np))(h1:∀ c,mlook v k=some c→pops P E ops Q rest ((st2 c).put d (.ptr d 0))):pops P E ops Q l st:=by
 refine pops_step hl hw fun F g a w r=>?_
 have hd':d<E.nt:=by rw[hG.nt]; simpa[Nat.blt_eq] using hnt
 obtain⟨kt,kd,hT⟩:=mapIn_ok hG.ti hm
 obtain⟨info,hi,hz⟩:=hz
 obtain⟨b,es,clock,e1,e2,l1,r1,hM⟩:=r.w.hp.obj _ _ (look_mem hob)
 have hxv:=ev_ok r hx
 have hkv:=(ev_ok r hk).key hT.d
 obtain⟨u,hu⟩:∃ u,a.eval x=u:=⟨_,rfl⟩
 obtain⟨kv,hkv'⟩:∃ u,a.eval kx=u:=⟨_,rfl⟩
 rw[hu]at hxv; rw[hkv']at hkv
 cases hxv with
 | map hg=>
  rw[e1]at hg; injection hg with hg; injection hg with hg; subst hg
  have hrun:=run_lookup (P:=P) hT hkv e2 (hM.kinds (by simp) k) hi hz
  have hf:=hM.found k
  have hex:∀ v',(Instr.lookup t (.map (some b)) kv false).run P w = .ok v' w→(execOp a.eval o).run P w = .ok (.value v') w:=by
   intro v' hv'
   unfold execOp
   simp[hop,hu,hkv',hv']
  cases hlk:mlook v k with
  | none=>
   rcases hrun with⟨h2,_⟩ | ⟨e,he,hke,_⟩
   ·exact⟨_,_,w,_,hex _ h2,.inl rfl,by rw[hd]; exact⟨F,g,r.put hd' .np⟩,h0 hlk⟩
   ·exact absurd hke (hf.1 hlk e he)
  | some c=>
   obtain⟨hp,e0,he0,hk0⟩:=hf.2 c hlk
   rcases hrun with⟨_,h2⟩ | ⟨e,he,hke,h2⟩
   ·exact absurd hk0 (h2 e0 he0)
   ·obtain⟨l2,hM2⟩:=hM.permM hp
    have hdo:=gfocus_ne (hs c)
    have hmem:=(hM2.entry (x:=(MKey.kT k,Mem.box (eB c))) (by simp) he hke).1.2
    obtain⟨bb,vs,ty,e3,e4⟩:=id hmem
    have hgive:=hM2.give (d:=d) (ob:=ob) (p:=some (.ptr d 0)) e1 e2 rfl hdo hit he hke (fun g' hg' q hq=>by cases hq; rw[e3]; exact .ptr (by rw[hg',e3]))
    obtain⟨_,g',hgd,hga,r'⟩:=r.focus hG.N (x:=.mp it (eM (fun c=>.box (eB c)) v) none) e.val hob (hs c) (fun g' hg hgd=>(hgive.2 g' hg hgd).1)
     (fun g' hg hgd=>by simp only[ObjR]; rw[hgd]; exact BoxV.ts hmem g')
     (fun g' c' hg hgd hc=>((hgive.2 g' hg hgd).2.1 c' hc).perm hp.symm)
     (fun g' c' hg hgd hc=>((hgive.2 g' hg hgd).2.2.1 _ c' rfl hc).perm hp.symm)
     (fun g' c' hg hgd hc hc'=>(hgive.2 g' hg hgd).2.2.2 _ c' rfl hc hc')
    exact⟨_,_,w,_,hex _ h2,.inl rfl,by rw[hd]; exact⟨F,g',r'.put hd' (by rw[e3]; exact .ptr (by rw[hgd,e3]))⟩,h1 c hlk⟩
theorem pops_lookrow(hG:Good P E I){ops l:List Oper}{o:Oper}{rest:List Oper}{Q:Post}{t d ob et:Nat}{x kx:Operand}{it:Option Iter}{e s:Nat}{nn:V→Nat}{ff:V→Nat→List T}(v:List (K×V))(k:K)(dflt:V)
  (hl:l=o::rest)(hop:o.op = .lookup t x kx false)(hd:o.dst=some d)(hw:wantedP ops o st=some true)(hnt:Nat.blt d I.nt=true)(hx:ev st x=some (.map ob))(hk:ev st kx=some (.t (MKey.kT k)))
  (hob:look st.hp ob=some (.mp it (eM (fun c=>.row e s (nn c) (ff c)) v) none))(hm:mapIn I.ti t (MKey.kT k)=some et)(hz:ZeroIs P et (.slice none 0 0))(hit:noIt d it=true)(hdf:nn dflt=0){st2:St}
  (hs:gfocus I.N ob d (.mp it (eM (fun c=>.row e s (nn c) (ff c)) (mdel v k)) (some (MKey.kT k,none))) (.arr e s (nn ((mlook v k).getD dflt)) (ff ((mlook v k).getD dflt))) st=some st2)
  (h1:pops P E ops Q rest (st2.put d (.own d))):pops P E ops Q l st:=by
 refine pops_step hl hw fun F g a w r=>?_
 have hd':d<E.nt:=by rw[hG.nt]; simpa[Nat.blt_eq] using hnt
 obtain⟨kt,kd,hT⟩:=mapIn_ok hG.ti hm
 obtain⟨info,hi,hz⟩:=hz
 obtain⟨b,es,clock,e1,e2,l1,r1,hM⟩:=r.w.hp.obj _ _ (look_mem hob)
 have hxv:=ev_ok r hx
 have hkv:=(ev_ok r hk).key hT.d
 obtain⟨u,hu⟩:∃ u,a.eval x=u:=⟨_,rfl⟩
 obtain⟨kv,hkv'⟩:∃ u,a.eval kx=u:=⟨_,rfl⟩
 rw[hu]at hxv; rw[hkv']at hkv
 have hdo:=gfocus_ne hs
 have hno:=noIt_ok hit
 cases hxv with
 | map hg=>
  rw[e1]at hg; injection hg with hg; injection hg with hg; subst hg
  have hrun:=run_lookup (P:=P) hT hkv e2 (hM.kinds (by simp) k) hi hz
  have hf:=hM.found k
  have hex:∀ v',(Instr.lookup t (.map (some b)) kv false).run P w = .ok v' w→(execOp a.eval o).run P w = .ok (.value v') w:=by
   intro v' hv'
   unfold execOp
   simp[hop,hu,hkv',hv']
  cases hlk:mlook v k with
  | none=>
   rw[hlk]at hs
   simp only[Option.getD_none]at hs
   rcases hrun with⟨h2,hnk⟩ | ⟨e,he,hke,_⟩
   ·have hmd:mdel v k=v:=mdel_of_not (mlook_none hlk)
    have hag:∀ g':Nat→Value,(∀ q,q≠d→g' q=g q)→∀ q,q∈itN it→g' q=g q:=fun g' hg q hq=>hg q (hno q hq)
    have hfx:∀ (g':Nat→Value) c',(∀ q,q≠d→g' q=g q)→Foot g' w ob (.mp it (eM (fun c=>.row e s (nn c) (ff c)) (mdel v k)) (some (MKey.kT k,none))) c'→Foot g w ob (.mp it (eM (fun c=>.row e s (nn c) (ff c)) v) none) c':=by
     intro g' c' hg hc
     rw[hmd]at hc
     cases Foot.agree (hg ob (fun e=>hdo e.symm)) (hag g' hg) rfl hc with
     | self h=>exact .self h
     | iter h=>exact .iter h
     | mem a1 a2 a3 a4 a5 a6 a7=>exact .mem a1 a2 a3 a4 a5 a6 a7
    have hobj:∀ g':Nat→Value,(∀ q,q≠d→g' q=g q)→ObjR F g' w ob (.mp it (eM (fun c=>.row e s (nn c) (ff c)) (mdel v k)) (some (MKey.kT k,none))):=by
     intro g' hg
     refine⟨b,es,clock,by rw[hg ob (fun e=>hdo e.symm)]; exact e1,e2,l1,r1,?_⟩
     rw[hmd]
     have hr1:=hM.hole
     simp only[HoleR]at hr1
     subst hr1
     refine⟨hM.perm,hM.ent,.inl rfl,?_,hM.born,hM.old,hM.sep,hM.it.agree (hag g' hg)⟩
     have hkk:=hM.keys
     simp only[hoK,List.append_nil]at hkk ⊢
     rw[List.nodup_append]
     refine⟨hkk,by simp,fun q hq q' hq'=>?_⟩
     simp only[List.mem_singleton]at hq'
     subst hq'
     intro e'
     rw[eM_keys,e',kTs_mem]at hq
     exact mlook_none hlk hq
    obtain⟨_,g',hgd,hga,r'⟩:=r.focus hG.N (.slice none 0 0) hob hs (fun g' hg hgd=>hobj g' hg)
     (fun g' hg hgd=>by simp only[ObjR]; rw[hgd]; exact .inl ⟨rfl,hdf⟩)
     (fun g' c' hg hgd hc=>hfx g' c' hg hc)
     (fun g' c' hg hgd hc=>by have:=hc.toBlk rfl; rw[hgd]at this; simp[blk]at this)
     (fun g' c' hg hgd hc hc'=>by have:=hc'.toBlk rfl; rw[hgd]at this; simp[blk]at this)
    exact⟨_,_,w,_,hex _ h2,.inl rfl,by rw[hd]; exact⟨F,g',r'.put hd' (.own hgd)⟩,h1⟩
   ·exact absurd hke (hf.1 hlk e he)
  | some c=>
   rw[hlk]at hs
   simp only[Option.getD_some]at hs
   obtain⟨hp,e0,he0,hk0⟩:=hf.2 c hlk
   rcases hrun with⟨_,h2⟩ | ⟨e',he,hke,h2⟩
   ·exact absurd hk0 (h2 e0 he0)
   ·obtain⟨l2,hM2⟩:=hM.permM hp
    have hmem:=(hM2.entry (x:=(MKey.kT k,Mem.row e s (nn c) (ff c))) (by simp) he hke).1.2
    have hsl:∃ ad m c',e'.val = .slice ad m c':=by
     rcases hmem with⟨h1,_⟩ | ⟨bb,cap,cur,h1,_⟩
     ·exact⟨_,_,_,h1⟩
     ·exact⟨_,_,_,h1⟩
    have hgive:=hM2.give (d:=d) (ob:=ob) (p:=none) e1 e2 rfl hdo hit he hke (fun g' hg' q hq=>by cases hq)
    obtain⟨_,g',hgd,hga,r'⟩:=r.focus hG.N e'.val hob hs (fun g' hg hgd=>(hgive.2 g' hg hgd).1)
     (fun g' hg hgd=>by simp only[ObjR]; rw[hgd]; exact hmem)
     (fun g' c' hg hgd hc=>((hgive.2 g' hg hgd).2.1 c' hc).perm hp.symm)
     (fun g' c' hg hgd hc=>((hgive.2 g' hg hgd).2.2.1 _ c' rfl hc).perm hp.symm)
     (fun g' c' hg hgd hc hc'=>(hgive.2 g' hg hgd).2.2.2 _ c' rfl hc hc')
    obtain⟨ad,mm,cc,hsl⟩:=hsl
    exact⟨_,_,w,_,hex _ h2,.inl rfl,by rw[hd]; exact⟨F,g',r'.put hd' (by rw[hsl]; exact .own (by rw[hgd,hsl]))⟩,h1⟩
end
theorem perm_set{α:Type}{l:List α}{i:Nat}{e e':α}(h:l[i]? = some e):l.Perm (e::l.eraseIdx i)∧(l.set i e').Perm (e'::l.eraseIdx i):=by
 induction l generalizing i with
 | nil=>simp at h
 | cons x l ih=>
  cases i with
  | zero=>
   simp only[List.getElem?_cons_zero,Option.some.injEq]at h
   subst h
   exact⟨.refl _,.refl _⟩
  | succ i=>
   obtain⟨h1,h2⟩:=ih (by simpa using h)
   exact⟨(h1.cons x).trans (.swap ..),by simpa using (h2.cons x).trans (.swap ..)⟩
section
variable {P:Program} {w:World}
theorem sameBits_key{k:T}{v:Value}(h:KeyR k v)(n:Nat):Instr.sameBits (n+1) v v=true:=by
 cases h with
 | int q m=>simp[Instr.sameBits]
 | str s=>simp only[Instr.sameBits]; rw[MapKept.bytes_beq]
theorem run_mapUpdate{t kt et:TypeId}{k:T}{kd:TypeDesc}(hT:MapT P t k kt et kd){kv:Value}(hk:KeyR k kv){b clock:Nat}{es:Array MapEntry}(hb:w.heap[b]? = some (.map es clock))
  (h:∀ e,e∈es.toList→∃ k',KeyR k' e.key∧sameK k k'=true)(old:∀ e,e∈es.toList→e.born<clock)(hn:(es.toList.map (·.born)).Nodup)(u:Value):
  ∃ es' clock' e',(Instr.mapUpdate t (.map (some b)) kv u).run P w = .ok () { w with heap:=w.heap.setIfInBounds b (.map es' clock') }∧e'.key=kv∧e'.val=u∧(es'.toList.map (·.born)).Nodup ∧
   (∀ e,e∈es'.toList→e.born<clock')∧(((∀ e,e∈es.toList→¬ KeyR k e.key)∧es'.toList.Perm (e'::es.toList))∨∃ e0 q,e0∈es.toList∧KeyR k e0.key∧es.toList.Perm (e0::q)∧es'.toList.Perm (e'::q)∧e'.born=e0.born∧clock'=clock):=by
 have hf:=run_findKey (w:=w) hT hk es.toList h
 rcases hf with⟨h1,h2⟩ | ⟨j,e0,h1,h2,h3⟩
 ·refine⟨es.push { key:=kv,val:=u,born:=clock },clock+1,{ key:=kv,val:=u,born:=clock },?_,rfl,rfl,?_,?_,.inl ⟨h2,?_⟩⟩
  ·unfold Instr.mapUpdate
   simp only[Sem.run_bind,run_underlying hT.und,Result.andThen_ok,Go.run_getObj_map w b es clock hb,run_checkKey hT,h1,MapKept.run_setObj_map _ hb]
  ·simp only[Array.toList_push,List.map_append,List.map_cons,List.map_nil]
   rw[List.nodup_append]
   refine⟨hn,by simp,fun x hx y hy=>?_⟩
   simp only[List.mem_singleton]at hy
   obtain⟨e,he,rfl⟩:=List.mem_map.1 hx
   have:=old e he
   omega
  ·intro e he
   simp only[Array.toList_push,List.mem_append,List.mem_singleton]at he
   rcases he with he | rfl
   ·have:=old e he; omega
   ·exact Nat.lt_succ_self _
  ·rw[Array.toList_push]
   exact List.perm_append_comm (l₁:=es.toList) (l₂:=[_])
 ·have hj:j<es.size:=by have:=(List.getElem?_eq_some_iff.1 h1).1; simpa using this
  have hj':es[j]? = some e0:=by simpa using h1
  have hkey:e0.key=kv:=h2.inj' hk
  have hmod:(es.modify j fun e=>{ e with key:=kv,val:=u }).toList=es.toList.set j { e0 with key:=kv,val:=u }:=by
   refine List.ext_getElem? fun i=>?_
   rw[List.getElem?_set]
   simp only[Array.getElem?_toList,Array.getElem?_modify]
   split
   ·rename_i hij
    subst hij
    rw[hj']
    simp[hj]
   ·rfl
  have hp:=perm_set (e':={ e0 with key:=kv,val:=u }) h1
  refine⟨es.modify j fun e=>{ e with key:=kv,val:=u },clock,{ e0 with key:=kv,val:=u },?_,rfl,rfl,?_,?_,.inr ⟨e0,_,List.mem_of_getElem? h1,h2,hp.1,by rw[hmod]; exact hp.2,rfl,rfl⟩⟩
  ·have hstay:(Instr.keyThatStays ((es[j]?.map (·.key)).getD kv) kv).run P w = .ok kv w:=by
    rw[hj',Option.map_some,Option.getD_some,hkey]
    unfold Instr.keyThatStays
    rw[show (10000:Nat)=9999+1 from rfl,if_pos (sameBits_key hk 9999)]
    simp
   unfold Instr.mapUpdate
   simp only[Sem.run_bind,run_underlying hT.und,Result.andThen_ok,Go.run_getObj_map w b es clock hb,run_checkKey hT,h3,hstay,MapKept.run_setObj_map _ hb]
  ·rw[hmod]
   have:(es.toList.set j { e0 with key:=kv,val:=u }).map (·.born)=es.toList.map (·.born):=by
    refine List.ext_getElem? fun i=>?_
    rw[List.getElem?_map,List.getElem?_set,List.getElem?_map]
    split
    ·rename_i hij; subst hij; rw[h1]; simp[hj]
    ·rfl
   rw[this]; exact hn
  ·intro e he
   rw[hmod]at he
   rcases List.mem_or_eq_of_mem_set he with he | rfl
   ·exact old e he
   ·exact old e0 (List.mem_of_getElem? h1)
theorem run_mapDelete{t kt et:TypeId}{k:T}{kd:TypeDesc}(hT:MapT P t k kt et kd){kv:Value}(hk:KeyR k kv){b clock:Nat}{es:Array MapEntry}(hb:w.heap[b]? = some (.map es clock))
  (h:∀ e,e∈es.toList→∃ k',KeyR k' e.key∧sameK k k'=true)(ats:Array TypeId)(ha:ats[0]? = some t)(ty:TypeId):
  ∃ es',(Builtin.delete_ ats ty #[.map (some b),kv]).run P w = .ok (.tuple #[]) { w with heap:=w.heap.setIfInBounds b (.map es' clock) } ∧
   (((∀ e,e∈es.toList→¬ KeyR k e.key)∧es'=es)∨∃ e0,e0∈es.toList∧KeyR k e0.key∧es.toList.Perm (e0::es'.toList)):=by
 have hf:=run_findKey (w:=w) hT hk es.toList h
 rcases hf with⟨h1,h2⟩ | ⟨j,e0,h1,h2,h3⟩
 ·refine⟨es,?_,.inl ⟨h2,rfl⟩⟩
  unfold Builtin.delete_
  simp[ha,run_underlying hT.und,Go.run_getObj_map w b es clock hb,run_checkKey hT,h1,MapKept.run_setObj_map _ hb]
 ·have hj:j<es.size:=by have:=(List.getElem?_eq_some_iff.1 h1).1; simpa using this
  refine⟨es.eraseIdxIfInBounds j,?_,.inr ⟨e0,List.mem_of_getElem? h1,h2,?_⟩⟩
  ·unfold Builtin.delete_
   simp[ha,run_underlying hT.und,Go.run_getObj_map w b es clock hb,run_checkKey hT,h3,MapKept.run_setObj_map _ hb]
  ·have:=(perm_set (e':=e0) h1).1
   simp only[Array.eraseIdxIfInBounds,hj,dif_pos,Array.toList_eraseIdx]
   exact this
end
section
variable {F:Nat→Prop} {g:Nat→Value} {w:World} {b clock:Nat} {es es':Array MapEntry}
theorem MpR.rest{it:Option Iter}{m:List (T×Mem)}{k:T}{p:Option PV}{l r:List MapEntry}(h:MpR F g w b es clock it m (some (k,p)) l r):
  ((∀ e,e∈es.toList→¬ KeyR k e.key)→r=[])∧(∀ e0 q,e0∈es.toList→KeyR k e0.key→es.toList.Perm (e0::q)→r=[e0]∧l.Perm q):=by
 have hk:=h.keys
 rw[List.nodup_append]at hk
 have hnot:∀ e,e∈l→¬ KeyR k e.key:=by
  intro e he hke
  obtain⟨j,y,hy,_,hR⟩:=h.ent.memr he
  exact hk.2.2 _ (List.mem_map_of_mem (List.mem_of_getElem? hy)) k (by simp[hoK]) (hR.1.inj hke)
 have hr:r=[]∨∃ e,r=[e]∧KeyR k e.key:=by
  have hh:=h.hole
  cases p with
  | none=>exact hh
  | some p=>obtain⟨e,h1,h2,_⟩:=hh; exact .inr ⟨e,h1,h2⟩
 refine⟨fun hn=>?_,fun e0 q he0 hk0 hq=>?_⟩
 ·rcases hr with rfl | ⟨e,rfl,he⟩
  ·rfl
  ·exact absurd he (hn e (h.perm.mem_iff.1 (by simp)))
 ·have he0':=h.perm.mem_iff.2 he0
  rcases hr with rfl | ⟨e,rfl,he⟩
  ·rw[List.append_nil]at he0'; exact absurd hk0 (hnot e0 he0')
  ·rcases List.mem_append.1 he0' with h1 | h1
   ·exact absurd hk0 (hnot e0 h1)
   ·simp only[List.mem_singleton]at h1
    subst h1
    refine⟨rfl,?_⟩
    have h2:=h.perm.trans hq
    have h3:(l++[e0]).Perm (e0::l):=List.perm_append_comm (l₁:=l) (l₂:=[e0])
    exact List.Perm.cons_inv (h3.symm.trans h2)
end
def clrIt:Option Iter→Option Iter
 | none=>none
 | some i=>some ⟨i.o,i.rem,none⟩
def curIs(it:Option Iter)(k:T):Prop:=∀ i,it=some i→i.cur=some k
def gfill(o q:Nat)(x':PObj)(st:St):Option St:=
 match Nat.beq q o,st.erase q with
 | false,some st1=>some { fr:=st1.fr,hp:=(o,x')::del o st1.hp }
 | _,_=>none
section
variable {P:Program} {E:Env} {I:Inf} {F:Nat→Prop} {g:Nat→Value} {st st2:St} {a:Act} {w:World}
theorem RelG.merge(r:RelG E F g st a w){o q:Nat}{x x' y:PObj}(hl:look st.hp o=some x)(hq:look st.hp q=some y)(hs:gfill o q x' st=some st2)
  (hx':ObjR F g w o x')(hf:∀ b,Foot g w o x' b→Foot g w o x b∨Foot g w q y b):RelG E F g st2 a w:=by
 unfold gfill at hs
 split at hs
 ·rename_i st1 hqo he
  cases hs
  have hqo:=Nat.ne_of_beq_eq_false hqo
  have hlm:=look_mem hl
  have hqm:=look_mem hq
  have old:∀ k z,(k,z)∈del o st1.hp→k≠o∧k≠q∧∃ z',(k,z')∈st.hp∧ObjR F g w k z∧∀ b,Foot g w k z b→Foot g w k z' b:=by
   intro k z hz
   obtain⟨h1,h2⟩:=mem_del.1 hz
   obtain⟨z',h3,h4,h5,h6,h7⟩:=St.erase_hp he k z h1
   exact⟨h2,h4,z',h3,h6 _ _ _ (r.w.hp.obj k z' h3),h7 _ _⟩
  refine⟨r.nt,r.df,fun t z hz=>r.fr t z (St.erase_fr he t z hz).1,⟨⟨fun k z hz=>?_,fun k z b hz hb=>?_,fun k z k' z' b hz hz' hne hb hb'=>?_⟩,r.w.f0,r.w.f1,r.w.ext,r.w.names,r.w.b0⟩⟩
  ·rcases List.mem_cons.1 hz with e | hz
   ·cases e; exact hx'
   ·exact(old k z hz).2.2.choose_spec.2.1
  ·rcases List.mem_cons.1 hz with e | hz
   ·cases e
    rcases hf b hb with h | h
    ·exact r.w.hp.own _ _ b hlm h
    ·exact r.w.hp.own _ _ b hqm h
   ·obtain⟨_,_,z',h1,_,h3⟩:=old k z hz
    exact r.w.hp.own k z' b h1 (h3 b hb)
  ·have key:∀ k z,(k,z)∈del o st1.hp→Foot g w k z b→Foot g w o x' b→False:=by
    intro k z hz hb hb'
    obtain⟨h1,h2,z',h3,_,h4⟩:=old k z hz
    rcases hf b hb' with h | h
    ·exact r.w.hp.sep k z' o x b h3 hlm h1 (h4 b hb) h
    ·exact r.w.hp.sep k z' q y b h3 hqm h2 (h4 b hb) h
   rcases List.mem_cons.1 hz with e | hz
   ·cases e
    rcases List.mem_cons.1 hz' with e' | hz'
    ·cases e'; exact hne rfl
    ·exact key k' z' hz' hb' hb
   ·rcases List.mem_cons.1 hz' with e' | hz'
    ·cases e'; exact key k z hz hb hb'
    ·obtain⟨_,_,u,h1,_,h3⟩:=old k z hz
     obtain⟨_,_,u',h1',_,h3'⟩:=old k' z' hz'
     exact r.w.hp.sep k u k' u' b h1 h1' hne (h3 b hb) (h3' b hb')
 ·cases hs
end
section
variable {F:Nat→Prop} {g:Nat→Value} {w:World} {b clock ob:Nat} {es:Array MapEntry} {it:Option Iter} {K V:Type} [MKey K]
theorem MpR.fill{m:List (T×Mem)}{kk:T}{p:PV}{l r:List MapEntry}(h:MpR F g w b es clock it m (some (kk,some p)) l r)(hb:w.heap[b]? = some (.map es clock)){y:Mem}(hy:∀ e,e∈es.toList→VR F g w p e.val→MemR F w y e.val)
  (hsep:∀ e c,e∈es.toList→VR F g w p e.val→blk e.val=some c→¬ Foot g w ob (.mp it m (some (kk,some p))) c)(hob:g ob = .map (some b)):∃ l',MpR F g w b es clock it ((kk,y)::m) none l' []:=by
 obtain⟨e,hr,hk,hv⟩:=h.hole
 subst hr
 have he:e∈es.toList:=h.perm.mem_iff.1 (by simp)
 refine⟨e::l,?_,.cons ⟨hk,hy e he hv⟩ h.ent,rfl,?_,h.born,h.old,?_,h.it⟩
 ·rw[List.append_nil]
  exact(List.perm_append_comm (l₁:=[e]) (l₂:=l)).trans h.perm
 ·have:=h.keys
  simp only[hoK,List.map_cons,List.append_nil]at this ⊢
  exact(List.Perm.nodup_iff (List.perm_append_comm (l₁:=[kk]) (l₂:=m.map (·.1)))).2 this
 ·have hnew:∀ (j:Nat) x e' c,m[j]? = some x→l[j]? = some e'→x.2.owned=true→blk e.val=some c→blk e'.val=some c→False:=by
   intro j x e' c hx he' ho h1 h2
   have hR:=h.ent.get.2 j x e' hx he'
   exact hsep e c he hv h1 (.mem hob hb (h.perm.mem_iff.1 (List.mem_append_left _ (List.mem_of_getElem? he'))) (List.mem_of_getElem? hx) hR.1 ho h2)
  intro i j x y' e1 e2 c hx hy' h1 h2 hne ho ho' hc hc'
  cases i with
  | zero=>
   simp at hx h1
   subst hx; subst h1
   cases j with
   | zero=>exact hne rfl
   | succ j=>exact hnew j y' e2 c (by simpa using hy') (by simpa using h2) ho' hc hc'
  | succ i=>
   cases j with
   | zero=>
    simp at hy' h2
    subst hy'; subst h2
    exact hnew i x e1 c (by simpa using hx) (by simpa using h1) ho hc' hc
   | succ j=>exact h.sep i j x y' e1 e2 c (by simpa using hx) (by simpa using hy') (by simpa using h1) (by simpa using h2) (by omega) ho ho' hc hc'
theorem MpR.fill_foot{m:List (T×Mem)}{kk:T}{p:PV}{l r:List MapEntry}(h:MpR F g w b es clock it m (some (kk,some p)) l r)(hob:g ob = .map (some b))(hb:w.heap[b]? = some (.map es clock)){y:Mem}{c:Nat}
  (hc:Foot g w ob (.mp it ((kk,y)::m) none) c):Foot g w ob (.mp it m (some (kk,some p))) c∨∃ e,e∈es.toList∧VR F g w p e.val∧blk e.val=some c:=by
 cases hc with
 | self h=>exact .inl (.self h)
 | iter h=>exact .inl (.iter h)
 | @mem _ _ _ _ bm cl es' e x h1 h2 h3 h4 h5 h6 h7=>
  rcases List.mem_cons.1 h4 with rfl | h4
  ·right
   rw[hob]at h1; injection h1 with h1; injection h1 with h1; subst h1
   rw[hb]at h2; injection h2 with h2; injection h2 with h2 h2'; subst h2
   obtain⟨e1,hr,hk,hv⟩:=h.hole
   have:=h.perm.mem_iff.2 h3
   rcases List.mem_append.1 this with hl | hl
   ·exfalso
    obtain⟨j,y',hy',_,hR⟩:=h.ent.memr hl
    have hk':=h.keys
    rw[List.nodup_append]at hk'
    exact hk'.2.2 _ (List.mem_map_of_mem (List.mem_of_getElem? hy')) kk (by simp[hoK]) (hR.1.inj h5)
   ·rw[hr]at hl
    simp only[List.mem_singleton]at hl
    subst hl
    exact⟨e,h3,hv,h7⟩
  ·exact .inl (.mem h1 h2 h3 h4 h5 h6 h7)
end
section
variable {P:Program} {E:Env} {I:Inf} {F:Nat→Prop} {g:Nat→Value} {st st2:St} {a:Act} {w:World} {K V:Type} [MKey K]
theorem eM_put{enc:V→Mem}(v:List (K×V))(k:K)(c:V):((MKey.kT k,enc c)::eM enc (mdel v k)).Perm (eM enc (mput v k c)):=(eM_perm (enc:=enc) (mput_perm v k c)).symm
theorem Le.fillbox{o q:Nat}{it:Option Iter}{eB:V→List T}(v:List (K×V))(k:K)(c:V)
  (hl:look st.hp o=some (.mp it (eM (fun c=>.box (eB c)) (mdel v k)) (some (MKey.kT k,some (.ptr q 0)))))(hq:look st.hp q=some (.box ((eB c).map .t)))
  (hs:gfill o q (.mp it (eM (fun c=>.box (eB c)) (mput v k c)) none) st=some st2):Le E st st2:=by
 rintro a w ⟨F,g,r⟩
 obtain⟨b,es,clock,e1,e2,l1,r1,hM⟩:=r.w.hp.obj _ _ (look_mem hl)
 obtain⟨bb,vs,ty,f1,f2,f3⟩:=id (r.w.hp.obj _ _ (look_mem hq))
 have hbox:BoxV F g w (g q) ((eB c).map .t):=r.w.hp.obj _ _ (look_mem hq)
 have hqo:q≠o:=by
  unfold gfill at hs
  split at hs
  ·rename_i h1 h2; exact Nat.ne_of_beq_eq_false h1
  ·cases hs
 have hval:∀ e:MapEntry,VR F g w (.ptr q 0) e.val→e.val=g q:=by
  intro e hv
  generalize e.val=u at hv
  cases hv with
  | ptr h=>exact h.symm
 obtain⟨l',hM'⟩:=hM.fill (ob:=o) e2 (y:=.box (eB c)) (fun e he hv=>by rw[hval e hv]; exact hbox.ts _) (fun e c' he hv hc hf=>by
  rw[hval e hv]at hc
  exact r.w.hp.sep q _ o _ c' (look_mem hq) (look_mem hl) hqo (.self hc) hf) e1
 have hp:=eM_put (enc:=fun c=>Mem.box (eB c)) v k c
 obtain⟨l'',hM''⟩:=hM'.permM hp
 exact⟨F,g,r.merge hl hq hs ⟨b,es,clock,e1,e2,l'',[],hM''⟩ (fun c' hc=>by
  rcases hM.fill_foot e1 e2 (hc.perm hp.symm) with h | ⟨e,_,hv,hc⟩
  ·exact .inl h
  ·exact .inr (.self (by rw[←hval e hv]; exact hc)))⟩
theorem Le.fillrow{o q:Nat}{it:Option Iter}{e s:Nat}{nn:V→Nat}{ff:V→Nat→List T}(v:List (K×V))(k:K)(c:V)
  (hl:look st.hp o=some (.mp it (eM (fun c=>.row e s (nn c) (ff c)) (mdel v k)) (some (MKey.kT k,some (.own q)))))(hq:look st.hp q=some (.arr e s (nn c) (ff c)))
  (hs:gfill o q (.mp it (eM (fun c=>.row e s (nn c) (ff c)) (mput v k c)) none) st=some st2):Le E st st2:=by
 rintro a w ⟨F,g,r⟩
 obtain⟨b,es,clock,e1,e2,l1,r1,hM⟩:=r.w.hp.obj _ _ (look_mem hl)
 have harr:ArrV F w (g q) e s (nn c) (ff c):=r.w.hp.obj _ _ (look_mem hq)
 have hqo:q≠o:=by
  unfold gfill at hs
  split at hs
  ·rename_i h1 h2; exact Nat.ne_of_beq_eq_false h1
  ·cases hs
 have hval:∀ e:MapEntry,VR F g w (.own q) e.val→e.val=g q:=by
  intro e hv
  generalize e.val=u at hv
  cases hv with
  | own h=>exact h.symm
 obtain⟨l',hM'⟩:=hM.fill (ob:=o) e2 (y:=.row e s (nn c) (ff c)) (fun e he hv=>by rw[hval e hv]; exact harr) (fun e c' he hv hc hf=>by
  rw[hval e hv]at hc
  exact r.w.hp.sep q _ o _ c' (look_mem hq) (look_mem hl) hqo (.self hc) hf) e1
 have hp:=eM_put (enc:=fun c=>Mem.row e s (nn c) (ff c)) v k c
 obtain⟨l'',hM''⟩:=hM'.permM hp
 exact⟨F,g,r.merge hl hq hs ⟨b,es,clock,e1,e2,l'',[],hM''⟩ (fun c' hc=>by
  rcases hM.fill_foot e1 e2 (hc.perm hp.symm) with h | ⟨e,_,hv,hc⟩
  ·exact .inl h
  ·exact .inr (.self (by rw[←hval e hv]; exact hc)))⟩
theorem Le.gap{o:Nat}{it:Option Iter}{enc:V→Mem}(v:List (K×V))(k:K)(hl:look st.hp o=some (.mp it (eM enc v) none)):
  Le E st { st with hp:=(o,.mp it (eM enc (mdel v k)) (some (MKey.kT k,none)))::del o st.hp }:=by
 refine Le.objF _ hl (fun F g w h=>?_) (fun g w c h=>?_)
 ·obtain⟨b,es,clock,e1,e2,l1,r1,hM⟩:=h
  refine⟨b,es,clock,e1,e2,?_⟩
  cases hlk:mlook v k with
  | none=>
   rw[mdel_of_not (mlook_none hlk)]
   have hr1:=hM.hole
   simp only[HoleR]at hr1
   subst hr1
   refine⟨l1,[],hM.perm,hM.ent,.inl rfl,?_,hM.born,hM.old,hM.sep,hM.it⟩
   have hkk:=hM.keys
   simp only[hoK,List.append_nil]at hkk ⊢
   rw[List.nodup_append]
   refine⟨hkk,by simp,fun q hq q' hq'=>?_⟩
   simp only[List.mem_singleton]at hq'
   subst hq'
   intro e'
   rw[eM_keys,e',kTs_mem]at hq
   exact mlook_none hlk hq
  | some c=>
   obtain⟨hp,_⟩:=(hM.found k).2 c hlk
   obtain⟨l2,hM2⟩:=hM.permM hp
   obtain⟨e,l',_,_,_,_,h⟩:=hM2.focus (g':=g) (p:=none) (fun q hq=>by cases hq) hM.it
   exact⟨_,_,h⟩
 ·cases h with
  | self h=>exact .self h
  | iter h=>exact .iter h
  | mem h1 h2 h3 h4 h5 h6 h7=>
   refine .mem h1 h2 h3 ?_ h5 h6 h7
   simp only[eM,mdel,List.mem_map,List.mem_filter]at h4 ⊢
   obtain⟨p,⟨hp,_⟩,rfl⟩:=h4
   exact⟨p,hp,rfl⟩
theorem upd_it{w w':World}{F:Nat→Prop}{g:Nat→Value}{b clock clock':Nat}{es es':Array MapEntry}{it:Option Iter}{m:List (T×Mem)}{k:T}{p:Option PV}{l r':List MapEntry}{e':MapEntry}{kv:Value}
  (hM:MpR F g w b es clock it m (some (k,p)) l r')(hset:w'.heap[b]? = some (.map es' clock')∧∀ c,c≠b→w'.heap[c]? = w.heap[c]?)(hcur:curIs it k)(hkv:KeyR k kv)(hk':e'.key=kv)
  (h7:((∀ e,e∈es.toList→¬ KeyR k e.key)∧es'.toList.Perm (e'::es.toList))∨∃ e0 q,e0∈es.toList∧KeyR k e0.key∧es.toList.Perm (e0::q)∧es'.toList.Perm (e'::q)∧e'.born=e0.born∧clock'=clock)
  (e2:w.heap[b]? = some (.map es clock)):ItR g w' b es' clock' it:=by
 cases it with
 | none=>exact True.intro
 | some i=>
  obtain⟨rr,since,seen,c0,i1,i2,i3,i4,i5,i6,i7,i8⟩:=hM.it
  have hne:rr≠b:=by intro e; subst e; rw[e2]at i2; cases i2
  obtain⟨j1,⟨e,he,hke,q',hq'⟩,hnk⟩:=i8 _ (hcur i rfl)
  rcases h7 with⟨a1,_⟩ | ⟨e0,q,a1,a2,a3,a4,a5,a6⟩
  ·exact absurd hke (a1 e he)
  ·subst a6
   have hk0:e0.key=kv:=a2.inj' hkv
   have hke0:∀ k2,KeyR k2 e'.key↔KeyR k2 e0.key:=fun k2=>by rw[hk',hk0]
   have hmem:∀ x,x∈es'.toList→x=e'∨x∈es.toList:=fun x hx=>by
    rcases List.mem_cons.1 (a4.mem_iff.1 hx) with h | h
    ·exact .inl h
    ·exact .inr (a3.mem_iff.2 (List.mem_cons_of_mem _ h))
   have hmem':∀ x,x∈es.toList→x=e0∨x∈es'.toList:=fun x hx=>by
    rcases List.mem_cons.1 (a3.mem_iff.1 hx) with h | h
    ·exact .inl h
    ·exact .inr (a4.mem_iff.2 (List.mem_cons_of_mem _ h))
   have hin:e'∈es'.toList:=a4.mem_iff.2 List.mem_cons_self
   have hee:e=e0:=by
    rcases List.mem_cons.1 (a3.mem_iff.1 he) with h | h
    ·exact h
    ·have hr1:=(hM.rest.2 e0 q a1 a2 a3).1
     obtain⟨q2,hq2⟩:=List.append_of_mem he
     obtain⟨s2,hq2⟩:=hq2
     have hp2:es.toList.Perm (e::(q2++s2)):=by rw[hq2]; exact List.perm_middle
     have hr2:=(hM.rest.2 e _ he hke hp2).1
     rw[hr1]at hr2
     exact((List.cons.inj hr2).1).symm
   subst hee
   refine⟨rr,since,seen,c0,i1,by rw[hset.2 rr hne]; exact i2,fun x hx=>?_,i4,fun x hx=>?_,fun k2 hk2=>?_,i7,fun k2 hc2=>?_⟩
   ·rcases hmem x hx with rfl | h
    ·rw[a5]; exact i3 _ a1
    ·exact i3 x h
   ·rcases hmem x hx with rfl | h
    ·rw[a5,←i5 _ a1]
     exact⟨fun⟨k2,h1,h2⟩=>⟨k2,h1,(hke0 k2).1 h2⟩,fun⟨k2,h1,h2⟩=>⟨k2,h1,(hke0 k2).2 h2⟩⟩
    ·exact i5 x h
   ·obtain⟨x,hx,hkx⟩:=i6 k2 hk2
    rcases hmem' x hx with rfl | h
    ·exact⟨e',hin,(hke0 k2).2 hkx⟩
    ·exact⟨x,h,hkx⟩
   ·obtain⟨l1,⟨x,hx,hkx,q2,hs2⟩,l3⟩:=i8 k2 hc2
    refine⟨l1,⟨e',hin,?_,q2,?_⟩,l3⟩
    ·have:k2=k:=by
      have h1:=hcur i rfl
      rw[hc2]at h1
      exact Option.some.inj h1
     subst this
     rw[hk']; exact hkv
    ·have:x.born=e.born:=by
      have h1:seen.back? = some x.born:=by rw[hs2]; simp
      have h2:seen.back? = some e.born:=by rw[hq']; simp
      rw[h1]at h2
      exact Option.some.inj h2
     rw[a5,←this]; exact hs2
theorem pops_upd(hG:Good P E I){ops l:List Oper}{o:Oper}{rest:List Oper}{Q:Post}{t ob et:Nat}{x kx vx:Operand}{it:Option Iter}{enc:V→Mem}(v:List (K×V))(k:K)(p:PV)
  (hl:l=o::rest)(hop:o.op = .mapUpdate t x kx vx∨o.op = .insert t x kx vx)(hd:o.dst=none)(hw:wantedP ops o st=some true)(hx:ev st x=some (.map ob))(hk:ev st kx=some (.t (MKey.kT k)))(hv:ev st vx=some p)
  (hob:look st.hp ob=some (.mp it (eM enc v) (some (MKey.kT k,none))))(hm:mapIn I.ti t (MKey.kT k)=some et)(hcur:curIs it (MKey.kT k))
  (h1:pops P E ops Q rest { st with hp:=(ob,.mp it (eM enc v) (some (MKey.kT k,some p)))::del ob st.hp }):pops P E ops Q l st:=by
 refine pops_step hl hw fun F g a w r=>?_
 obtain⟨kt,kd,hT⟩:=mapIn_ok hG.ti hm
 obtain⟨b,es,clock,e1,e2,l1,r1,hM⟩:=r.w.hp.obj _ _ (look_mem hob)
 have hxv:=ev_ok r hx
 have hkv:=(ev_ok r hk).key hT.d
 have hpv:=ev_ok r hv
 obtain⟨u,hu⟩:∃ u,a.eval x=u:=⟨_,rfl⟩
 obtain⟨kv,hkv'⟩:∃ u,a.eval kx=u:=⟨_,rfl⟩
 obtain⟨z,hz⟩:∃ u,a.eval vx=u:=⟨_,rfl⟩
 rw[hu]at hxv; rw[hkv']at hkv; rw[hz]at hpv
 cases hxv with
 | map hg=>
  rw[e1]at hg; injection hg with hg; injection hg with hg; subst hg
  obtain⟨es',clock',e',h2,h3,h4,h5,h6,h7⟩:=run_mapUpdate (P:=P) (w:=w) hT hkv e2 (hM.kinds (fun k' p' he=>by cases he; exact⟨k,rfl⟩) k) hM.old hM.born z
  have hset:=heap_setO (o':=.map es' clock') e2
  have hFb:¬ F b:=(r.w.hp.own _ _ b (look_mem hob) (.self (by rw[e1]; rfl))).1
  have hF:∀ c,F c→F c∧({ w with heap:=w.heap.setIfInBounds b (.map es' clock') }:World).heap[c]? = w.heap[c]?:=fun c hc=>⟨hc,hset.2 c (fun e=>hFb (e▸hc))⟩
  have hperm:(l1++[e']).Perm es'.toList:=by
   have hc:(l1++[e']).Perm (e'::l1):=List.perm_append_comm (l₁:=l1) (l₂:=[e'])
   rcases h7 with⟨a1,a2⟩ | ⟨e0,q,a1,a2,a3,a4,a5,a6⟩
   ·have:=hM.rest.1 a1
    subst this
    have hp1:=hM.perm
    rw[List.append_nil]at hp1
    exact hc.trans ((hp1.cons e').trans a2.symm)
   ·obtain⟨b1,b2⟩:=hM.rest.2 e0 q a1 a2 a3
    exact hc.trans ((b2.cons e').trans a4.symm)
  have hold:∀ e,e∈l1→e∈es.toList:=fun e he=>hM.perm.mem_iff.1 (List.mem_append_left _ he)
  have hexec:(execOp a.eval o).run P w = .ok .skip ({ w with heap:=w.heap.setIfInBounds b (.map es' clock') }):=by
   unfold execOp
   rcases hop with hop | hop <;> simp[hop,hu,hkv',hz,h2]
  have hobj:ObjR F g ({ w with heap:=w.heap.setIfInBounds b (.map es' clock') }) ob (.mp it (eM enc v) (some (MKey.kT k,some p))):=by
   refine⟨b,es',clock',e1,hset.1,l1,[e'],hperm,?_,⟨e',rfl,by rw[h3]; exact hkv,by rw[h4]; exact hpv.mono hF (fun _ _=>rfl)⟩,hM.keys,h5,h6,hM.sep,?_⟩
   rotate_left
   ·exact upd_it hM hset hcur (r':=r1) hkv h3 h7 e2
   refine hM.ent.mono fun y e hy he hR=>⟨hR.1,hR.2.mono hF fun c ho hc=>hset.2 c (fun e'=>?_)⟩
   subst e'
   obtain⟨vs,ty,hcell⟩:=hR.2.block ho hc
   rw[e2]at hcell; cases hcell
  have hft:∀ c,Foot g ({ w with heap:=w.heap.setIfInBounds b (.map es' clock') }) ob (.mp it (eM enc v) (some (MKey.kT k,some p))) c→Foot g w ob (.mp it (eM enc v) (some (MKey.kT k,none))) c:=by
   intro c hc
   cases hc with
   | self h=>exact .self h
   | iter h=>exact .iter h
   | @mem _ _ _ _ bm cl es2 e x h1 h2 h3' h4' h5' h6' h7'=>
    rw[e1]at h1; injection h1 with h1; injection h1 with h1; subst h1
    rw[hset.1]at h2; injection h2 with h2; injection h2 with h2 h2'; subst h2
    rcases List.mem_append.1 (hperm.mem_iff.2 h3') with hh | hh
    ·exact .mem e1 e2 (hold e hh) h4' h5' h6' h7'
    ·simp only[List.mem_singleton]at hh
     subst hh
     exfalso
     rw[h3]at h5'
     have hk':=hM.keys
     rw[List.nodup_append]at hk'
     exact hk'.2.2 _ (List.mem_map_of_mem h4') (MKey.kT k) (by simp[hoK]) (h5'.inj hkv)
  exact⟨_,undef,{ w with heap:=w.heap.setIfInBounds b (.map es' clock') },_,hexec,.inr ⟨rfl,rfl⟩,by rw[hd]; exact⟨F,g,r.writeF (y:=.mp it (eM enc v) (some (MKey.kT k,some p))) (look_mem hob) (.self (by rw[e1]; rfl)) hset.2 (by simp) rfl rfl rfl hobj hft⟩,h1⟩
theorem pops_delgap(hG:Good P E I){ops l:List Oper}{o:Oper}{rest:List Oper}{Q:Post}{ob et:Nat}{t:TypeId}{c:Call}{x kx:Operand}{it:Option Iter}{enc:V→Mem}{hp:Option PV}(v:List (K×V))(k:K)
  (hl:l=o::rest)(hop:o.op = .call c)(hcal:c.callee = .builtin .delete)(hargs:c.args=#[x,kx])(hat:c.argTypes[0]? = some t)(hd:o.dst=none)(hw:wantedP ops o st=some true)
  (hx:ev st x=some (.map ob))(hk:ev st kx=some (.t (MKey.kT k)))(hob:look st.hp ob=some (.mp it (eM enc v) (some (MKey.kT k,hp))))(hm:mapIn I.ti t (MKey.kT k)=some et)(hcur:curIs it (MKey.kT k))
  (h1:pops P E ops Q rest { st with hp:=(ob,.mp (clrIt it) (eM enc v) none)::del ob st.hp }):pops P E ops Q l st:=by
 refine pops_step hl hw fun F g a w r=>?_
 obtain⟨kt,kd,hT⟩:=mapIn_ok hG.ti hm
 obtain⟨b,es,clock,e1,e2,l1,r1,hM⟩:=r.w.hp.obj _ _ (look_mem hob)
 have hxv:=ev_ok r hx
 have hkv:=(ev_ok r hk).key hT.d
 obtain⟨u,hu⟩:∃ u,a.eval x=u:=⟨_,rfl⟩
 obtain⟨kv,hkv'⟩:∃ u,a.eval kx=u:=⟨_,rfl⟩
 rw[hu]at hxv; rw[hkv']at hkv
 cases hxv with
 | map hg=>
  rw[e1]at hg; injection hg with hg; injection hg with hg; subst hg
  obtain⟨es',h2,h7⟩:=run_mapDelete (P:=P) (w:=w) hT hkv e2 (hM.kinds (fun k' p' he=>by cases he; exact⟨k,rfl⟩) k) c.argTypes hat o.type
  have hset:=heap_setO (o':=.map es' clock) e2
  have hFb:¬ F b:=(r.w.hp.own _ _ b (look_mem hob) (.self (by rw[e1]; rfl))).1
  have hF:∀ c,F c→F c∧({ w with heap:=w.heap.setIfInBounds b (.map es' clock) }:World).heap[c]? = w.heap[c]?:=fun c hc=>⟨hc,hset.2 c (fun e=>hFb (e▸hc))⟩
  have hperm:l1.Perm es'.toList:=by
   rcases h7 with⟨a1,rfl⟩ | ⟨e0,a1,a2,a3⟩
   ·have:=hM.rest.1 a1
    subst this
    have hp1:=hM.perm
    rw[List.append_nil]at hp1
    exact hp1
   ·exact(hM.rest.2 e0 _ a1 a2 a3).2
  have hold:∀ e,e∈es'.toList→e∈es.toList:=fun e he=>hM.perm.mem_iff.1 (List.mem_append_left _ (hperm.mem_iff.2 he))
  have hkeep:∀ e,e∈es.toList→¬ KeyR (MKey.kT k) e.key→e∈es'.toList:=by
   intro e he hk'
   rcases h7 with⟨_,rfl⟩ | ⟨e0,a1,a2,a3⟩
   ·exact he
   ·rcases List.mem_cons.1 (a3.mem_iff.1 he) with rfl | h
    ·exact absurd a2 hk'
    ·exact h
  have hsub:(es'.toList.map (·.born)).Nodup:=by
   rcases h7 with⟨_,rfl⟩ | ⟨e0,a1,a2,a3⟩
   ·exact hM.born
   ·have:=(List.Perm.nodup_iff (a3.map (·.born))).1 hM.born
    simp only[List.map_cons,List.nodup_cons]at this
    exact this.2
  have hkeys:=hM.keys
  rw[List.nodup_append]at hkeys
  have hexec:(execOp a.eval o).run P w = .ok (.value (.tuple #[])) ({ w with heap:=w.heap.setIfInBounds b (.map es' clock) }):=by
   unfold execOp
   simp[hop,resolve,hcal,invoke,hargs,hu,hkv',builtin,h2]
  have hobj:ObjR F g ({ w with heap:=w.heap.setIfInBounds b (.map es' clock) }) ob (.mp (clrIt it) (eM enc v) none):=by
   refine⟨b,es',clock,e1,hset.1,l1,[],by rw[List.append_nil]; exact hperm,?_,rfl,by simp only[hoK,List.append_nil]; exact hkeys.1,hsub,fun e he=>hM.old e (hold e he),hM.sep,?_⟩
   ·refine hM.ent.mono fun y e hy he hR=>⟨hR.1,hR.2.mono hF fun c ho hc=>hset.2 c (fun e'=>?_)⟩
    subst e'
    obtain⟨vs,ty,hcell⟩:=hR.2.block ho hc
    rw[e2]at hcell; cases hcell
   ·cases it with
    | none=>exact True.intro
    | some i=>
     obtain⟨r',since,seen,c0,i1,i2,i3,i4,i5,i6,i7,i8⟩:=hM.it
     have hne:r'≠b:=by intro e; subst e; rw[e2]at i2; cases i2
     obtain⟨_,_,hnk⟩:=i8 _ (hcur i rfl)
     refine⟨r',since,seen,c0,i1,by rw[hset.2 r' hne]; exact i2,fun e he=>i3 e (hold e he),i4,fun e he=>i5 e (hold e he),fun k' hk'=>?_,i7,fun k' hk'=>by cases hk'⟩
     obtain⟨e,he,hke⟩:=i6 k' hk'
     exact⟨e,hkeep e he (fun h=>hnk (h.inj hke▸hk')),hke⟩
  have hft:∀ c,Foot g ({ w with heap:=w.heap.setIfInBounds b (.map es' clock) }) ob (.mp (clrIt it) (eM enc v) none) c→Foot g w ob (.mp it (eM enc v) (some (MKey.kT k,hp))) c:=by
   intro c hc
   generalize hit:clrIt it=it' at hc
   cases hc with
   | self h=>exact .self h
   | iter h=>
    cases it with
    | none=>cases hit
    | some i=>simp only[clrIt,Option.some.injEq]at hit; subst hit; exact .iter h
   | @mem _ _ _ _ bm cl es2 e x h1 h2 h3' h4' h5' h6' h7'=>
    rw[e1]at h1; injection h1 with h1; injection h1 with h1; subst h1
    rw[hset.1]at h2; injection h2 with h2; injection h2 with h2 h2'; subst h2
    exact .mem e1 e2 (hold e h3') h4' h5' h6' h7'
  exact⟨_,.tuple #[],{ w with heap:=w.heap.setIfInBounds b (.map es' clock) },_,hexec,.inl rfl,by rw[hd]; exact⟨F,g,r.writeF (y:=.mp (clrIt it) (eM enc v) none) (look_mem hob) (.self (by rw[e1]; rfl)) hset.2 (by simp) rfl rfl rfl hobj hft⟩,h1⟩
end
def isMap(ti:Nat→Option TInf)(t:Nat):Bool:=match ti t with | some i=>(match i.und with | .mp _ _=>true | _=>false) | none=>false
theorem isMap_ok{P:Program}{ti:Nat→Option TInf}(hI:TIok P ti){t:Nat}(h:isMap ti t=true):∃ kt et,P.underlying t=some (.map kt et):=by
 unfold isMap at h
 split at h
 ·rename_i i hi
  split at h
  ·rename_i kt et hu
   have:=(hI _ _ hi).und; rw[hu]at this; exact⟨kt,et,this⟩
  ·cases h
 ·cases h
section
variable {P:Program} {E:Env} {I:Inf} {F:Nat→Prop} {g:Nat→Value} {st st2:St} {a:Act} {w:World} {K V:Type} [MKey K]
theorem RelG.same{w':World}(r:RelG E F g st a w)(hh:w'.heap=w.heap)(ho:w'.os=w.os)(ht:w'.tape=w.tape)(hu:w'.output=w.output):RelG E F g st a w':=by
 have hb:∀ b:Nat,w'.heap[b]? = w.heap[b]?:=fun b=>by rw[hh]
 have hf:∀ {o x b},Foot g w' o x b→Foot g w o x b:=fun h=>h.mono rfl (fun _ _=>rfl) (fun c _=>hb c)
 refine⟨r.nt,r.df,fun t x hx=>(r.fr t x hx).mono (fun b h=>⟨h,hb b⟩) (fun _ _=>rfl),⟨⟨fun o x hx=>?_,fun o x b hx h=>r.w.hp.own o x b hx (hf h),fun o x o' y b hx hy hne h h'=>r.w.hp.sep o x o' y b hx hy hne (hf h) (hf h')⟩,r.w.f0,fun b h=>?_,?_,r.w.names,r.w.b0⟩⟩
 ·exact(r.w.hp.obj o x hx).mono (fun b h=>⟨h,hb b⟩) rfl (fun _ _=>rfl) (fun b _=>hb b)
 ·rw[hh]; exact r.w.f1 b h
 ·exact r.w.ext.trans ho ht hu (by rw[hh]; exact Nat.le_refl _) (fun b _ _=>hb b)
theorem pops_mkmap(hG:Good P E I){ops l:List Oper}{o:Oper}{rest:List Oper}{Q:Post}{t d:Nat}(enc:V→Mem)(hl:l=o::rest)(hop:o.op = .makeMap t none)(hd:o.dst=some d)(hw:wantedP ops o st=some true)
  (hnt:Nat.blt d I.nt=true)(hn:nmem d I.N=true){st1:St}(he:st.erase d=some st1)(h1:pops P E ops Q rest ({ st1 with hp:=(d,.mp none (eM enc ([]:List (K×V))) none)::st1.hp }.put d (.map d))):pops P E ops Q l st:=by
 refine pops_step hl hw fun F g a w r=>?_
 have hd':d<E.nt:=by rw[hG.nt]; simpa[Nat.blt_eq] using hnt
 have hnew:(w.alloc (.map #[] 0)).heap[w.heap.size]? = some (.map #[] 0):=heap_alloc_new w _
 obtain⟨g',hg'⟩:=r.allocF (x:=.mp none (eM enc ([]:List (K×V))) none) (v:=.map (some w.heap.size)) (w':=w.alloc (.map #[] 0)) (ob:=.map #[] 0) hd' (by rw[hG.N]; exact nmem_ok hn) he rfl rfl rfl rfl rfl
  (fun g' b hg hb=>by
   cases hb with
   | self h=>rw[hg]at h; exact h
   | mem _ _ _ h4=>simp[eM]at h4)
  (fun g' _ hg=>⟨w.heap.size,#[],0,hg,hnew,[],[],by simp,by simp only[eM,List.map_nil]; exact .nil,rfl,by simp[eM,hoK],by simp,by simp,by simp,True.intro⟩)
  (.map d) (fun g' hg=>.map hg)
 exact⟨_,.map (some w.heap.size),w.alloc (.map #[] 0),_,by unfold execOp; simp[hop,Instr.makeMap],.inl rfl,by rw[hd]; exact⟨F,g',hg'⟩,h1⟩
theorem pops_mlen(hG:Good P E I){ops l:List Oper}{o:Oper}{rest:List Oper}{Q:Post}{t:TypeId}{d ob:Nat}{c:Call}{x:Operand}{it:Option Iter}{enc:V→Mem}(v:List (K×V))(hl:l=o::rest)(hop:o.op = .call c)
  (hcal:c.callee = .builtin .len)(hargs:c.args=#[x])(hat:c.argTypes[0]? = some t)(hd:o.dst=some d)(hw:wantedP ops o st=some true)(hnt:Nat.blt d I.nt=true)(hx:ev st x=some (.map ob))(hm:isMap I.ti t=true)
  (hob:look st.hp ob=some (.mp it (eM enc v) none))(h1:pops P E ops Q rest (st.put d (.t (.int .i64 (v.length:Int))))):pops P E ops Q l st:=by
 refine pops_step hl hw fun F g a w r=>?_
 have hd':d<E.nt:=by rw[hG.nt]; simpa[Nat.blt_eq] using hnt
 obtain⟨kt,et,hT⟩:=isMap_ok hG.ti hm
 obtain⟨b,es,clock,e1,e2,l1,r1,hM⟩:=r.w.hp.obj _ _ (look_mem hob)
 have hxv:=ev_ok r hx
 obtain⟨u,hu⟩:∃ u,a.eval x=u:=⟨_,rfl⟩
 rw[hu]at hxv
 cases hxv with
 | map hg=>
  rw[e1]at hg; injection hg with hg; injection hg with hg; subst hg
  have hsz:es.size=v.length:=by
   have h1:=hM.perm.length_eq
   have h2:=hM.ent.get.1
   have h3:=hM.hole
   simp only[HoleR]at h3
   subst h3
   simp only[eM,List.length_map,List.append_nil,Array.length_toList]at h1 h2
   omega
  refine⟨_,.int .i64 (v.length:Int),w,_,?_,.inl rfl,by rw[hd]; exact⟨F,g,r.put hd' (.t (.int _ _))⟩,h1⟩
  unfold execOp
  simp[hop,resolve,hcal,invoke,hargs,hu,builtin,Builtin.len_,hat,run_underlying hT,Go.run_getObj_map w b es clock e2,hsz,goInt]
def grange(N:List Nat)(o d:Nat)(x':PObj)(st:St):Option St:=
 match nmem d N,Nat.beq d o,st.erase d with
 | true,false,some st1=>some { fr:=st1.fr,hp:=(o,x')::del o st1.hp }
 | _,_,_=>none
theorem pops_range(hG:Good P E I){ops l:List Oper}{o:Oper}{rest:List Oper}{Q:Post}{t d ob:Nat}{x:Operand}{enc:V→Mem}(v:List (K×V))(hl:l=o::rest)(hop:o.op = .range t x)(hd:o.dst=some d)
  (hw:wantedP ops o st=some true)(hnt:Nat.blt d I.nt=true)(hx:ev st x=some (.map ob))(hm:isMap I.ti t=true)(hob:look st.hp ob=some (.mp none (eM enc v) none))
  (hs:grange I.N ob d (.mp (some ⟨d,kTs (mkeys v),none⟩) (eM enc v) none) st=some st2)(h1:pops P E ops Q rest (st2.put d (.ptr d 0))):pops P E ops Q l st:=by
 refine pops_step hl hw fun F g a w r=>?_
 have hd':d<E.nt:=by rw[hG.nt]; simpa[Nat.blt_eq] using hnt
 obtain⟨kt,et,hT⟩:=isMap_ok hG.ti hm
 have hlm:=look_mem hob
 obtain⟨b,es,clock,e1,e2,l1,r1,hM⟩:=r.w.hp.obj _ _ hlm
 have hxv:=ev_ok r hx
 obtain⟨u,hu⟩:∃ u,a.eval x=u:=⟨_,rfl⟩
 rw[hu]at hxv
 cases hxv with
 | map hg=>
  rw[e1]at hg; injection hg with hg; injection hg with hg; subst hg
  unfold grange at hs
  split at hs
  ·rename_i st1 hn hdo he
   cases hs
   have hdo:=Nat.ne_of_beq_eq_false hdo
   let w':=w.alloc (.mapIter (some b) clock #[] clock)
   have hnew:w'.heap[w.heap.size]? = some (.mapIter (some b) clock #[] clock):=heap_alloc_new w _
   have hold:∀ c,c<w.heap.size→w'.heap[c]? = w.heap[c]?:=fun c hc=>heap_alloc_old w _ hc
   have hsz:w'.heap.size=w.heap.size+1:=by show (w.heap.push _).size=_; simp
   let g':=upd g d (.pointer (some ⟨w.heap.size,0,none⟩))
   have hgd:g' d = .pointer (some ⟨w.heap.size,0,none⟩):=upd_same ..
   have hgo:∀ k,k≠d→g' k=g k:=fun k hk=>upd_other g _ hk
   have hblt:=(Array.getElem?_eq_some_iff.1 e2).1
   have hF:∀ c,F c→F c∧w'.heap[c]? = w.heap[c]?:=fun c hc=>⟨hc,hold c (r.w.f1 c hc).1⟩
   have hr1:=hM.hole
   simp only[HoleR]at hr1
   subst hr1
   have hperm:=hM.perm
   rw[List.append_nil]at hperm
   have hkeys:=hM.keys
   simp only[hoK,List.append_nil,eM_keys]at hkeys
   have hit:ItR g' w' b es clock (some ⟨d,kTs (mkeys v),none⟩):=by
    refine⟨w.heap.size,clock,#[],clock,hgd,hnew,hM.old,⟨Nat.le_refl _,Nat.le_refl _⟩,fun e he'=>?_,fun k hk=>?_,hkeys,fun k hk=>by cases hk⟩
    ·obtain⟨j,y,hy,_,hR⟩:=hM.ent.memr (hperm.mem_iff.2 he')
     refine⟨fun _=>by simp,fun _=>⟨y.1,?_,hR.1⟩⟩
     rw[←eM_keys (enc:=enc)]
     exact List.mem_map_of_mem (List.mem_of_getElem? hy)
    ·rw[←eM_keys (enc:=enc)]at hk
     obtain⟨y,hy,rfl⟩:=List.mem_map.1 hk
     obtain⟨j,e,_,h2,h3⟩:=hM.ent.mem hy
     exact⟨e,hperm.mem_iff.1 (List.mem_of_getElem? h2),h3.1⟩
   have hobj:ObjR F g' w' ob (.mp (some ⟨d,kTs (mkeys v),none⟩) (eM enc v) none):=by
    refine⟨b,es,clock,by rw[hgo ob (fun e=>hdo e.symm)]; exact e1,by rw[hold b hblt]; exact e2,l1,[],by rw[List.append_nil]; exact hperm,?_,rfl,hM.keys,hM.born,hM.old,hM.sep,hit⟩
    refine hM.ent.mono fun y e _ _ hR=>⟨hR.1,hR.2.mono hF fun c ho hc=>hold c ?_⟩
    obtain⟨vs,ty,hcell⟩:=hR.2.block ho hc
    exact(Array.getElem?_eq_some_iff.1 hcell).1
   have hfoot:∀ c,Foot g' w' ob (.mp (some ⟨d,kTs (mkeys v),none⟩) (eM enc v) none) c→c=w.heap.size∨Foot g w ob (.mp none (eM enc v) none) c:=by
    intro c hc
    cases hc with
    | self h=>rw[hgo ob (fun e=>hdo e.symm)]at h; exact .inr (.self h)
    | iter h=>rw[hgd]at h; simp[blk]at h; exact .inl h.symm
    | mem h1 h2 h3 h4 h5 h6 h7=>
     rw[hgo ob (fun e=>hdo e.symm),e1]at h1; injection h1 with h1; injection h1 with h1; subst h1
     rw[hold b hblt,e2]at h2; injection h2 with h2; injection h2 with h2 h2'; subst h2
     exact .inr (.mem e1 e2 h3 h4 h5 h6 h7)
   have oth:∀ k z,(k,z)∈del ob st1.hp→k≠ob∧∃ z',(k,z')∈st.hp∧ObjR F g' w' k z∧∀ c,Foot g' w' k z c→Foot g w k z' c:=by
    intro k z hz
    obtain⟨h1,h2⟩:=mem_del.1 hz
    obtain⟨z',h3,h4,h5,h6,h7⟩:=St.erase_hp he k z h1
    have hz':=r.w.hp.obj k z' h3
    exact⟨h2,z',h3,(h6 _ _ _ hz').mono hF (hgo k h4) (fun k' hk'=>hgo k' (h5 k' hk')) (fun c hc=>hold c ((h7 _ _ _ hc).block hz')),
     fun c hc=>h7 _ _ _ (hc.mono (hgo k h4) (fun k' hk'=>hgo k' (h5 k' hk')) (fun c' hc'=>hold c' (hz'.block hc')))⟩
   have hrel:RelG E F g' ⟨st1.fr,(ob,.mp (some ⟨d,kTs (mkeys v),none⟩) (eM enc v) none)::del ob st1.hp⟩ a w':=by
    refine⟨r.nt,r.df,fun t z hz=>?_,⟨⟨fun k z hz=>?_,fun k z c hz hc=>?_,fun k z k' z' c hz hz' hne hc hc'=>?_⟩,r.w.f0,fun c hc=>⟨by have:=(r.w.f1 c hc).1; omega,(r.w.f1 c hc).2⟩,
     r.w.ext.trans rfl rfl rfl (by omega) (fun c hc _=>hold c (by have:=r.w.ext.size; omega)),fun k hk=>?_,r.w.b0⟩⟩
    ·obtain⟨h1,h2⟩:=St.erase_fr he t z hz
     exact(r.fr t z h1).mono hF (fun k hk=>hgo k (h2 k hk))
    ·rcases List.mem_cons.1 hz with e | hz
     ·cases e; exact hobj
     ·exact(oth k z hz).2.choose_spec.2.1
    ·rcases List.mem_cons.1 hz with e | hz
     ·cases e
      rcases hfoot c hc with rfl | h
      ·exact⟨fun h=>by have:=(r.w.f1 _ h).1; omega,.inr r.w.ext.size⟩
      ·exact r.w.hp.own _ _ c hlm h
     ·obtain⟨_,z',h1,_,h3⟩:=oth k z hz
      exact r.w.hp.own k z' c h1 (h3 c hc)
    ·have key:∀ k z,(k,z)∈del ob st1.hp→Foot g' w' k z c→Foot g' w' ob (.mp (some ⟨d,kTs (mkeys v),none⟩) (eM enc v) none) c→False:=by
      intro k z hz hc hc'
      obtain⟨h0,z',h1,_,h3⟩:=oth k z hz
      have hck:=h3 c hc
      rcases hfoot c hc' with rfl | h
      ·have:=hck.block (r.w.hp.obj k z' h1); omega
      ·exact r.w.hp.sep k z' ob _ c h1 hlm h0 hck h
     rcases List.mem_cons.1 hz with e | hz
     ·cases e
      rcases List.mem_cons.1 hz' with e' | hz'
      ·cases e'; exact hne rfl
      ·exact key k' z' hz' hc' hc
     ·rcases List.mem_cons.1 hz' with e' | hz'
      ·cases e'; exact key k z hz hc hc'
      ·obtain⟨_,u,h1,_,h3⟩:=oth k z hz
       obtain⟨_,u',h1',_,h3'⟩:=oth k' z' hz'
       exact r.w.hp.sep k u k' u' c h1 h1' hne (h3 c hc) (h3' c hc')
    ·rw[hgo k (fun e:k=d=>nmem_ok hn (by rw[←e,←hG.N]; exact hk))]
     exact r.w.names k hk
   refine⟨_,.pointer (some ⟨w.heap.size,0,none⟩),w',_,?_,.inl rfl,by rw[hd]; exact⟨F,g',hrel.put hd' (.ptr hgd)⟩,h1⟩
   unfold execOp
   simp[hop,hu,Instr.range,run_underlying hT,Go.run_getObj_map w b es clock e2,w']
  ·cases hs
end
def Mem.one:Mem→Bool
 | .d (.agg _)=>false
 | _=>true
theorem MemR.cells{F:Nat→Prop}{w:World}{y:Mem}{v:Value}(h:MemR F w y v)(hy:y.one=true):v.cells=#[v]:=by
 cases y with
 | d x=>
  have h:Rd F w x v:=h
  cases h with
  | agg=>cases hy
  | _=>rfl
 | box l=>obtain⟨b,vs,ty,h1,_⟩:=h; rw[h1]; rfl
 | row e s n f=>
  rcases h with⟨h1,_⟩ | ⟨b,cap,cur,h1,_⟩
  ·rw[h1]; rfl
  ·rw[h1]; rfl
section
variable {P:Program} {E:Env} {I:Inf} {F:Nat→Prop} {g:Nat→Value} {st st2:St} {a:Act} {w:World} {K V:Type} [MKey K]
theorem KeyR.cells{k:T}{v:Value}(h:KeyR k v):v.cells=#[v]:=by cases h <;> rfl
theorem VR.tup3{F:Nat→Prop}{g:Nat→Value}{w:World}{p q r:PV}{x y z:Value}(h1:VR F g w p x)(h2:VR F g w q y)(h3:VR F g w r z):VR F g w (.tup [p,q,r]) (.tuple #[x,y,z]):=by
 refine .tup (by simp) fun j u v hu hv=>?_
 have hj:j=0∨j=1∨j=2:=by have:=(List.getElem?_eq_some_iff.1 hu).1; simp at this; omega
 rcases hj with rfl | rfl | rfl <;> (simp at hu hv; subst hu; subst hv)
 ·exact h1
 ·exact h2
 ·exact h3
theorem VR.tup1{F:Nat→Prop}{g:Nat→Value}{w:World}{p:PV}{x:Value}(h1:VR F g w p x):VR F g w (.tup [p]) (.tuple #[x]):=by
 refine .tup (by simp) fun j u v hu hv=>?_
 have hj:j=0:=by have:=(List.getElem?_eq_some_iff.1 hu).1; simp at this; omega
 subst hj
 simp at hu hv; subst hu; subst hv
 exact h1
theorem next_step(r:RelG E F g st a w){ob di:Nat}{enc:V→Mem}{cur:Option T}(v:List (K×V))(rem:List K)(ty:TypeId)
  (hob:look st.hp ob=some (.mp (some ⟨di,kTs rem,cur⟩) (eM enc v) none)){u:Value}(hu:VR F g w (.ptr di 0) u):
  (rem=[]∧(Instr.next u false ty).run P w = .ok (.tuple #[.bool false]) w)∨∃ k w2 b es clock e,k∈rem∧(Instr.next u false ty).run P w = .ok (.tuple #[.bool true,e.key,e.val]) w2 ∧
   RelG E F g { st with hp:=(ob,.mp (some ⟨di,kTs (rem.erase k),some (MKey.kT k)⟩) (eM enc v) none)::del ob st.hp } a w2∧g ob = .map (some b)∧w2.heap[b]? = some (.map es clock)∧e∈es.toList∧KeyR (MKey.kT k) e.key:=by
 have hlm:=look_mem hob
 obtain⟨b,es,clock,e1,e2,l1,r1,hM⟩:=r.w.hp.obj _ _ hlm
 obtain⟨rb,since,seen,c0,i1,i2,i3,⟨i4,i4'⟩,i5,i6,i7,i8⟩:=hM.it
 cases hu with
 | ptr hg=>
  rw[i1]at hg; injection hg with hg; injection hg with hg; injection hg with hg; subst hg
  have hne:rb≠b:=by intro e; subst e; rw[e2]at i2; cases i2
  rcases run_next_at (P:=P) w ty rb b since c0 seen es clock i2 e2 i3 i4 with⟨hz,hrun⟩ | ⟨e,he,w1,hw1,hrun⟩
  ·refine .inl ⟨?_,hrun⟩
   cases rem with
   | nil=>rfl
   | cons k rem=>
    exfalso
    obtain⟨e,he,hk⟩:=i6 (MKey.kT k) (by simp[kTs])
    have hs:=(i5 e he).1 ⟨MKey.kT k,by simp[kTs],hk⟩
    have:e∈(leftOf es seen).toList:=by
     simp only[leftOf,Array.toList_filter,List.mem_filter]
     exact⟨he,by show (!seen.contains e.born)=true; rw[hs]; rfl⟩
    have:=List.length_pos_of_mem this
    simp only[Array.length_toList]at this
    omega
  ·simp only[leftOf,Array.toList_filter,List.mem_filter,Bool.not_eq_true']at he
   obtain⟨he,hns⟩:=he
   obtain⟨k',hk',hke⟩:=(i5 e he).2 hns
   obtain⟨k,hk,rfl⟩:=List.mem_map.1 hk'
   have r1':RelG E F g st a w1:=by
    rcases hw1 with rfl | rfl
    ·exact r
    ·exact r.same rfl rfl rfl rfl
   have e1':w1.heap=w.heap:=by rcases hw1 with rfl | rfl <;> rfl
   obtain⟨w2,hw2⟩:∃ w2,w2=ChangeMaps.setBlock w1 rb (.mapIter (some b) since (seen.push e.born) clock):=⟨_,rfl⟩
   rw[←hw2]at hrun
   have hheap:w2.heap=w1.heap.setIfInBounds rb (.mapIter (some b) since (seen.push e.born) clock):=by rw[hw2]; rfl
   have i2':w1.heap[rb]? = some (.mapIter (some b) since seen c0):=by rw[e1']; exact i2
   have hset:w2.heap[rb]? = some (.mapIter (some b) since (seen.push e.born) clock)∧∀ r',r'≠rb→w2.heap[r']? = w1.heap[r']?:=by
    rw[hheap]; exact heap_setO (w:=w1) i2'
   have hFb:¬ F rb:=(r.w.hp.own _ _ rb hlm (.iter (by rw[i1]; rfl))).1
   have hF:∀ c,F c→F c∧w2.heap[c]? = w1.heap[c]?:=fun c hc=>⟨hc,hset.2 c (fun e=>hFb (e▸hc))⟩
   have hF':∀ c,F c→F c∧w2.heap[c]? = w.heap[c]?:=fun c hc=>by rw[←e1']; exact hF c hc
   have hnd:(rem.map (MKey.kT (K:=K))).Nodup:=i7
   have hnd':=kTs_nodup (l:=rem) hnd
   have hb2:w2.heap[b]? = some (.map es clock):=by rw[hset.2 b (fun e=>hne e.symm),e1']; exact e2
   have hob2:ObjR F g w2 ob (.mp (some ⟨di,kTs (rem.erase k),some (MKey.kT k)⟩) (eM enc v) none):=by
    refine⟨b,es,clock,e1,hb2,l1,r1,hM.perm,?_,hM.hole,hM.keys,hM.born,hM.old,hM.sep,?_⟩
    ·refine hM.ent.mono fun y e' _ _ hR=>⟨hR.1,hR.2.mono hF' fun c ho hc=>?_⟩
     obtain⟨vs,ty,hcell⟩:=hR.2.block ho hc
     rw[hset.2 c (fun e'=>by subst e'; rw[i2]at hcell; cases hcell),e1']
    ·refine⟨rb,since,seen.push e.born,clock,i1,hset.1,i3,⟨i4',i4'⟩,fun e' he'=>?_,fun k' hk'=>?_,?_,fun k' hk'=>?_⟩
     ·have hbn:e'.born=e.born→e'=e:=by
       intro hbb
       obtain⟨p,hp,hpe⟩:=List.mem_iff_getElem.1 he'
       obtain⟨q,hq,hqe⟩:=List.mem_iff_getElem.1 he
       have e3:(es.toList.map (·.born))[p]? = some e'.born:=by simp only[List.getElem?_map,List.getElem?_eq_getElem hp,hpe,Option.map_some]
       have e4:(es.toList.map (·.born))[q]? = some e'.born:=by simp only[List.getElem?_map,List.getElem?_eq_getElem hq,hqe,Option.map_some,hbb]
       have:=(List.getElem?_inj (by simpa using hp) hM.born).1 (e3.trans e4.symm)
       subst this
       rw[←hpe,←hqe]
      constructor
      ·rintro⟨k2,hk2,hke2⟩
       obtain⟨k3,hk3,rfl⟩:=List.mem_map.1 hk2
       have hk4:=(hnd'.mem_erase_iff).1 hk3
       have hs:=(i5 e' he').1 ⟨_,List.mem_map_of_mem hk4.2,hke2⟩
       have hneb:e'.born≠e.born:=fun hbb=>by
        have:=hbn hbb
        subst this
        exact hk4.1 (MKey.inj _ _ (hke2.inj hke))
       rw[Array.contains_push,hs]
       simpa using hneb
      ·intro hs
       rw[Array.contains_push]at hs
       simp only[Bool.or_eq_false_iff]at hs
       obtain⟨k2,hk2,hke2⟩:=(i5 e' he').2 hs.1
       obtain⟨k3,hk3,rfl⟩:=List.mem_map.1 hk2
       refine⟨_,List.mem_map_of_mem ((hnd'.mem_erase_iff).2 ⟨?_,hk3⟩),hke2⟩
       intro e3
       subst e3
       have hx':(MKey.kT k3,e.key)=(MKey.kT k3,e.key):=rfl
       have:e'.key=e.key:=hke2.inj' hke
       obtain⟨j,y,hy,hj,hR⟩:=hM.ent.memr (r:=l1) (b:=e) (by
        have h3:=hM.hole; simp only[HoleR]at h3
        have:=hM.perm.mem_iff.2 he; rw[h3,List.append_nil]at this; exact this)
       have:=hM.uniq (List.mem_of_getElem? hy) he he' hR.1 (by rw[this]; exact hR.1)
       subst this
       simp at hs
     ·obtain⟨k3,hk3,rfl⟩:=List.mem_map.1 hk'
      exact i6 _ (List.mem_map_of_mem ((hnd'.mem_erase_iff).1 hk3).2)
     ·have:(kTs (rem.erase k)).Sublist (kTs rem):=(List.erase_sublist ..).map _
      exact this.nodup i7
     ·injection hk' with hk'
      subst hk'
      refine⟨rfl,⟨e,he,hke,seen,rfl⟩,?_⟩
      rw[kTs_mem]
      exact fun h=>((hnd'.mem_erase_iff).1 h).1 rfl
   have hft:∀ c,Foot g w2 ob (.mp (some ⟨di,kTs (rem.erase k),some (MKey.kT k)⟩) (eM enc v) none) c→Foot g w1 ob (.mp (some ⟨di,kTs rem,cur⟩) (eM enc v) none) c:=by
    intro c hc
    cases hc with
    | self h=>exact .self h
    | iter h=>exact .iter h
    | mem h1 h2 h3 h4 h5 h6 h7=>
     rw[e1]at h1; injection h1 with h1; injection h1 with h1; subst h1
     rw[hset.2 b (fun e=>hne e.symm)]at h2
     exact .mem e1 h2 h3 h4 h5 h6 h7
   have hrel:=r1'.writeF (y:=.mp (some ⟨di,kTs (rem.erase k),some (MKey.kT k)⟩) (eM enc v) none) (w':=w2) hlm (.iter (by rw[i1]; rfl)) hset.2 (by rw[hheap]; simp) (by rw[hw2]; rfl) (by rw[hw2]; rfl) (by rw[hw2]; rfl) hob2 hft
   exact .inr ⟨k,w2,b,es,clock,e,hk,hrun,hrel,e1,hb2,he,hke⟩
end
section
variable {P:Program} {E:Env} {I:Inf} {F:Nat→Prop} {g:Nat→Value} {st st2:St} {a:Act} {w:World} {K V:Type} [MKey K]
theorem MpR.hasKey{b clock:Nat}{es:Array MapEntry}{it:Option Iter}{enc:V→Mem}{v:List (K×V)}{l r:List MapEntry}(h:MpR F g w b es clock it (eM enc v) none l r){k:K}{e:MapEntry}(he:e∈es.toList)(hk:KeyR (MKey.kT k) e.key):
  ∃ c,mlook v k=some c∧MemR F w (enc c) e.val:=by
 have hf:=h.found k
 cases hl:mlook v k with
 | none=>exact absurd hk (hf.1 hl e he)
 | some c=>
  obtain⟨hp,_⟩:=hf.2 c hl
  obtain⟨l2,h2⟩:=h.permM hp
  exact⟨c,rfl,(h2.entry (x:=(MKey.kT k,enc c)) (by simp) he hk).1.2⟩
theorem run_next_exec{o:Oper}{x:Operand}(hop:o.op = .next x false){u v':Value}(hu:a.eval x=u){w':World}(h:(Instr.next u false o.type).run P w = .ok v' w'):(execOp a.eval o).run P w = .ok (.value v') w':=by
 unfold execOp
 simp[hop,hu,h]
def nextSt(st:St)(ob di:Nat)(rem:List K)(k:K)(m:List (T×Mem)):St:={ st with hp:=(ob,.mp (some ⟨di,kTs rem,some (MKey.kT k)⟩) m none)::del ob st.hp }
theorem pops_nextbox(hG:Good P E I){ops l:List Oper}{o:Oper}{rest:List Oper}{Q:Post}{d ob di:Nat}{x:Operand}{cur:Option T}{eB:V→List T}(v:List (K×V))(rem:List K)
  (hl:l=o::rest)(hop:o.op = .next x false)(hd:o.dst=some d)(hw:wantedP ops o st=some true)(hnt:Nat.blt d I.nt=true)(hx:ev st x=some (.ptr di 0))
  (hob:look st.hp ob=some (.mp (some ⟨di,kTs rem,cur⟩) (eM (fun c=>.box (eB c)) v) none))(hit:Nat.beq di d=false){st2:K→V→St}
  (hs:∀ k c,gfocus I.N ob d (.mp (some ⟨di,kTs (rem.erase k),some (MKey.kT k)⟩) (eM (fun c=>.box (eB c)) (mdel v k)) (some (MKey.kT k,some (.ptr d 0)))) (.box ((eB c).map .t)) (nextSt st ob di (rem.erase k) k (eM (fun c=>.box (eB c)) v))=some (st2 k c))
  (h0:rem=[]→pops P E ops Q rest (st.put d (.tup [.t (.bool false)])))
  (h1:∀ k c,k∈rem→mlook v k=some c→pops P E ops Q rest ((st2 k c).put d (.tup [.t (.bool true),.t (MKey.kT k),.ptr d 0]))):pops P E ops Q l st:=by
 refine pops_step hl hw fun F g a w r=>?_
 have hd':d<E.nt:=by rw[hG.nt]; simpa[Nat.blt_eq] using hnt
 obtain⟨u,hu⟩:∃ u,a.eval x=u:=⟨_,rfl⟩
 have hxv:=ev_ok r hx
 rw[hu]at hxv
 rcases next_step (P:=P) r v rem o.type hob hxv with⟨hrem,hrun⟩ | ⟨k,w2,b,es,clock,e,hk,hrun,r2,e1,e2,he,hke⟩
 ·exact⟨_,_,w,_,run_next_exec hop hu hrun,.inl rfl,by rw[hd]; exact⟨F,g,r.put hd' (.tup1 (.t (.bool _)))⟩,h0 hrem⟩
 ·have hob2:look ((ob,PObj.mp (some ⟨di,kTs (rem.erase k),some (MKey.kT k)⟩) (eM (fun c=>.box (eB c)) v) none)::del ob st.hp) ob=some (.mp (some ⟨di,kTs (rem.erase k),some (MKey.kT k)⟩) (eM (fun c=>.box (eB c)) v) none):=by simp[look]
  obtain⟨b',es',clock',f1,f2,l1,r1,hM⟩:=r2.w.hp.obj _ _ (look_mem hob2)
  rw[e1]at f1; injection f1 with f1; injection f1 with f1; subst f1
  rw[e2]at f2; injection f2 with f2; injection f2 with f2 f2'; subst f2; subst f2'
  obtain⟨c,hlk,hmem⟩:=hM.hasKey he hke
  obtain⟨hp,_⟩:=(hM.found k).2 c hlk
  obtain⟨l2,hM2⟩:=hM.permM hp
  have hdo:=gfocus_ne (hs k c)
  have hit':noIt d (some ⟨di,kTs (rem.erase k),some (MKey.kT k)⟩)=true:=by simp[noIt,hit]
  obtain⟨bb,vs,ty,e3,e4⟩:=id hmem
  have hgive:=hM2.give (d:=d) (ob:=ob) (p:=some (.ptr d 0)) e1 e2 rfl hdo hit' he hke (fun g' hg' q hq=>by cases hq; rw[e3]; exact .ptr (by rw[hg',e3]))
  obtain⟨_,g',hgd,hga,r'⟩:=r2.focus hG.N (x:=.mp (some ⟨di,kTs (rem.erase k),some (MKey.kT k)⟩) (eM (fun c=>.box (eB c)) v) none) e.val hob2 (hs k c) (fun g' hg hgd=>(hgive.2 g' hg hgd).1)
   (fun g' hg hgd=>by simp only[ObjR]; rw[hgd]; exact BoxV.ts hmem g')
   (fun g' c' hg hgd hc=>((hgive.2 g' hg hgd).2.1 c' hc).perm hp.symm)
   (fun g' c' hg hgd hc=>((hgive.2 g' hg hgd).2.2.1 _ c' rfl hc).perm hp.symm)
   (fun g' c' hg hgd hc hc'=>(hgive.2 g' hg hgd).2.2.2 _ c' rfl hc hc')
  exact⟨_,_,w2,_,run_next_exec hop hu hrun,.inl rfl,by rw[hd]; exact⟨F,g',r'.put hd' (.tup3 (.t (.bool _)) (.t hke.toRd) (by rw[e3]; exact .ptr (by rw[hgd,e3])))⟩,h1 k c hk hlk⟩
theorem pops_nextrow(hG:Good P E I){ops l:List Oper}{o:Oper}{rest:List Oper}{Q:Post}{d ob di:Nat}{x:Operand}{cur:Option T}{e s:Nat}{nn:V→Nat}{ff:V→Nat→List T}(v:List (K×V))(rem:List K)
  (hl:l=o::rest)(hop:o.op = .next x false)(hd:o.dst=some d)(hw:wantedP ops o st=some true)(hnt:Nat.blt d I.nt=true)(hx:ev st x=some (.ptr di 0))
  (hob:look st.hp ob=some (.mp (some ⟨di,kTs rem,cur⟩) (eM (fun c=>.row e s (nn c) (ff c)) v) none))(hit:Nat.beq di d=false){st2:K→V→St}
  (hs:∀ k c,gfocus I.N ob d (.mp (some ⟨di,kTs (rem.erase k),some (MKey.kT k)⟩) (eM (fun c=>.row e s (nn c) (ff c)) (mdel v k)) (some (MKey.kT k,some (.own d)))) (.arr e s (nn c) (ff c)) (nextSt st ob di (rem.erase k) k (eM (fun c=>.row e s (nn c) (ff c)) v))=some (st2 k c))
  (h0:rem=[]→pops P E ops Q rest (st.put d (.tup [.t (.bool false)])))
  (h1:∀ k c,k∈rem→mlook v k=some c→pops P E ops Q rest ((st2 k c).put d (.tup [.t (.bool true),.t (MKey.kT k),.own d]))):pops P E ops Q l st:=by
 refine pops_step hl hw fun F g a w r=>?_
 have hd':d<E.nt:=by rw[hG.nt]; simpa[Nat.blt_eq] using hnt
 obtain⟨u,hu⟩:∃ u,a.eval x=u:=⟨_,rfl⟩
 have hxv:=ev_ok r hx
 rw[hu]at hxv
 rcases next_step (P:=P) r v rem o.type hob hxv with⟨hrem,hrun⟩ | ⟨k,w2,b,es,clock,e',hk,hrun,r2,e1,e2,he,hke⟩
 ·exact⟨_,_,w,_,run_next_exec hop hu hrun,.inl rfl,by rw[hd]; exact⟨F,g,r.put hd' (.tup1 (.t (.bool _)))⟩,h0 hrem⟩
 ·have hob2:look (nextSt st ob di (rem.erase k) k (eM (fun c=>.row e s (nn c) (ff c)) v)).hp ob=some (.mp (some ⟨di,kTs (rem.erase k),some (MKey.kT k)⟩) (eM (fun c=>.row e s (nn c) (ff c)) v) none):=by simp[look,nextSt]
  obtain⟨b',es',clock',f1,f2,l1,r1,hM⟩:=r2.w.hp.obj _ _ (look_mem hob2)
  rw[e1]at f1; injection f1 with f1; injection f1 with f1; subst f1
  rw[e2]at f2; injection f2 with f2; injection f2 with f2 f2'; subst f2; subst f2'
  obtain⟨c,hlk,hmem⟩:=hM.hasKey he hke
  obtain⟨hp,_⟩:=(hM.found k).2 c hlk
  obtain⟨l2,hM2⟩:=hM.permM hp
  have hdo:=gfocus_ne (hs k c)
  have hit':noIt d (some ⟨di,kTs (rem.erase k),some (MKey.kT k)⟩)=true:=by simp[noIt,hit]
  have hsl:∃ ad m c',e'.val = .slice ad m c':=by
   rcases hmem with⟨h1,_⟩ | ⟨bb,cap,cur,h1,_⟩
   ·exact⟨_,_,_,h1⟩
   ·exact⟨_,_,_,h1⟩
  obtain⟨ad,mm,cc,hsl⟩:=hsl
  have hgive:=hM2.give (d:=d) (ob:=ob) (p:=some (.own d)) e1 e2 rfl hdo hit' he hke (fun g' hg' q hq=>by cases hq; rw[hsl]; exact .own (by rw[hg',hsl]))
  obtain⟨_,g',hgd,hga,r'⟩:=r2.focus hG.N (x:=.mp (some ⟨di,kTs (rem.erase k),some (MKey.kT k)⟩) (eM (fun c=>.row e s (nn c) (ff c)) v) none) e'.val hob2 (hs k c) (fun g' hg hgd=>(hgive.2 g' hg hgd).1)
   (fun g' hg hgd=>by simp only[ObjR]; rw[hgd]; exact hmem)
   (fun g' c' hg hgd hc=>((hgive.2 g' hg hgd).2.1 c' hc).perm hp.symm)
   (fun g' c' hg hgd hc=>((hgive.2 g' hg hgd).2.2.1 _ c' rfl hc).perm hp.symm)
   (fun g' c' hg hgd hc hc'=>(hgive.2 g' hg hgd).2.2.2 _ c' rfl hc hc')
  exact⟨_,_,w2,_,run_next_exec hop hu hrun,.inl rfl,by rw[hd]; exact⟨F,g',r'.put hd' (.tup3 (.t (.bool _)) (.t hke.toRd) (by rw[hsl]; exact .own (by rw[hgd,hsl])))⟩,h1 k c hk hlk⟩
theorem pops_nextd(hG:Good P E I){ops l:List Oper}{o:Oper}{rest:List Oper}{Q:Post}{d ob di:Nat}{x:Operand}{cur:Option T}{eD:V→T}(v:List (K×V))(rem:List K)
  (hl:l=o::rest)(hop:o.op = .next x false)(hd:o.dst=some d)(hw:wantedP ops o st=some true)(hnt:Nat.blt d I.nt=true)(hx:ev st x=some (.ptr di 0))
  (hob:look st.hp ob=some (.mp (some ⟨di,kTs rem,cur⟩) (eM (fun c=>.d (eD c)) v) none))
  (h0:rem=[]→pops P E ops Q rest (st.put d (.tup [.t (.bool false)])))
  (h1:∀ k c,k∈rem→mlook v k=some c→pops P E ops Q rest ((nextSt st ob di (rem.erase k) k (eM (fun c=>.d (eD c)) v)).put d (.tup [.t (.bool true),.t (MKey.kT k),.t (eD c)]))):pops P E ops Q l st:=by
 refine pops_step hl hw fun F g a w r=>?_
 have hd':d<E.nt:=by rw[hG.nt]; simpa[Nat.blt_eq] using hnt
 obtain⟨u,hu⟩:∃ u,a.eval x=u:=⟨_,rfl⟩
 have hxv:=ev_ok r hx
 rw[hu]at hxv
 rcases next_step (P:=P) r v rem o.type hob hxv with⟨hrem,hrun⟩ | ⟨k,w2,b,es,clock,e',hk,hrun,r2,e1,e2,he,hke⟩
 ·exact⟨_,_,w,_,run_next_exec hop hu hrun,.inl rfl,by rw[hd]; exact⟨F,g,r.put hd' (.tup1 (.t (.bool _)))⟩,h0 hrem⟩
 ·have hob2:look (nextSt st ob di (rem.erase k) k (eM (fun c=>.d (eD c)) v)).hp ob=some (.mp (some ⟨di,kTs (rem.erase k),some (MKey.kT k)⟩) (eM (fun c=>.d (eD c)) v) none):=by simp[look,nextSt]
  obtain⟨b',es',clock',f1,f2,l1,r1,hM⟩:=r2.w.hp.obj _ _ (look_mem hob2)
  rw[e1]at f1; injection f1 with f1; injection f1 with f1; subst f1
  rw[e2]at f2; injection f2 with f2; injection f2 with f2 f2'; subst f2; subst f2'
  obtain⟨c,hlk,hmem⟩:=hM.hasKey he hke
  exact⟨_,_,w2,_,run_next_exec hop hu hrun,.inl rfl,by rw[hd]; exact⟨F,g,RelG.put r2 hd' (.tup3 (.t (.bool _)) (.t hke.toRd) (.t hmem))⟩,h1 k c hk hlk⟩
theorem pops_lookd(hG:Good P E I){ops l:List Oper}{o:Oper}{rest:List Oper}{Q:Post}{t d ob et:Nat}{x kx:Operand}{it:Option Iter}{eD:V→T}{zv:Value}{zp:PV}(v:List (K×V))(k:K)
  (hl:l=o::rest)(hop:o.op = .lookup t x kx false)(hd:o.dst=some d)(hw:wantedP ops o st=some true)(hnt:Nat.blt d I.nt=true)(hx:ev st x=some (.map ob))(hk:ev st kx=some (.t (MKey.kT k)))
  (hob:look st.hp ob=some (.mp it (eM (fun c=>.d (eD c)) v) none))(hm:mapIn I.ti t (MKey.kT k)=some et)(hz:ZeroIs P et zv)(hzp:constPV zv=some zp)
  (h0:mlook v k=none→pops P E ops Q rest (st.put d zp))(h1:∀ c,mlook v k=some c→pops P E ops Q rest (st.put d (.t (eD c)))):pops P E ops Q l st:=by
 refine pops_step hl hw fun F g a w r=>?_
 have hd':d<E.nt:=by rw[hG.nt]; simpa[Nat.blt_eq] using hnt
 obtain⟨kt,kd,hT⟩:=mapIn_ok hG.ti hm
 obtain⟨info,hi,hz⟩:=hz
 obtain⟨b,es,clock,e1,e2,l1,r1,hM⟩:=r.w.hp.obj _ _ (look_mem hob)
 have hxv:=ev_ok r hx
 have hkv:=(ev_ok r hk).key hT.d
 obtain⟨u,hu⟩:∃ u,a.eval x=u:=⟨_,rfl⟩
 obtain⟨kv,hkv'⟩:∃ u,a.eval kx=u:=⟨_,rfl⟩
 rw[hu]at hxv; rw[hkv']at hkv
 cases hxv with
 | map hg=>
  rw[e1]at hg; injection hg with hg; injection hg with hg; subst hg
  have hrun:=run_lookup (P:=P) hT hkv e2 (hM.kinds (by simp) k) hi hz
  have hf:=hM.found k
  have hex:∀ v',(Instr.lookup t (.map (some b)) kv false).run P w = .ok v' w→(execOp a.eval o).run P w = .ok (.value v') w:=by
   intro v' hv'
   unfold execOp
   simp[hop,hu,hkv',hv']
  rcases hrun with⟨h2,hnk⟩ | ⟨e,he,hke,h2⟩
  ·cases hlk:mlook v k with
   | none=>exact⟨_,_,w,_,hex _ h2,.inl rfl,by rw[hd]; exact⟨F,g,r.put hd' (constPV_ok hzp F g w)⟩,h0 hlk⟩
   | some c=>obtain⟨_,e0,he0,hk0⟩:=hf.2 c hlk; exact absurd hk0 (hnk e0 he0)
  ·obtain⟨c,hlk,hmem⟩:=hM.hasKey he hke
   exact⟨_,_,w,_,hex _ h2,.inl rfl,by rw[hd]; exact⟨F,g,r.put hd' (.t hmem)⟩,h1 c hlk⟩
theorem fv_fn{F:Nat→Prop}{g:Nat→Value}{w:World}{c:Nat}{v:Value}(h:Rd F w (.fv c) v):VR F g w (.fn (.func c) 0 []) v:=by
 cases h with
 | fv=>exact .fn rfl rfl (by simp)
 | nil h=>simp[T.view]at h
 | sl a cap size vs h=>simp[T.view]at h
theorem pops_lookf(hG:Good P E I){ops l:List Oper}{o:Oper}{rest:List Oper}{Q:Post}{t d ob et:Nat}{x kx:Operand}{it:Option Iter}{zv:Value}{zp:PV}(v:List (K×Nat))(k:K)
  (hl:l=o::rest)(hop:o.op = .lookup t x kx false)(hd:o.dst=some d)(hw:wantedP ops o st=some true)(hnt:Nat.blt d I.nt=true)(hx:ev st x=some (.map ob))(hk:ev st kx=some (.t (MKey.kT k)))
  (hob:look st.hp ob=some (.mp it (eM (fun c=>.d (.fv c)) v) none))(hm:mapIn I.ti t (MKey.kT k)=some et)(hz:ZeroIs P et zv)(hzp:constPV zv=some zp)
  (h0:mlook v k=none→pops P E ops Q rest (st.put d zp))(h1:∀ c,mlook v k=some c→pops P E ops Q rest (st.put d (.fn (.func c) 0 []))):pops P E ops Q l st:=by
 refine pops_step hl hw fun F g a w r=>?_
 have hd':d<E.nt:=by rw[hG.nt]; simpa[Nat.blt_eq] using hnt
 obtain⟨kt,kd,hT⟩:=mapIn_ok hG.ti hm
 obtain⟨info,hi,hz⟩:=hz
 obtain⟨b,es,clock,e1,e2,l1,r1,hM⟩:=r.w.hp.obj _ _ (look_mem hob)
 have hxv:=ev_ok r hx
 have hkv:=(ev_ok r hk).key hT.d
 obtain⟨u,hu⟩:∃ u,a.eval x=u:=⟨_,rfl⟩
 obtain⟨kv,hkv'⟩:∃ u,a.eval kx=u:=⟨_,rfl⟩
 rw[hu]at hxv; rw[hkv']at hkv
 cases hxv with
 | map hg=>
  rw[e1]at hg; injection hg with hg; injection hg with hg; subst hg
  have hrun:=run_lookup (P:=P) hT hkv e2 (hM.kinds (by simp) k) hi hz
  have hf:=hM.found k
  have hex:∀ v',(Instr.lookup t (.map (some b)) kv false).run P w = .ok v' w→(execOp a.eval o).run P w = .ok (.value v') w:=by
   intro v' hv'
   unfold execOp
   simp[hop,hu,hkv',hv']
  rcases hrun with⟨h2,hnk⟩ | ⟨e,he,hke,h2⟩
  ·cases hlk:mlook v k with
   | none=>exact⟨_,_,w,_,hex _ h2,.inl rfl,by rw[hd]; exact⟨F,g,r.put hd' (constPV_ok hzp F g w)⟩,h0 hlk⟩
   | some c=>obtain⟨_,e0,he0,hk0⟩:=hf.2 c hlk; exact absurd hk0 (hnk e0 he0)
  ·obtain⟨c,hlk,hmem⟩:=hM.hasKey he hke
   exact⟨_,_,w,_,hex _ h2,.inl rfl,by rw[hd]; exact⟨F,g,r.put hd' (fv_fn hmem)⟩,h1 c hlk⟩
theorem lookf_ok(hI:TIok P I.ti){t ob et:Nat}(v:List (K×Nat))(k:K)(hm:mapIn I.ti t (MKey.kT k)=some et)(hz:ZeroIs P et .nilFunc){c:Nat}(hc:mlook v k=some c):
  LookOk P t [.map ob,.t (MKey.kT k)] (.fn (.func c) 0 []) [(ob,.mp none (eM (fun c=>.d (.fv c)) v) none)]:=by
 intro F g w u kv x y hxy hxv hkv0 hH
 cases hxy
 obtain⟨kt,kd,hT⟩:=mapIn_ok hI hm
 obtain⟨info,hi,hz⟩:=hz
 obtain⟨b,es,clock,e1,e2,l1,r1,hM⟩:=hH _ (List.mem_singleton.2 rfl)
 have hkv:=hkv0.key hT.d
 cases hxv with
 | map hg=>
  rw[e1]at hg; injection hg with hg; injection hg with hg; subst hg
  have hrun:=run_lookup (P:=P) hT hkv e2 (hM.kinds (by simp) k) hi hz
  have hf:=hM.found k
  rcases hrun with⟨h2,hnk⟩ | ⟨e,he,hke,h2⟩
  ·obtain⟨_,e0,he0,hk0⟩:=hf.2 c hc
   exact absurd hk0 (hnk e0 he0)
  ·obtain⟨c',hlk,hmem⟩:=hM.hasKey he hke
   rw[hc]at hlk
   cases hlk
   exact⟨_,h2,fv_fn hmem⟩
theorem Le.filld{o:Nat}{it:Option Iter}{eD:V→T}(v:List (K×V))(k:K)(c:V){p:PV}(hp:∀ F g w v,VR F g w p v→VR F g w (.t (eD c)) v)(hl:look st.hp o=some (.mp it (eM (fun c=>.d (eD c)) (mdel v k)) (some (MKey.kT k,some p)))):
  Le E st { st with hp:=(o,.mp it (eM (fun c=>.d (eD c)) (mput v k c)) none)::del o st.hp }:=by
 refine Le.objF _ hl (fun F g w h=>?_) (fun g w x h=>?_)
 ·obtain⟨b,es,clock,e1,e2,l1,r1,hM⟩:=h
  obtain⟨e,hr,hk,hv⟩:=hM.hole
  have hv:=hp _ _ _ _ hv
  subst hr
  have hM':MpR F g w b es clock it ((MKey.kT k,Mem.d (eD c))::eM (fun c=>.d (eD c)) (mdel v k)) none (e::l1) []:=by
   refine⟨?_,.cons ⟨hk,hv.cells_t rfl⟩ hM.ent,rfl,?_,hM.born,hM.old,?_,hM.it⟩
   ·rw[List.append_nil]
    exact(List.perm_append_comm (l₁:=[e]) (l₂:=l1)).trans hM.perm
   ·have:=hM.keys
    simp only[hoK,List.map_cons,List.append_nil]at this ⊢
    exact(List.Perm.nodup_iff (List.perm_append_comm (l₁:=[MKey.kT k]) (l₂:=(eM (fun c=>Mem.d (eD c)) (mdel v k)).map (·.1)))).2 this
   ·intro i j x y e1 e2 c' hx hy h1 h2 hne ho
    have:x.2.owned=false:=by
     cases i with
     | zero=>simp at hx; subst hx; rfl
     | succ i=>
      have:=List.mem_of_getElem? (show (eM (fun c=>Mem.d (eD c)) (mdel v k))[i]? = some x by simpa using hx)
      simp only[eM,List.mem_map]at this
      obtain⟨p,_,rfl⟩:=this
      rfl
    rw[this]at ho; cases ho
  obtain⟨l2,hM2⟩:=hM'.permM (eM_put (enc:=fun c=>Mem.d (eD c)) v k c)
  exact⟨b,es,clock,e1,e2,l2,[],hM2⟩
 ·cases h with
  | self h=>exact .self h
  | iter h=>exact .iter h
  | mem h1 h2 h3 h4 h5 h6 h7=>
   simp only[eM,List.mem_map]at h4
   obtain⟨p,_,rfl⟩:=h4
   cases h6
end
section
variable {P:Program} {E:Env} {I:Inf} {st:St} {a:Act} {w:World} {K V:Type} [MKey K]
theorem AllR.remap{α β γ:Type}{R:β→γ→Prop}{R':β→γ→Prop}{f f':α→β}:∀ {v:List α} {l:List γ},AllR R (v.map f) l→(∀ p e,p∈v→e∈l→R (f p) e→R' (f' p) e)→AllR R' (v.map f') l
 | [],_,h,_=>by cases h; exact .nil
 | p::v,_,h,hr=>by
  cases h with
  | cons h t=>exact .cons (hr p _ (by simp) (by simp) h) (AllR.remap t fun q e hq he=>hr q e (List.mem_cons_of_mem _ hq) (List.mem_cons_of_mem _ he))
theorem Le.gapd{o:Nat}{it:Option Iter}{eD:V→T}(v:List (K×V))(k:K)(c:V)(hlk:mlook v k=some c)(hl:look st.hp o=some (.mp it (eM (fun c=>.d (eD c)) v) none)):
  Le E st { st with hp:=(o,.mp it (eM (fun c=>.d (eD c)) (mdel v k)) (some (MKey.kT k,some (.t (eD c)))))::del o st.hp }:=by
 refine Le.objF _ hl (fun F g w h=>?_) (fun g w c' h=>?_)
 ·obtain⟨b,es,clock,e1,e2,l1,r1,hM⟩:=h
  refine⟨b,es,clock,e1,e2,?_⟩
  obtain⟨hp,_⟩:=(hM.found k).2 c hlk
  obtain⟨l2,hM2⟩:=hM.permM hp
  obtain⟨e,l',_,_,_,_,h⟩:=hM2.focus (g':=g) (p:=some (.t (eD c))) (fun q hq u hu _=>by cases hq; exact .t hu) hM.it
  exact⟨_,_,h⟩
 ·cases h with
  | self h=>exact .self h
  | iter h=>exact .iter h
  | mem h1 h2 h3 h4 h5 h6 h7=>
   refine .mem h1 h2 h3 ?_ h5 h6 h7
   simp only[eM,mdel,List.mem_map,List.mem_filter]at h4 ⊢
   obtain⟨p,⟨hp,_⟩,rfl⟩:=h4
   exact⟨p,hp,rfl⟩
theorem RelG.fzmap{F:Nat→Prop}{g:Nat→Value}(r:RelG E F g st a w){o:Nat}{it:Option Iter}{e:TypeId}{s:Nat}{nn:V→Nat}{ff:V→Nat→List T}{eD:V→T}(v:List (K×V))(hv:∀ c,(eD c).view=some (nn c,ff c))
  (hl:look st.hp o=some (.mp it (eM (fun c=>.row e s (nn c) (ff c)) v) none)):Rel E { st with hp:=(o,.mp it (eM (fun c=>.d (eD c)) v) none)::del o st.hp } a w:=by
 have hlm:=look_mem hl
 obtain⟨b0,es,clock,e1,e2,l1,r1,hM⟩:=r.w.hp.obj _ _ hlm
 let M:Nat→Prop:=fun b=>∃ en x,en∈es.toList∧x∈eM (fun c=>.row e s (nn c) (ff c)) v∧KeyR x.1 en.key∧blk en.val=some b
 have hfoot:∀ b,M b→Foot g w o (.mp it (eM (fun c=>.row e s (nn c) (ff c)) v) none) b:=by
  rintro b ⟨en,x,h1,h2,h3,h4⟩
  refine .mem e1 e2 h1 h2 h3 ?_ h4
  simp only[eM,List.mem_map]at h2
  obtain⟨p,_,rfl⟩:=h2
  rfl
 have hcell:∀ b,M b→∃ vs ty,w.heap[b]? = some (.cells vs ty (0,0)):=by
  rintro b ⟨en,x,h1,h2,h3,h4⟩
  obtain⟨⟨_,hR⟩,_⟩:=hM.entry h2 h1 h3
  simp only[eM,List.mem_map]at h2
  obtain⟨p,_,rfl⟩:=h2
  rcases hR with⟨h5,_⟩ | ⟨b',cap,cur,h5,h6,_⟩
  ·rw[h5]at h4; simp[blk]at h4
  ·rw[h5]at h4; simp[blk]at h4; subst h4; exact⟨_,_,h6⟩
 have hnew:∀ b,Foot g w o (.mp it (eM (fun c=>.d (eD c)) v) none) b→Foot g w o (.mp it (eM (fun c=>.row e s (nn c) (ff c)) v) none) b∧¬ M b:=by
  intro b h
  cases h with
  | self h=>
   refine⟨.self h,fun hm=>?_⟩
   obtain⟨vs,ty,hc⟩:=hcell b hm
   rw[e1]at h; simp[blk]at h; subst h
   rw[e2]at hc; cases hc
  | @iter i _ _ _ h=>
   refine⟨.iter h,fun hm=>?_⟩
   obtain⟨vs,ty,hc⟩:=hcell b hm
   obtain⟨rr,since,seen,c0,g1,g2,_⟩:=hM.it
   rw[g1]at h; simp[blk]at h; subst h
   rw[g2]at hc; cases hc
  | mem h1 h2 h3 h4 h5 h6 h7=>
   simp only[eM,List.mem_map]at h4
   obtain⟨p,_,rfl⟩:=h4
   cases h6
 refine⟨fun b=>F b∨M b,g,r.nt,r.df,fun t x hx=>(r.fr t x hx).mono (fun b hb=>⟨.inl hb,rfl⟩) (fun _ _=>rfl),⟨⟨fun k y hy=>?_,fun k y b hy hb=>?_,fun k y k' y' b hy hy' hne hb hb'=>?_⟩,fun b hb=>.inl (r.w.f0 b hb),fun b hb=>?_,r.w.ext,r.w.names,r.w.b0⟩⟩
 ·rcases List.mem_cons.1 hy with he | hy
  ·cases he
   have hr1:=hM.hole
   refine⟨b0,es,clock,e1,e2,l1,r1,hM.perm,?_,hr1,?_,hM.born,hM.old,fun i j x y' e1 e2 c hx hy h1 h2 hne ho=>?_,hM.it⟩
   ·refine AllR.remap hM.ent fun p en hp hen hR=>⟨hR.1,?_⟩
    refine own_rd (g:=fun _=>en.val) (o:=0) (F:=F) (e:=e) (s:=s) hR.2 (fun b hb=>.inl hb) (fun b hb=>.inr ⟨en,_,hM.perm.mem_iff.1 (List.mem_append_left _ hen),List.mem_map_of_mem hp,hR.1,hb⟩) (hv p.2)
   ·have:=hM.keys
    rw[eM_keys]at this ⊢
    exact this
   ·have:=List.mem_of_getElem? hx
    simp only[eM,List.mem_map]at this
    obtain⟨p,_,rfl⟩:=this
    cases ho
  ·exact(r.w.hp.obj k y (mem_del.1 hy).1).mono (fun b hb=>⟨.inl hb,rfl⟩) rfl (fun _ _=>rfl) (fun _ _=>rfl)
 ·rcases List.mem_cons.1 hy with he | hy
  ·cases he
   obtain⟨h1,h2⟩:=hnew b hb
   obtain⟨h3,h4⟩:=r.w.hp.own _ _ b hlm h1
   exact⟨fun h=>h.elim h3 h2,h4⟩
  ·obtain⟨hy1,hy2⟩:=mem_del.1 hy
   obtain⟨h3,h4⟩:=r.w.hp.own _ _ b hy1 hb
   exact⟨fun h=>h.elim h3 fun hm=>r.w.hp.sep k y o _ b hy1 hlm hy2 hb (hfoot b hm),h4⟩
 ·rcases List.mem_cons.1 hy with he | hy
  ·rcases List.mem_cons.1 hy' with he' | hy'
   ·cases he; cases he'; exact hne rfl
   ·cases he
    obtain⟨h1,h2⟩:=mem_del.1 hy'
    exact r.w.hp.sep _ _ k' y' b hlm h1 hne (hnew b hb).1 hb'
  ·obtain⟨h1,h2⟩:=mem_del.1 hy
   rcases List.mem_cons.1 hy' with he' | hy'
   ·cases he'
    exact r.w.hp.sep k y _ _ b h1 hlm hne hb (hnew b hb').1
   ·exact r.w.hp.sep k y k' y' b h1 (mem_del.1 hy').1 hne hb hb'
 ·rcases hb with hb | hb
  ·exact r.w.f1 b hb
  ·obtain⟨vs,ty,hc⟩:=hcell b hb
   have:=(r.w.hp.own _ _ b hlm (hfoot b hb)).2
   exact⟨(Array.getElem?_eq_some_iff.1 hc).1,this.elim (fun h=>.inr (.inl h)) (fun h=>.inr (.inr h))⟩
theorem Le.fzmap{o:Nat}{it:Option Iter}{e:TypeId}{s:Nat}{nn:V→Nat}{ff:V→Nat→List T}{eD:V→T}(v:List (K×V))(hv:∀ c,(eD c).view=some (nn c,ff c))
  (hl:look st.hp o=some (.mp it (eM (fun c=>.row e s (nn c) (ff c)) v) none)):Le E st { st with hp:=(o,.mp it (eM (fun c=>.d (eD c)) v) none)::del o st.hp }:=fun _ _ r=>by
 obtain⟨F,g,r⟩:=r
 exact r.fzmap v hv hl
end
inductive Kf where
 | s (y:Code)
 | b (id:Nat)
inductive Cfg where
 | c (x:Code) (ks:List Kf)
 | o (all l:List Oper) (ks:List Kf)
 | x (e:Exit) (ks:List Kf)
def kQ(P:Program)(E:Env):List Kf→Post→Post
 | [],Q=>Q
 | .s y::ks,Q=>thenQ P E y (kQ P E ks Q)
 | .b id::ks,Q=>blockQ id (kQ P E ks Q)
def cwp(P:Program)(E:Env)(g:Cfg)(Q:Post)(st:St):Prop:=
 match g with
 | .c x ks=>pwp P E x (kQ P E ks Q) st
 | .o all l ks=>pops P E all (kQ P E ks Q) l st
 | .x e ks=>∃ t,Le E st t∧kQ P E ks Q e t
def nrm1:Cfg→Option Cfg
 | .c (.seq a b) ks=>some (.c a (.s b::ks))
 | .c (.block id a) ks=>some (.c a (.b id::ks))
 | .c (.region _ ops false) ks=>some (.o ops.toList ops.toList ks)
 | .c .skip ks=>some (.x .normal ks)
 | .c .ret ks=>some (.x .ret ks)
 | .c (.exit id) ks=>some (.x (.exit id) ks)
 | .o _ [] ks=>some (.x .normal ks)
 | .x .normal (.s y::ks)=>some (.c y ks)
 | .x .normal (.b _::ks)=>some (.x .normal ks)
 | .x .ret (_::ks)=>some (.x .ret ks)
 | .x (.exit i) (.s _::ks)=>some (.x (.exit i) ks)
 | .x (.exit i) (.b j::ks)=>match Nat.beq i j with | true=>some (.x .normal ks) | false=>some (.x (.exit i) ks)
 | _=>none
def nrm:Nat→Cfg→Cfg
 | 0,g=>g
 | n+1,g=>match nrm1 g with | some g'=>nrm n g' | none=>g
def isApp:Op→Bool
 | .call { callee:=.builtin .append,.. }=>true
 | _=>false
def apX(I:Inf)(st:St)(o:Oper):Option (Prop×(Nat→Bool)):=
 match o.op with
 | .call c=>match c.args.toList,c.argTypes.toList with
  | [s,x],[t,_]=>match I.ti t,ev st s,ev st x with
   | some i,some p,some q=>match i.und,appArg st q with
    | .sl e,some (m,f2,_)=>match I.ti e with
     | some j=>match p with
      | .nil=>some ((0+m)*j.bytes≤140737488355328,fun i=>okCells j.size (f2 i))
      | .own o=>match look st.hp o with
       | some (.arr _ _ n _)=>some ((n+m)*j.bytes≤140737488355328,fun i=>okCells j.size (f2 i))
       | _=>none
      | _=>none
     | _=>none
    | _,_=>none
   | _,_,_=>none
  | _,_=>none
 | _=>none
def step2(I:Inf)(all:List Oper)(o:Oper)(st:St):Option (St×List Prop×List (Nat→Bool)):=
 match step1 I all o st with
 | none=>none
 | some (st',C)=>match isApp o.op,wantedP all o st with
  | true,some true=>match apX I st o with | some (p,f)=>some (st',[p],[f]) | none=>none
  | _,_=>some (st',C,[])
def run(I:Inf):Nat→Cfg→St→Option (Cfg×St×List Prop×List (Nat→Bool))
 | 0,g,st=>some (nrm 300 g,st,[],[])
 | n+1,g,st=>match nrm 300 g with
  | .o all (op::l) ks=>match step2 I all op st with
   | some (st',C,f)=>match run I n (.o all l ks) st' with
    | some (g',st'',C',f')=>some (g',st'',C++C',f++f')
    | none=>none
   | none=>none
  | .c (.cond c x y) ks=>match ev st c with
   | some (.t (.bool true))=>run I n (.c x ks) st
   | some (.t (.bool false))=>run I n (.c y ks) st
   | _=>none
  | _=>none
section
variable {P:Program} {E:Env} {I:Inf} {Q:Post} {st st':St}
theorem cwp_weak{g:Cfg}(h:Le E st st')(hk:cwp P E g Q st'):cwp P E g Q st:=by
 cases g with
 | c x ks=>exact pwp_weak h hk
 | o all l ks=>exact pops_weak h hk
 | x e ks=>obtain⟨t,h1,h2⟩:=hk; exact⟨t,h.trans h1,h2⟩
theorem nrm1_ok{g g':Cfg}(h:nrm1 g=some g')(hk:cwp P E g' Q st):cwp P E g Q st:=by
 unfold nrm1 at h
 split at h
 ·cases h; exact pwp_seq hk
 ·cases h; exact pwp_block hk
 ·rename_i id ops ks
  cases h
  have:ops=ops.toList.toArray:=by simp
  show pwp P E (.region id ops false) _ _
  rw[this]
  exact pwp_region hk
 ·cases h; obtain⟨t,h1,h2⟩:=hk; exact pwp_weak h1 (pwp_skip h2)
 ·cases h; obtain⟨t,h1,h2⟩:=hk; exact pwp_weak h1 (pwp_ret h2)
 ·cases h; obtain⟨t,h1,h2⟩:=hk; exact pwp_weak h1 (pwp_exit h2)
 ·cases h; obtain⟨t,h1,h2⟩:=hk; exact pops_weak h1 (pops_nil h2)
 ·cases h; exact⟨st,Le.refl,then_n hk⟩
 ·cases h; obtain⟨t,h1,h2⟩:=hk; exact⟨t,h1,blk_n h2⟩
 ·rename_i k ks
  cases h; obtain⟨t,h1,h2⟩:=hk
  cases k with
  | s y=>exact⟨t,h1,then_ret h2⟩
  | b id=>exact⟨t,h1,blk_ret h2⟩
 ·cases h; obtain⟨t,h1,h2⟩:=hk; exact⟨t,h1,then_exit h2⟩
 ·rename_i i j ks
  split at h
  ·rename_i hij
   cases h; obtain⟨t,h1,h2⟩:=hk
   have:=Nat.eq_of_beq_eq_true hij
   subst this
   exact⟨t,h1,blk_hit h2⟩
  ·rename_i hij
   cases h; obtain⟨t,h1,h2⟩:=hk
   exact⟨t,h1,blk_miss (Nat.ne_of_beq_eq_false hij) h2⟩
 ·cases h
theorem nrm_ok:∀ {n:Nat} {g:Cfg},cwp P E (nrm n g) Q st→cwp P E g Q st
 | 0,_,h=>h
 | n+1,g,h=>by
  simp only[nrm]at h
  split at h
  ·rename_i g' hg; exact nrm1_ok hg (nrm_ok h)
  ·exact h
theorem apX_ok{all:List Oper}{o:Oper}{C:List Prop}{p:Prop}{f:Nat→Bool}(ha:isApp o.op=true)(h:step1 I all o st=some (st',C))(hw:wantedP all o st=some true)(hx:apX I st o=some (p,f))(hp:p)(hf:∀ i,f i=true):All C:=by
 obtain⟨dst,op,ty,pos,aft,gd⟩:=o
 cases op with
 | call c=>
  obtain⟨callee,args,argTypes⟩:=c
  cases callee with
  | builtin b=>
   cases b with
   | append=>
    unfold step1 at h
    simp only[hw]at h
    have hs:∃ C0,stepM I st { dst:=dst,op:=.call { callee:=.builtin .append,args:=args,argTypes:=argTypes },type:=ty,pos:=pos,after:=aft,guard:=gd }=some (st',C0)∧C=[C0]:=by
     split at h
     ·rename_i st1 C0 hs
      cases h
      exact⟨C0,hs,rfl⟩
     ·cases h
    obtain⟨C0,hs,rfl⟩:=hs
    show C0
    unfold stepM at hs
    unfold apX at hx
    cases dst with
    | none=>simp at hs
    | some d=>
     simp only at hs hx
     split at hs
     case h_2=>cases hs
     rename_i s x t t' h1 h2
     rw[h1,h2]at hx
     simp only at hx
     split at hs
     case h_2=>cases hs
     rename_i i p0 q0 _ h3 h4 h5
     rw[h3,h4,h5]at hx
     simp only at hx
     split at hs
     case h_2=>cases hs
     rename_i e m f2 s2 h6 h7
     rw[h6,h7]at hx
     simp only at hx
     split at hs
     case h_2=>cases hs
     rename_i j h8
     rw[h8]at hx
     simp only at hx
     split at hs
     case h_2=>cases hs
     cases p0 with
     | nil=>
      simp only at hs hx
      cases hx
      split at hs
      ·cases hs; exact⟨hp,fun i _=>hf i⟩
      ·cases hs
     | own oo=>
      simp only at hs hx
      split at hs
      case h_2=>cases hs
      rename_i e' s' n f1 st1 h9 h10
      rw[h9]at hx
      simp only at hx
      cases hx
      split at hs
      ·cases hs; exact⟨hp,fun i _=>hf i⟩
      ·cases hs
     | _=>simp at hs
   | _=>cases ha
  | _=>cases ha
 | _=>cases ha
theorem step2_ok(hG:Good P E I){all l:List Oper}{o:Oper}{C:List Prop}{fs:List (Nat→Bool)}(h:step2 I all o st=some (st',C,fs))(hC:All C)(hf:∀ f,f∈fs→∀ i,f i=true)
  (hk:pops P E all Q l st'):pops P E all Q (o::l) st:=by
 unfold step2 at h
 split at h
 ·cases h
 ·rename_i st1 C1 hs
  have:st1=st'∧All C1:=by
   split at h
   ·rename_i hw
    rename_i ha
    split at h
    ·rename_i p f hx
     cases h
     exact⟨rfl,apX_ok ha hs hw hx hC (hf f (by simp))⟩
    ·cases h
   ·cases h; exact⟨rfl,hC⟩
  obtain⟨rfl,hC1⟩:=this
  intro a w r
  exact step1_ok hG (ops:=all.toArray) (by simpa using hs) hC1 r hk
theorem run_ok(hG:Good P E I):∀ {n:Nat} {g g':Cfg} {st st':St} {C:List Prop} {fs:List (Nat→Bool)},run I n g st=some (g',st',C,fs)→All C→(∀ f,f∈fs→∀ i,f i=true)→cwp P E g' Q st'→cwp P E g Q st
 | 0,g,g',st,st',C,fs,h,_,_,hk=>by
  simp only[run,Option.some.injEq,Prod.mk.injEq]at h
  obtain⟨rfl,rfl,_⟩:=h
  exact nrm_ok hk
 | n+1,g,g',st,st',C,fs,h,hC,hf,hk=>by
  simp only[run]at h
  split at h
  ·rename_i all op l ks hg
   split at h
   ·rename_i st1 C1 f1 hs
    split at h
    ·rename_i g2 st2 C2 f2 hr
     cases h
     rw[All.append]at hC
     refine nrm_ok (n:=300) ?_
     rw[hg]
     exact step2_ok hG hs hC.1 (fun f hm=>hf f (List.mem_append_left _ hm)) (run_ok hG hr hC.2 (fun f hm=>hf f (List.mem_append_right _ hm)) hk)
    ·cases h
   ·cases h
  ·rename_i c x y ks hg
   refine nrm_ok (n:=300) ?_
   rw[hg]
   split at h
   ·rename_i hc
    exact pwp_cond (b:=true) hc (fun _=>run_ok hG h hC hf hk) (fun e=>by cases e)
   ·rename_i hc
    exact pwp_cond (b:=false) hc (fun e=>by cases e) (fun _=>run_ok hG h hC hf hk)
   ·cases h
  ·cases h
end
structure Conv {α:Type}(f:Nat→Option α)(g:Option α):Prop where
 mono:∀ n y,f n=some y→f (n+1)=some y
 lim:∀ y,g=some y↔∃ n,f n=some y
theorem Conv.uniq{α:Type}{f:Nat→Option α}{g g':Option α}(h:Conv f g)(h':Conv f g'):g=g':=by
 cases hg:g with
 | none=>
  cases hg':g' with
  | none=>rfl
  | some y=>rw[(h.lim y).2 ((h'.lim y).1 hg')]at hg; cases hg
 | some y=>exact((h'.lim y).2 ((h.lim y).1 hg)).symm
theorem Conv.of_run{α:Type}{f:Nat→Option α}{g:Option α}(h:Conv f g)(n:Nat){y:α}(hy:f n=some y):g=some y:=(h.lim y).2 ⟨n,hy⟩
theorem Conv.run{α:Type}{f:Nat→Option α}{g:Option α}(h:Conv f g){y:α}(hy:g=some y):∃ n,f n=some y:=(h.lim y).1 hy
open Classical in
noncomputable def Lim {α:Type}(f:Nat→Option α):Option α:=if h:∃ y n,f n=some y then some h.choose else none
theorem Lim.conv{α:Type}{f:Nat→Option α}(hm:∀ n y,f n=some y→f (n+1)=some y):Conv f (Lim f):=by
 have hle:∀ {n m:Nat},n≤m→∀ {y:α},f n=some y→f m=some y:=by
  intro n m h
  induction h with
  | refl=>exact fun h=>h
  | step _ ih=>exact fun h=>hm _ _ (ih h)
 refine⟨hm,fun y=>?_⟩
 unfold Lim
 split
 ·rename_i h
  have hc:=h.choose_spec
  constructor
  ·intro e; cases e; exact hc
  ·rintro⟨n,hn⟩
   obtain⟨m,hm'⟩:=hc
   have h1:=hle (Nat.le_max_left n m) hn
   have h2:=hle (Nat.le_max_right n m) hm'
   rw[h1]at h2; cases h2; rfl
 ·rename_i h
  constructor
  ·intro e; cases e
  ·rintro⟨n,hn⟩; exact absurd ⟨y,n,hn⟩ h
theorem iterM_mono{S R:Type}{b:S→Option (S⊕R)}{n:Nat}{s:S}{r:R}(h:iterM b n s=some r):iterM b (n+1) s=some r:=by
 induction n generalizing s with
 | zero=>simp[iterM]at h
 | succ n ih=>
  rw[iterM]at h ⊢
  cases hb:b s with
  | none=>simp[hb]at h
  | some x=>
   cases x with
   | inl s'=>simp only[hb]at h ⊢; exact ih h
   | inr r'=>simp only[hb]at h ⊢; exact h
noncomputable def whileM {S R:Type}(b:S→Option (S⊕R))(s:S):Option R:=Lim fun n=>iterM b n s
theorem whileM_conv{S R:Type}(b:S→Option (S⊕R))(s:S):Conv (fun n=>iterM b n s) (whileM b s):=Lim.conv fun _ _ h=>iterM_mono h
theorem whileM_eq{S R:Type}(b:S→Option (S⊕R))(s:S):whileM b s=match b s with | none=>none | some (.inl s')=>whileM b s' | some (.inr r)=>some r:=by
 have hc:=whileM_conv b s
 cases hb:b s with
 | none=>
  simp only
  cases hw:whileM b s with
  | none=>rfl
  | some y=>obtain⟨n,hn⟩:=hc.run hw; cases n <;> simp[iterM,hb]at hn
 | some x=>
  cases x with
  | inr r=>exact hc.of_run 1 (by simp[iterM,hb])
  | inl s'=>
   simp only
   have hc':=whileM_conv b s'
   cases hw:whileM b s' with
   | some y=>obtain⟨n,hn⟩:=hc'.run hw; exact hc.of_run (n+1) (by simp[iterM,hb,hn])
   | none=>
    cases hv:whileM b s with
    | none=>rfl
    | some y=>
     obtain⟨n,hn⟩:=hc.run hv
     cases n with
     | zero=>simp[iterM]at hn
     | succ n=>simp only[iterM,hb]at hn; rw[hc'.of_run n hn]at hw; cases hw
theorem whileM_next{S R:Type}{b:S→Option (S⊕R)}{s s':S}(h:b s=some (.inl s')):whileM b s=whileM b s':=by rw[whileM_eq,h]
theorem whileM_stop{S R:Type}{b:S→Option (S⊕R)}{s:S}{r:R}(h:b s=some (.inr r)):whileM b s=some r:=by rw[whileM_eq,h]
theorem iterM_whileM{S R:Type}{b:S→Option (S⊕R)}{n:Nat}{s:S}{r:R}(h:iterM b n s=some r):whileM b s=some r:=(whileM_conv b s).of_run n h
inductive VT:Type 1 where
 | ok
 | eq {A:Type} (x:A)
 | and (x y:VT)
 | all {A:Type} (f:A→VT)
def pk{A:Type}(b:Bool)(x y:A):A:=match b with | true=>x | false=>y
def vt{A:Type}(b:Bool)(x y:A):VT:=.eq (pk b x y)
def bad(b:Bool):VT:=.eq b
theorem vt_ok{A:Type}{x y:A}(h:vt true x y=vt false x y):x=y:=by
 injection h
theorem bad_ok(h:bad true=bad false):False:=by
 injection h with _ h; cases h
theorem and_ok{a b c d:VT}(h:VT.and a b=VT.and c d):a=c∧b=d:=by
 injection h with h1 h2; exact⟨h1,h2⟩
theorem all_ok{A:Type}{f g:A→VT}(h:VT.all f=VT.all g)(s:A):f s=g s:=by
 injection h with _ h; exact congrFun h s
class Cur (S:Type) where
 all:(S→VT)→VT
 ok:∀ f g,all f=all g→∀ s,f s=g s
instance (S:Type):Cur S:=⟨fun f=>.all f,fun _ _ h=>all_ok h⟩
instance (A B:Type)[Cur B]:Cur (A×B):=⟨fun f=>.all fun a=>Cur.all fun b=>f (a,b),fun _ _ h s=>Cur.ok _ _ (all_ok h s.1) s.2⟩
instance (A B:Type)[Cur A][Cur B]:Cur (A⊕B):=⟨fun f=>.and (Cur.all fun a=>f (.inl a)) (Cur.all fun b=>f (.inr b)),fun _ _ h s=>by
 obtain⟨h1,h2⟩:=and_ok h
 cases s with
 | inl a=>exact Cur.ok _ _ h1 a
 | inr b=>exact Cur.ok _ _ h2 b⟩
instance:Cur Unit:=⟨fun f=>f (),fun _ _ h _=>h⟩
def part{α:Type}[Inhabited α](xs:List α)(lo n:Nat):List α:=(List.range n).map fun j=>xs.getD (lo+j) default
inductive Sg (α:Type) where
 | al (xs:List α)
 | pt (xs:List α) (lo n:Nat)
def Sg.n{α:Type}:Sg α→Nat | .al xs=>xs.length | .pt _ _ n=>n
def Sg.f{α:Type}[Inhabited α](c:α→List T):Sg α→Nat→List T | .al xs=>eF c xs | .pt xs lo _=>fun k=>eF c xs (lo+k)
def Sg.l{α:Type}[Inhabited α]:Sg α→List α | .al xs=>xs | .pt xs lo n=>part xs lo n
def sgNF{α:Type}[Inhabited α](c:α→List T):Nat×(Nat→List T)→List (Sg α)→Nat×(Nat→List T)
 | p,[]=>p
 | p,a::l=>sgNF c (p.1+a.n,appF p.1 p.2 (a.f c)) l
def sgL{α:Type}[Inhabited α]:List α→List (Sg α)→List α
 | p,[]=>p
 | p,a::l=>sgL (p++a.l) l
theorem Sg.ok{α:Type}[Inhabited α](c:α→List T)(a:Sg α):a.n=a.l.length∧∀ i,i<a.n→a.f c i=eF c a.l i:=by
 cases a with
 | al xs=>exact⟨rfl,fun _ _=>rfl⟩
 | pt xs lo n=>
  refine⟨by simp[Sg.n,Sg.l,part],fun i hi=>?_⟩
  simp only[Sg.n]at hi
  simp[Sg.f,Sg.l,part,eF,List.getD_eq_getElem?_getD,hi]
theorem sgNF_ok{α:Type}[Inhabited α](c:α→List T):∀ (l:List (Sg α)) {p:Nat×(Nat→List T)} {q:List α},p.1=q.length→(∀ i,i<p.1→p.2 i=eF c q i) →
  (sgNF c p l).1=(sgL q l).length∧∀ i,i<(sgNF c p l).1→(sgNF c p l).2 i=eF c (sgL q l) i
 | [],_,_,h1,h2=>⟨h1,h2⟩
 | a::l,p,q,h1,h2=>by
  refine sgNF_ok c l ?_ fun i hi=>?_
  ·simp only[List.length_append,h1,(Sg.ok c a).1]
  ·simp only[appF]
   simp only at hi
   rw[←row_app c q a.l i (by rw[←h1,←(Sg.ok c a).1]; exact hi)]
   unfold appF
   rw[←h1]
   split
   ·rename_i h; exact h2 i h
   ·rename_i h; exact(Sg.ok c a).2 _ (by omega)
inductive Cv:Type 1 where
 | fr (o:Nat) (x:T)
 | rn (o o':Nat)
 | th (t o e s:Nat) (f:Nat→List T)
 | thc (b j o e s:Nat) (f:Nat→List T)
 | sl (t:Nat) (x:T)
 | bx (o:Nat) (l:List T)
 | li {α:Type} [Inhabited α] (o:Nat) (c:α→List T) (xs:List α)
 | ap {α:Type} [Inhabited α] (o:Nat) (c:α→List T) (xs ys:List α)
 | apl {α:Type} [Inhabited α] (o:Nat) (c:α→List T) (xs ys:List α)
 | sg {α:Type} [Inhabited α] (o:Nat) (c:α→List T) (a:Sg α) (l:List (Sg α))
 | ni (o:Nat)
 | nc (o:Nat)
 | fz {K V:Type} [MKey K] (o e s:Nat) (nn:V→Nat) (ff:V→Nat→List T) (eD:V→T) (v:List (K×V))
 | kp (ts os:List Nat)
 | gp {K V:Type} [MKey K] (o:Nat) (enc:V→Mem) (v:List (K×V)) (k:K)
 | fb {K V:Type} [MKey K] (o q:Nat) (eB:V→List T) (v:List (K×V)) (k:K) (c:V)
 | fw {K V:Type} [MKey K] (o q e s:Nat) (nn:V→Nat) (ff:V→Nat→List T) (v:List (K×V)) (k:K) (c:V)
 | fd {K V:Type} [MKey K] (o:Nat) (eD:V→T) (v:List (K×V)) (k:K) (c:V)
def zlen(x:T):Option Nat:=match x.view with | some (n,_)=>some n | none=>none
def slE(b:Bool)(n:Nat)(f:Nat→List T)(m:Nat)(g:Nat→List T):VT:=.and (vt b m n) (vt b ((List.range n).map f) ((List.range n).map g))
def cellsV(b:Bool):List PV→List T→VT
 | [],[]=>.ok
 | .nil::l,x::r=>.and (vt b (zlen x) (some 0)) (cellsV b l r)
 | .t (.sl n f)::l,.sl m g::r=>.and (slE b n f m g) (cellsV b l r)
 | .t (.sl n f)::l,.lz x::r=>.and (slE b n f x.len x.cells) (cellsV b l r)
 | p::l,x::r=>.and (vt b p (.t x)) (cellsV b l r)
 | _,_=>bad b
def slV(b:Bool)(p:PV)(x:T):VT:=
 match p,x with
 | .nil,x=>vt b (zlen x) (some 0)
 | .agg l,.agg r=>cellsV b l r
 | .t (.sl n f),.sl m g=>slE b n f m g
 | .t (.sl n f),.lz x=>slE b n f x.len x.cells
 | .fn (.func k) 0 [],.fv f=>vt b k f
 | p,x=>vt b p (.t x)
def cvS(I:Inf)(c:Cv)(st:St):Option St:=
 match c with
 | .fr o x=>gfreeze o x st
 | .rn o o'=>grn I.N o o' st
 | .th t o e s f=>gthaw I.N t o e s f st
 | .thc b j o e s f=>gthawC I.N b j o e s f st
 | .sl t x=>some { st with fr:=(t,.t x)::del t st.fr }
 | .bx o l=>some { st with hp:=(o,.box (l.map .t))::del o st.hp }
 | @Cv.li _ _ o c xs=>match look st.hp o with | some (.arr e s _ _)=>some { st with hp:=(o,.arr e s xs.length (eF c xs))::del o st.hp } | _=>none
 | @Cv.ap _ _ o c xs ys=>match look st.hp o with | some (.arr e s _ _)=>some { st with hp:=(o,.arr e s (xs++ys).length (eF c (xs++ys)))::del o st.hp } | _=>none
 | @Cv.apl _ _ o c xs ys=>match look st.hp o with | some (.arr e s _ _)=>some { st with hp:=(o,.arr e s (xs++ys).length (eF c (xs++ys)))::del o st.hp } | _=>none
 | @Cv.sg _ _ o c a l=>match look st.hp o with | some (.arr e s _ _)=>some { st with hp:=(o,.arr e s (sgL a.l l).length (eF c (sgL a.l l)))::del o st.hp } | _=>none
 | @Cv.fz _ _ _ o _ _ _ _ eD v=>match look st.hp o with | some (.mp it _ _)=>some { st with hp:=(o,.mp it (eM (fun c=>.d (eD c)) v) none)::del o st.hp } | _=>none
 | .ni o=>match look st.hp o with | some (.mp _ m h)=>some { st with hp:=(o,.mp none m h)::del o st.hp } | _=>none
 | .nc o=>match look st.hp o with | some (.mp (some i) m h)=>some { st with hp:=(o,.mp (some ⟨i.o,i.rem,none⟩) m h)::del o st.hp } | _=>none
 | .kp ts os=>st.keep ts os
 | @Cv.gp _ _ _ o enc v k=>match look st.hp o with | some (.mp it _ _)=>some { st with hp:=(o,.mp it (eM enc (mdel v k)) (some (MKey.kT k,none)))::del o st.hp } | _=>none
 | @Cv.fb _ _ _ o q eB v k c=>match look st.hp o with | some (.mp it _ _)=>gfill o q (.mp it (eM (fun c=>.box (eB c)) (mput v k c)) none) st | _=>none
 | @Cv.fw _ _ _ o q e s nn ff v k c=>match look st.hp o with | some (.mp it _ _)=>gfill o q (.mp it (eM (fun c=>.row e s (nn c) (ff c)) (mput v k c)) none) st | _=>none
 | @Cv.fd _ _ _ o eD v k c=>match look st.hp o with | some (.mp it _ _)=>some { st with hp:=(o,.mp it (eM (fun c=>.d (eD c)) (mput v k c)) none)::del o st.hp } | _=>none
def cvV(b:Bool)(c:Cv)(st:St):VT:=
 match c with
 | .fr o x=>match look st.hp o with | some (.arr _ _ n f)=>vt b (some (n,f)) x.view | _=>bad b
 | .sl t x=>match look st.fr t with | some p=>slV b p x | none=>bad b
 | .bx o l=>match look st.hp o with | some (.box r)=>cellsV b r l | _=>bad b
 | @Cv.li _ _ o c xs=>match look st.hp o with | some (.arr _ _ n f)=>.and (vt b n xs.length) (vt b ((List.range n).map f) ((List.range n).map (eF c xs))) | _=>bad b
 | @Cv.ap _ _ o c xs ys=>match look st.hp o with | some (.arr _ _ n f)=>vt b (n,f) (xs.length+ys.length,appF xs.length (eF c xs) (eF c ys)) | _=>bad b
 | @Cv.apl _ _ o c xs ys=>match look st.hp o with
  | some (.arr _ s n f)=>.and (vt b (n,f) (xs.length+ys.length,appF xs.length (eF c xs) (arrOf (ys.flatMap c) s))) (vt b ((List.range ys.length).map (arrOf (ys.flatMap c) s)) ((List.range ys.length).map (eF c ys)))
  | _=>bad b
 | @Cv.sg _ _ o c a l=>match look st.hp o with | some (.arr _ _ n f)=>vt b (n,f) (sgNF c (a.n,a.f c) l) | _=>bad b
 | @Cv.gp _ _ _ o enc v _=>match look st.hp o with | some (.mp _ m h)=>vt b (m,h) (eM enc v,none) | _=>bad b
 | @Cv.fz _ _ _ o e s nn ff eD v=>match look st.hp o with | some (.mp _ m h)=>.and (vt b (m,h) (eM (fun c=>.row e s (nn c) (ff c)) v,none)) (.all fun c=>vt b (eD c).view (some (nn c,ff c))) | _=>bad b
 | @Cv.fb _ _ _ o q eB v k c=>match look st.hp o,look st.hp q with
  | some (.mp _ m h),some (.box l)=>.and (vt b (m,h) (eM (fun c=>.box (eB c)) (mdel v k),some (MKey.kT k,some (.ptr q 0)))) (vt b l ((eB c).map .t))
  | _,_=>bad b
 | @Cv.fw _ _ _ o q e s nn ff v k c=>match look st.hp o,look st.hp q with
  | some (.mp _ m h),some y=>.and (vt b (m,h) (eM (fun c=>.row e s (nn c) (ff c)) (mdel v k),some (MKey.kT k,some (.own q)))) (vt b y (.arr e s (nn c) (ff c)))
  | _,_=>bad b
 | @Cv.fd _ _ _ o eD v k c=>match look st.hp o with | some (.mp _ m (some (kk,some p)))=>.and (vt b (m,kk) (eM (fun c=>.d (eD c)) (mdel v k),MKey.kT k)) (slV b p (eD c)) | _=>bad b
 | _=>.ok
def cvL(I:Inf):List Cv→St→Option St
 | [],st=>some st
 | c::l,st=>match cvS I c st with | some st'=>cvL I l st' | none=>none
def cvLV(I:Inf)(b:Bool):List Cv→St→VT
 | [],_=>.ok
 | c::l,st=>.and (cvV b c st) (match cvS I c st with | some st'=>cvLV I b l st' | none=>bad b)
section
variable {P:Program} {E:Env} {I:Inf} {st st':St}
theorem map_range{α:Type}{f g:Nat→α}{n:Nat}(h:(List.range n).map f=(List.range n).map g):∀ i,i<n→f i=g i:=by
 intro i hi
 have:=congrArg (·[i]?) h
 simpa[hi] using this
theorem slE_ok{n m:Nat}{f g:Nat→List T}(h:slE true n f m g=slE false n f m g):∀ F q w v,VR F q w (.t (.sl n f)) v→VR F q w (.t (.sl m g)) v:=by
 unfold slE at h
 obtain⟨h1,h2⟩:=and_ok h
 exact le_sl rfl (vt_ok h1) (map_range (vt_ok h2))
theorem cellsV_ok:∀ {l:List PV} {r:List T},cellsV true l r=cellsV false l r→CellsR l r
 | [],[],_=>.nil
 | [],_::_,h=>by simp only[cellsV]at h; exact(bad_ok h).elim
 | p::l,[],h=>by cases p <;> (simp only[cellsV]at h; exact(bad_ok h).elim)
 | p::l,x::r,h=>by
  cases p with
  | nil=>
   simp only[cellsV]at h
   obtain⟨h1,h2⟩:=and_ok h
   have h1:=vt_ok h1
   unfold zlen at h1
   split at h1
   ·rename_i n f hv
    cases h1
    exact .empty hv (cellsV_ok h2)
   ·cases h1
  | t y=>
   cases y with
   | sl n f=>
    cases x with
    | sl m g=>
     simp only[cellsV]at h
     obtain⟨h1,h2⟩:=and_ok h
     exact .imp (slE_ok h1) (cellsV_ok h2)
    | lz z=>
     simp only[cellsV]at h
     obtain⟨h1,h2⟩:=and_ok h
     obtain⟨h3,h4⟩:=and_ok h1
     exact .imp (le_sl (x:=.lz z) rfl (vt_ok h3) (map_range (vt_ok h4))) (cellsV_ok h2)
    | _=>
     simp only[cellsV]at h
     obtain⟨h1,h2⟩:=and_ok h
     have h1:=vt_ok h1
     cases h1
   | _=>
    simp only[cellsV]at h
    obtain⟨h1,h2⟩:=and_ok h
    have h1:=vt_ok h1
    cases h1
    exact .same (cellsV_ok h2)
  | _=>
   simp only[cellsV]at h
   obtain⟨h1,h2⟩:=and_ok h
   have h1:=vt_ok h1
   first
    | (cases h1; exact .same (cellsV_ok h2))
    | (cases h1; done)
theorem fn_fv{F:Nat→Prop}{g:Nat→Value}{w:World}{k:Nat}{v:Value}(h:VR F g w (.fn (.func k) 0 []) v):VR F g w (.t (.fv k)) v:=by
 cases h with
 | @fn _ _ _ us vs hn hs _=>
  have h1:us=#[]:=Array.eq_empty_of_size_eq_zero hn
  have h2:vs=#[]:=Array.eq_empty_of_size_eq_zero (by rw[h1]at hs; simpa using hs)
  subst h1 h2
  exact .t (.fv k)
theorem slV_ok{p:PV}{x:T}(h:slV true p x=slV false p x):∀ F g w v,VR F g w p v→VR F g w (.t x) v:=by
 unfold slV at h
 split at h
 ·have h:=vt_ok h
  unfold zlen at h
  split at h
  ·rename_i n f hv
   cases h
   exact le_nil hv
  ·cases h
 ·exact le_agg (cellsV_ok h)
 ·exact slE_ok h
 ·rename_i z
  obtain⟨h3,h4⟩:=and_ok h
  exact le_sl (x:=.lz z) rfl (vt_ok h3) (map_range (vt_ok h4))
 ·have h:=vt_ok h
  subst h
  exact fun _ _ _ _ hv=>fn_fv hv
 ·have h:=vt_ok h
  subst h
  exact fun _ _ _ _ hv=>hv
theorem cv_ok(hG:Good P E I){c:Cv}(h:cvV true c st=cvV false c st)(hs:cvS I c st=some st'):Le E st st':=by
 cases c with
 | fr o x=>
  simp only[cvV]at h
  split at h
  ·rename_i e s n f hl
   exact Le.freeze x hl (vt_ok h).symm hs
  ·exact(bad_ok h).elim
 | rn o o'=>exact Le.rn hG hs
 | th t o e s f=>exact Le.thaw hG hs
 | thc b j o e s f=>exact Le.thawC hG hs
 | sl t x=>
  simp only[cvV]at h
  split at h
  ·rename_i p hp
   cases hs
   exact Le.slot (.t x) hp (slV_ok h)
  ·exact(bad_ok h).elim
 | bx o l=>
  simp only[cvV]at h
  split at h
  ·rename_i r hp
   cases hs
   exact Le.obj (.box (l.map .t)) hp (fun _ _ _=>le_box (cellsV_ok h)) rfl
  ·exact(bad_ok h).elim
 | li o c xs=>
  simp only[cvV]at h
  split at h
  ·rename_i e s n f hp
   simp only[cvS,hp]at hs
   cases hs
   obtain⟨h1,h2⟩:=and_ok h
   have h1:=vt_ok h1
   have h2:=map_range (vt_ok h2)
   exact Le.obj _ hp (fun _ _ _=>ObjR.row h1 h2) rfl
  ·exact(bad_ok h).elim
 | ap o c xs ys=>
  simp only[cvV]at h
  split at h
  ·rename_i e s n f hp
   simp only[cvS,hp]at hs
   cases hs
   have h1:=vt_ok h
   cases h1
   exact Le.obj _ hp (fun _ _ _=>ObjR.row (by simp) (row_app c xs ys)) rfl
  ·exact(bad_ok h).elim
 | apl o c xs ys=>
  simp only[cvV]at h
  split at h
  ·rename_i e s n f hp
   simp only[cvS,hp]at hs
   cases hs
   obtain⟨h1,h2⟩:=and_ok h
   have h1:=vt_ok h1
   have h2:=map_range (vt_ok h2)
   cases h1
   refine Le.obj _ hp (fun _ _ _=>ObjR.row (by simp) fun i hi=>?_) rfl
   rw[←row_app c xs ys i hi]
   unfold appF
   split
   ·rfl
   ·rename_i hn
    exact h2 _ (by omega)
  ·exact(bad_ok h).elim
 | sg o c a l=>
  simp only[cvV]at h
  split at h
  ·rename_i e s n f hp
   simp only[cvS,hp]at hs
   cases hs
   have h1:=vt_ok h
   have h2:=sgNF_ok c l (p:=(a.n,a.f c)) (q:=a.l) (Sg.ok c a).1 (Sg.ok c a).2
   rw[←h1]at h2
   exact Le.obj _ hp (fun _ _ _=>ObjR.row h2.1 h2.2) rfl
  ·exact(bad_ok h).elim
 | fz o e s nn ff eD v=>
  simp only[cvV]at h
  split at h
  ·rename_i it m ho hl
   simp only[cvS,hl]at hs
   cases hs
   obtain⟨h1,h2⟩:=and_ok h
   have h1:=vt_ok h1
   cases h1
   exact Le.fzmap v (fun c=>vt_ok (all_ok h2 c)) hl
  ·exact(bad_ok h).elim
 | ni o=>
  simp only[cvS]at hs
  split at hs
  ·rename_i it m ho hl
   cases hs
   refine Le.objF _ hl (fun F g w h=>?_) (fun g w c h=>?_)
   ·obtain⟨b,es,clock,e1,e2,l1,r1,hM⟩:=h
    exact⟨b,es,clock,e1,e2,l1,r1,{ hM with it:=trivial }⟩
   ·cases h with
    | self h=>exact .self h
    | mem h1 h2 h3 h4 h5 h6 h7=>exact .mem h1 h2 h3 h4 h5 h6 h7
  ·cases hs
 | nc o=>
  simp only[cvS]at hs
  split at hs
  ·rename_i i m ho hl
   cases hs
   refine Le.objF _ hl (fun F g w h=>?_) (fun g w c h=>?_)
   ·obtain⟨b,es,clock,e1,e2,l1,r1,hM⟩:=h
    obtain⟨r,since,seen,c0,g1,g2,g3,g4,g5,g6,g7,g8⟩:=hM.it
    exact⟨b,es,clock,e1,e2,l1,r1,{ hM with it:=⟨r,since,seen,c0,g1,g2,g3,g4,g5,g6,g7,fun k h=>by cases h⟩ }⟩
   ·cases h with
    | self h=>exact .self h
    | iter h=>exact .iter h
    | mem h1 h2 h3 h4 h5 h6 h7=>exact .mem h1 h2 h3 h4 h5 h6 h7
  ·cases hs
 | kp ts os=>exact Le.keep hs
 | gp o enc v k=>
  simp only[cvV]at h
  split at h
  ·rename_i it m ho hp
   simp only[cvS,hp]at hs
   cases hs
   have h1:=vt_ok h
   cases h1
   exact Le.gap v k hp
  ·exact(bad_ok h).elim
 | fb o q eB v k c=>
  simp only[cvV]at h
  split at h
  ·rename_i it m ho l hp hq
   simp only[cvS,hp]at hs
   obtain⟨h1,h2⟩:=and_ok h
   have h1:=vt_ok h1
   have h2:=vt_ok h2
   cases h1
   subst h2
   exact Le.fillbox v k c hp hq hs
  ·exact(bad_ok h).elim
 | fw o q e s nn ff v k c=>
  simp only[cvV]at h
  split at h
  ·rename_i it m ho l hp hq
   simp only[cvS,hp]at hs
   obtain⟨h1,h2⟩:=and_ok h
   have h1:=vt_ok h1
   have h2:=vt_ok h2
   cases h1
   subst h2
   exact Le.fillrow v k c hp hq hs
  ·exact(bad_ok h).elim
 | fd o eD v k c=>
  simp only[cvV]at h
  split at h
  ·rename_i it m kk p hp
   simp only[cvS,hp]at hs
   cases hs
   obtain⟨h1,h2⟩:=and_ok h
   have h1:=vt_ok h1
   cases h1
   exact Le.filld v k c (slV_ok h2) hp
  ·exact(bad_ok h).elim
theorem cvL_ok(hG:Good P E I):∀ {l:List Cv} {st st':St},cvLV I true l st=cvLV I false l st→cvL I l st=some st'→Le E st st'
 | [],st,st',_,hs=>by cases hs; exact .refl
 | c::l,st,st',h,hs=>by
  simp only[cvLV]at h
  simp only[cvL]at hs
  obtain⟨h1,h2⟩:=and_ok h
  split at hs
  ·rename_i st1 h3
   rw[h3]at h2
   exact(cv_ok hG h1 h3).trans (cvL_ok hG h2 hs)
  ·cases hs
end
structure Con (P:Program)(k:Nat)(args:List PV){R:Type}(x:Option R)(ret:R→PV):Prop where
 c:Callable P k
 h:∀ y,x=some y→PCall P k args [] [] (Ret (ret y))
structure ConH (P:Program)(k:Nat)(args:List PV)(Hs:Hp)(N:List Nat){R:Type}(x:Option R)(ret:R→PV)(Ht:R→Hp):Prop where
 c:Callable P k
 h:∀ y,x=some y→PCall P k args Hs N (RetH (ret y) (Ht y))
def bytesI(s:ByteArray):List Int:=s.data.toList.map fun b=>(b.toNat:Int)
inductive Tr (P:Program):Type→Type 1 where
 | ret {Y:Type} (n:Nat) (y:Y):Tr P Y
 | ite {Y:Type} (n:Nat) (c:Bool) (t e:Tr P Y):Tr P Y
 | grd {Y:Type} (n:Nat) (p:Prop) [Decidable p] (t:Tr P Y):Tr P Y
 | gd {Y:Type} (n:Nat) (p:Prop) (h:p) (t:Tr P Y):Tr P Y
 | cv {Y:Type} (n:Nat) (l:List Cv) (t:Tr P Y):Tr P Y
 | no {Y:Type}:Tr P Y
 | ca {Y R:Type} (n:Nat) {k:Nat} {bps:List PV} {x:Option R} {ret:R→PV} (h:Con P k bps x ret) (B:R→Tr P Y):Tr P Y
 | cas {Y:Type} (n:Nat) {k:Nat} {bps:List PV} {x:Option Nat} {ret:Nat→PV} (h:Con P k bps x ret) (m:Nat) (B:Nat→Tr P Y):Tr P Y
 | ch {Y R:Type} [Cur R] (n:Nat) {k:Nat} {bps:List PV} {Hs:Hp} {N:List Nat} {x:Option R} {ret:R→PV} {Ht:R→Hp} (nw:List Nat) (h:ConH P k bps Hs N x ret Ht) (B:R→Tr P Y):Tr P Y
 | jn {Y S:Type} [Cur S] (n m:Nat) (tm:S→St) (A:Tr P S) (B:S→Tr P Y):Tr P Y
 | pc {Y S:Type} [Cur S] (n m:Nat) (tm:S→St) (A:Tr P (S⊕Y)) (B:S→Tr P Y):Tr P Y
 | lp {Y S R:Type} [Cur S] [Cur R] (n:Nat) (tm:S→St) (bt:R→St) (ex:Nat) (s0:S) (L:S→Tr P (S⊕(R⊕Y))) (B:R→Tr P Y):Tr P Y
 | sp {Y:Type} (n:Nat) (t:Nat) (r m:Int) (a e:Tr P Y):Tr P Y
 | slc {Y α:Type} [Inhabited α] (n:Nat) (t:Nat) (c:α→List T) (xs:List α) (lo hi:Int) (k:Tr P Y):Tr P Y
 | sto {Y α:Type} [Inhabited α] (n:Nat) (o:Nat) (c:α→List T) (xs:List α) (l:List (Nat×α)) (k:Tr P Y):Tr P Y
 | cut {Y α:Type} [Inhabited α] (n:Nat) (c:α→List T) (xs:List α) (hi:Int) (k:Tr P Y):Tr P Y
 | clr {Y α:Type} [Inhabited α] (n:Nat) (c:α→List T) (xs:List α) (lo:Int) (k:Tr P Y):Tr P Y
 | apz {Y α:Type} [Inhabited α] (n:Nat) (c:α→List T) (byt:Nat) (m:Int) (k:Tr P Y):Tr P Y
 | mks {Y α:Type} [Inhabited α] (n:Nat) (c:α→List T) (byt:Nat) (l m:Int) (k:Tr P Y):Tr P Y
 | abl {Y:Type} (n:Nat) (e:Nat) (k:Tr P Y):Tr P Y
 | aps {Y:Type} (n:Nat) (xs:List Int) (s:ByteArray) (k:Tr P Y):Tr P Y
 | bs {Y α:Type} [Inhabited α] (n:Nat) (own:Bool) (c:α→List T) (xs:List α) (t:Tr P Y):Tr P Y
 | ndb {Y:Type} (n m:Nat) (a e:Tr P Y):Tr P Y
 | dc {Y R:Type} (j:Nat) (as:List PV) {k:Nat} {bps:List PV} {x:Option R} {ret:R→PV} (h:Con P k bps x ret) (B:R→Tr P Y):Tr P Y
 | dch {Y R:Type} (j:Nat) (as:List PV) {k:Nat} {bps:List PV} {Hs:Hp} {N:List Nat} {x:Option R} {ret:R→PV} {Ht:R→Hp} (h:ConH P k bps Hs N x ret Ht) (ch:R→Option (Nat×PObj)) (B:R→Tr P Y):Tr P Y
 | dl {Y:Type} (j:Nat) (c:Bool) (t e:Tr P Y):Tr P Y
 | dg {Y:Type} (j:Nat) (p:Prop) [Decidable p] (t:Tr P Y):Tr P Y
 | dr {Y:Type} (n e:Nat) (ol:OL) (ts:List Nat) (t:Tr P Y):Tr P Y
 | mk {Y K V:Type} [MKey K] (n:Nat) (enc:V→Mem) (t:Tr P Y):Tr P Y
 | mlen {Y K V:Type} [MKey K] (n:Nat) (enc:V→Mem) (v:List (K×V)) (t:Tr P Y):Tr P Y
 | lkb {Y K V:Type} [MKey K] (n:Nat) (eB:V→List T) (v:List (K×V)) (k:K) (t0:Tr P Y) (t1:V→Tr P Y):Tr P Y
 | lkr {Y K V:Type} [MKey K] (n e s:Nat) (nn:V→Nat) (ff:V→Nat→List T) (dflt:V) (v:List (K×V)) (k:K) (t:Tr P Y):Tr P Y
 | lkd {Y K V:Type} [MKey K] (n:Nat) (zv:Value) (eD:V→T) (v:List (K×V)) (k:K) (t0:Tr P Y) (t1:V→Tr P Y):Tr P Y
 | dcn {Y R:Type} (j d:Nat) (as:List PV) {k:Nat} {bps:List PV} {Hs:Hp} {N:List Nat} {x:Option R} {ret:R→PV} {Ht:R→Hp} (h:ConH P k bps Hs N x ret Ht) (B:R→Tr P Y):Tr P Y
 | dcm {Y R:Type} (j d:Nat) (as:List PV) {k:Nat} {bps:List PV} {Hs:Hp} {N:List Nat} {x:Option R} {ret:R→PV} {Ht:R→Hp} (h:ConH P k bps Hs N x ret Ht) (B:R→Tr P Y):Tr P Y
 | dap {Y:Type} (j:Nat) {n:Nat} {f:Nat→List T} {x:T} (h:∀ F g w v,VR F g w (.t (.sl n f)) v→VR F g w (.t x) v) (t:Tr P Y):Tr P Y
 | dlk {Y K:Type} [MKey K] (j ty ob:Nat) (v:List (K×Nat)) (k:K) (t1:Nat→Tr P Y):Tr P Y
 | lkf {Y:Type} (n:Nat) (v:List (Int×Nat)) (k:Int) (t0:Tr P Y) (t1:Nat→Tr P Y):Tr P Y
 | upd {Y K V:Type} [MKey K] (n:Nat) (enc:V→Mem) (v:List (K×V)) (k:K) (t:Tr P Y):Tr P Y
 | dlt {Y K V:Type} [MKey K] (n:Nat) (enc:V→Mem) (v:List (K×V)) (k:K) (hp:Option PV) (t:Tr P Y):Tr P Y
 | rng {Y K V:Type} [MKey K] (n:Nat) (enc:V→Mem) (v:List (K×V)) (t:Tr P Y):Tr P Y
 | nxb {Y K V:Type} [MKey K] (n:Nat) (eB:V→List T) (v:List (K×V)) (rem:List K) (t0:Tr P Y) (t1:K→V→Tr P Y):Tr P Y
 | nxr {Y K V:Type} [MKey K] (n e s:Nat) (nn:V→Nat) (ff:V→Nat→List T) (v:List (K×V)) (rem:List K) (t0:Tr P Y) (t1:K→V→Tr P Y):Tr P Y
 | nxd {Y K V:Type} [MKey K] (n:Nat) (eD:V→T) (v:List (K×V)) (rem:List K) (t0:Tr P Y) (t1:K→V→Tr P Y):Tr P Y
def sel{S Y β:Type _}(f:S→β)(g:Y→β):S⊕Y→β
 | .inl v=>f v
 | .inr y=>g y
namespace Tr
variable {P:Program}
noncomputable def den:{Y:Type}→Tr P Y→Option Y
 | _,.ret _ y=>some y
 | _,.ite _ c t e=>if c=true then t.den else e.den
 | _,@grd _ _ _ p _ t=>if p then t.den else none
 | _,.gd _ _ _ t=>t.den
 | _,.cv _ _ t=>t.den
 | _,.no=>none
 | _,@ca _ _ _ _ _ _ x _ _ B=>x.bind fun r=>(B r).den
 | _,@cas _ _ _ _ _ x _ _ m B=>x.bind fun r=>if r<m then (B r).den else none
 | _,@ch _ _ _ _ _ _ _ _ _ x _ _ _ _ B=>x.bind fun r=>(B r).den
 | _,@jn _ _ _ _ _ _ _ A B=>A.den.bind fun v=>(B v).den
 | _,@pc _ _ _ _ _ _ _ A B=>A.den.bind (sel (fun v=>(B v).den) some)
 | _,@lp _ _ _ _ _ _ _ _ _ _ s0 L B=>(whileM (fun s=>(L s).den) s0).bind (sel (fun r=>(B r).den) some)
 | _,.sp _ _ r m a e=>if r=m then a.den else e.den
 | _,@slc _ _ _ _ _ _ _ xs lo hi k=>if 0≤lo∧lo≤hi∧hi≤(xs.length:Int) then k.den else none
 | _,@sto _ _ _ _ _ _ _ xs l k=>if (l.all fun p=>decide (p.1<xs.length))=true then k.den else none
 | _,@cut _ _ _ _ _ _ xs hi k=>if 0≤hi∧hi≤(xs.length:Int) then k.den else none
 | _,@clr _ _ _ _ _ _ xs lo k=>if 0≤lo∧lo≤(xs.length:Int) then k.den else none
 | _,@apz _ _ _ _ _ _ byt m k=>if 0≤m∧m.toNat*byt≤140737488355328 then k.den else none
 | _,@mks _ _ _ _ _ _ byt l m k=>if (0≤l∧l≤m)∧m.toNat*byt≤140737488355328 then k.den else none
 | _,.abl _ _ k=>k.den
 | _,.aps _ xs s k=>if xs.length+s.size≤140737488355328 then k.den else none
 | _,@bs _ _ _ _ _ _ _ _ t=>t.den
 | _,.ndb _ _ _ _=>none
 | _,@dc _ _ _ _ _ _ _ x _ _ B=>x.bind fun r=>(B r).den
 | _,@dch _ _ _ _ _ _ _ _ _ x _ _ _ _ B=>x.bind fun r=>(B r).den
 | _,.dl _ c t e=>if c=true then t.den else e.den
 | _,@dg _ _ _ p _ t=>if p then t.den else none
 | _,.dr _ _ _ _ t=>t.den
 | _,@mk _ _ _ _ _ _ _ t=>t.den
 | _,@mlen _ _ _ _ _ _ _ _ t=>t.den
 | _,@lkb _ _ _ _ _ _ _ v k t0 t1=>match mlook v k with | none=>t0.den | some c=>(t1 c).den
 | _,@lkr _ _ _ _ _ _ _ _ _ _ _ _ _ t=>t.den
 | _,@lkd _ _ _ _ _ _ _ _ v k t0 t1=>match mlook v k with | none=>t0.den | some c=>(t1 c).den
 | _,@dcn _ _ _ _ _ _ _ _ _ _ x _ _ _ B=>x.bind fun r=>(B r).den
 | _,@dcm _ _ _ _ _ _ _ _ _ _ x _ _ _ B=>x.bind fun r=>(B r).den
 | _,.dap _ _ t=>t.den
 | _,@dlk _ _ _ _ _ _ _ v k t1=>(mlook v k).bind fun c=>(t1 c).den
 | _,.lkf _ v k t0 t1=>match mlook v k with | none=>t0.den | some c=>(t1 c).den
 | _,@upd _ _ _ _ _ _ _ _ _ t=>t.den
 | _,@dlt _ _ _ _ _ _ _ _ _ _ t=>t.den
 | _,@rng _ _ _ _ _ _ _ _ t=>t.den
 | _,@nxb _ _ _ _ _ _ _ _ _ _ _=>none
 | _,@nxr _ _ _ _ _ _ _ _ _ _ _ _ _ _=>none
 | _,@nxd _ _ _ _ _ _ _ _ _ _ _=>none
def LoopT{S R:Type}(b:S→(S⊕R→Prop)→Prop)(Q:R→Prop)(s:S):Prop:=∀ X:S→Prop,(∀ s,b s (sel X Q)→X s)→X s
def wpT:{Y:Type}→Tr P Y→(Y→Prop)→Prop
 | _,.ret _ y,Q=>Q y
 | _,.ite _ c t e,Q=>if c=true then t.wpT Q else e.wpT Q
 | _,@grd _ _ _ p _ t,Q=>p∧t.wpT Q
 | _,.gd _ _ _ t,Q=>t.wpT Q
 | _,.cv _ _ t,Q=>t.wpT Q
 | _,.no,_=>False
 | _,@ca _ _ _ _ _ _ x _ _ B,Q=>∃ r,x=some r∧(B r).wpT Q
 | _,@cas _ _ _ _ _ x _ _ m B,Q=>∃ r,x=some r∧r<m∧(B r).wpT Q
 | _,@ch _ _ _ _ _ _ _ _ _ x _ _ _ _ B,Q=>∃ r,x=some r∧(B r).wpT Q
 | _,@jn _ _ _ _ _ _ _ A B,Q=>A.wpT fun v=>(B v).wpT Q
 | _,@pc _ _ _ _ _ _ _ A B,Q=>A.wpT (sel (fun v=>(B v).wpT Q) Q)
 | _,@lp _ _ _ _ _ _ _ _ _ _ s0 L B,Q=>LoopT (fun s Z=>(L s).wpT Z) (sel (fun r=>(B r).wpT Q) Q) s0
 | _,.sp _ _ r m a e,Q=>if r=m then a.wpT Q else e.wpT Q
 | _,@slc _ _ _ _ _ _ _ xs lo hi k,Q=>(0≤lo∧lo≤hi∧hi≤(xs.length:Int))∧k.wpT Q
 | _,@sto _ _ _ _ _ _ _ xs l k,Q=>(l.all fun p=>decide (p.1<xs.length))=true∧k.wpT Q
 | _,@cut _ _ _ _ _ _ xs hi k,Q=>(0≤hi∧hi≤(xs.length:Int))∧k.wpT Q
 | _,@clr _ _ _ _ _ _ xs lo k,Q=>(0≤lo∧lo≤(xs.length:Int))∧k.wpT Q
 | _,@apz _ _ _ _ _ _ byt m k,Q=>(0≤m∧m.toNat*byt≤140737488355328)∧k.wpT Q
 | _,@mks _ _ _ _ _ _ byt l m k,Q=>((0≤l∧l≤m)∧m.toNat*byt≤140737488355328)∧k.wpT Q
 | _,.abl _ _ k,Q=>k.wpT Q
 | _,.aps _ xs s k,Q=>xs.length+s.size≤140737488355328∧k.wpT Q
 | _,@bs _ _ _ _ _ _ _ _ t,Q=>t.wpT Q
 | _,.ndb _ m a e,Q=>(m=0→a.wpT Q)∧e.wpT Q
 | _,@dc _ _ _ _ _ _ _ x _ _ B,Q=>∃ r,x=some r∧(B r).wpT Q
 | _,@dch _ _ _ _ _ _ _ _ _ x _ _ _ _ B,Q=>∃ r,x=some r∧(B r).wpT Q
 | _,.dl _ c t e,Q=>if c=true then t.wpT Q else e.wpT Q
 | _,@dg _ _ _ p _ t,Q=>p∧t.wpT Q
 | _,.dr _ _ _ _ t,Q=>t.wpT Q
 | _,@mk _ _ _ _ _ _ _ t,Q=>t.wpT Q
 | _,@mlen _ _ _ _ _ _ _ _ t,Q=>t.wpT Q
 | _,@lkb _ _ _ _ _ _ _ v k t0 t1,Q=>match mlook v k with | none=>t0.wpT Q | some c=>(t1 c).wpT Q
 | _,@lkr _ _ _ _ _ _ _ _ _ _ _ _ _ t,Q=>t.wpT Q
 | _,@lkd _ _ _ _ _ _ _ _ v k t0 t1,Q=>match mlook v k with | none=>t0.wpT Q | some c=>(t1 c).wpT Q
 | _,@dcn _ _ _ _ _ _ _ _ _ _ x _ _ _ B,Q=>∃ r,x=some r∧(B r).wpT Q
 | _,@dcm _ _ _ _ _ _ _ _ _ _ x _ _ _ B,Q=>∃ r,x=some r∧(B r).wpT Q
 | _,.dap _ _ t,Q=>t.wpT Q
 | _,@dlk _ _ _ _ _ _ _ v k t1,Q=>∃ c,mlook v k=some c∧(t1 c).wpT Q
 | _,.lkf _ v k t0 t1,Q=>match mlook v k with | none=>t0.wpT Q | some c=>(t1 c).wpT Q
 | _,@upd _ _ _ _ _ _ _ _ _ t,Q=>t.wpT Q
 | _,@dlt _ _ _ _ _ _ _ _ _ _ t,Q=>t.wpT Q
 | _,@rng _ _ _ _ _ _ _ _ t,Q=>t.wpT Q
 | _,@nxb _ _ _ _ _ _ _ v rem t0 t1,Q=>(rem=[]→t0.wpT Q)∧(∀ k c,k∈rem→mlook v k=some c→(t1 k c).wpT Q)∧(rem≠[]→∃ k c,k∈rem∧mlook v k=some c)
 | _,@nxr _ _ _ _ _ _ _ _ _ _ v rem t0 t1,Q=>(rem=[]→t0.wpT Q)∧(∀ k c,k∈rem→mlook v k=some c→(t1 k c).wpT Q)∧(rem≠[]→∃ k c,k∈rem∧mlook v k=some c)
 | _,@nxd _ _ _ _ _ _ _ v rem t0 t1,Q=>(rem=[]→t0.wpT Q)∧(∀ k c,k∈rem→mlook v k=some c→(t1 k c).wpT Q)∧(rem≠[]→∃ k c,k∈rem∧mlook v k=some c)
theorem LoopT.mono{S R:Type}{b:S→(S⊕R→Prop)→Prop}(hb:∀ s {Q Q':S⊕R→Prop},(∀ z,Q z→Q' z)→b s Q→b s Q'){Q Q':R→Prop}(hq:∀ r,Q r→Q' r){s:S}(h:LoopT b Q s):LoopT b Q' s:=by
 intro X hX
 exact h X fun s hs=>hX s (hb s (fun z hz=>by cases z with | inl s'=>exact hz | inr r=>exact hq _ hz) hs)
theorem LoopT.unfold{S R:Type}{b:S→(S⊕R→Prop)→Prop}(hb:∀ s {Q Q':S⊕R→Prop},(∀ z,Q z→Q' z)→b s Q→b s Q'){Q:R→Prop}{s:S}:
  LoopT b Q s↔b s (sel (LoopT b Q) Q):=by
 have h1:∀ s,b s (sel (LoopT b Q) Q)→LoopT b Q s:=by
  intro s h X hX
  exact hX s (hb s (fun z hz=>by cases z with | inl s'=>exact hz X hX | inr r=>exact hz) h)
 refine⟨fun h=>h (fun s=>b s (sel (LoopT b Q) Q)) fun s hs=>?_,h1 s⟩
 exact hb s (fun z hz=>by cases z with | inl s'=>exact h1 _ hz | inr r=>exact hz) hs
theorem wpT_mono{Y:Type}(t:Tr P Y):∀ {Q Q':Y→Prop},(∀ y,Q y→Q' y)→t.wpT Q→t.wpT Q':=by
 induction t with
 | ret n y=>exact fun hq h=>hq _ h
 | ite n c t e iht ihe=>intro Q Q' hq h; simp only[wpT]at h ⊢; split <;> simp_all <;> first | exact iht hq h | exact ihe hq h
 | grd n p t ih=>exact fun hq h=>⟨h.1,ih hq h.2⟩
 | gd n p h t ih=>exact fun hq h=>ih hq h
 | cv n l t ih=>exact fun hq h=>ih hq h
 | no=>exact fun _ h=>h
 | ca n h B ih=>rintro Q Q' hq ⟨r,h1,h2⟩; exact⟨r,h1,ih r hq h2⟩
 | cas n h m B ih=>rintro Q Q' hq ⟨r,h1,h2,h3⟩; exact⟨r,h1,h2,ih r hq h3⟩
 | ch n nw h B ih=>rintro Q Q' hq ⟨r,h1,h2⟩; exact⟨r,h1,ih r hq h2⟩
 | jn n m tm A B ihA ihB=>exact fun hq h=>ihA (fun v hv=>ihB v hq hv) h
 | pc n m tm A B ihA ihB=>exact fun hq h=>ihA (fun z hz=>by cases z with | inl v=>exact ihB v hq hz | inr y=>exact hq _ hz) h
 | lp n tm bt ex s0 L B ihL ihB=>exact fun hq h=>LoopT.mono (fun s _ _ hz=>ihL s hz) (fun z hz=>by cases z with | inl v=>exact ihB v hq hz | inr y=>exact hq _ hz) h
 | sp n t r m a e iha ihe=>intro Q Q' hq h; simp only[wpT]at h ⊢; split <;> simp_all <;> first | exact iha hq h | exact ihe hq h
 | slc n t c xs lo hi k ih=>exact fun hq h=>⟨h.1,ih hq h.2⟩
 | sto n o c xs l k ih=>exact fun hq h=>⟨h.1,ih hq h.2⟩
 | cut n c xs hi k ih=>exact fun hq h=>⟨h.1,ih hq h.2⟩
 | clr n c xs lo k ih=>exact fun hq h=>⟨h.1,ih hq h.2⟩
 | apz n c byt m k ih=>exact fun hq h=>⟨h.1,ih hq h.2⟩
 | mks n c byt l m k ih=>exact fun hq h=>⟨h.1,ih hq h.2⟩
 | abl n e k ih=>exact fun hq h=>ih hq h
 | aps n xs s k ih=>exact fun hq h=>⟨h.1,ih hq h.2⟩
 | bs n own c xs t ih=>exact fun hq h=>ih hq h
 | ndb n m a e iha ihe=>exact fun hq h=>⟨fun hm=>iha hq (h.1 hm),ihe hq h.2⟩
 | dc j as h B ih=>rintro Q Q' hq ⟨r,h1,h2⟩; exact⟨r,h1,ih r hq h2⟩
 | dch j as h ch B ih=>rintro Q Q' hq ⟨r,h1,h2⟩; exact⟨r,h1,ih r hq h2⟩
 | dl n c t e iht ihe=>intro Q Q' hq h; simp only[wpT]at h ⊢; split <;> simp_all <;> first | exact iht hq h | exact ihe hq h
 | dg n p t ih=>exact fun hq h=>⟨h.1,ih hq h.2⟩
 | dr n e ol ts t ih=>exact fun hq h=>ih hq h
 | mk n enc t ih=>exact fun hq h=>ih hq h
 | mlen n enc v t ih=>exact fun hq h=>ih hq h
 | lkb n eB v k t0 t1 ih0 ih1=>intro Q Q' hq h; simp only[wpT]at h ⊢; split <;> simp_all <;> first | exact ih0 hq h | exact ih1 _ hq h
 | lkr n e s nn ff d v k t ih=>exact fun hq h=>ih hq h
 | lkd n zv eD v k t0 t1 ih0 ih1=>intro Q Q' hq h; simp only[wpT]at h ⊢; split <;> simp_all <;> first | exact ih0 hq h | exact ih1 _ hq h
 | dcn j d as h B ih=>rintro Q Q' hq ⟨r,h1,h2⟩; exact⟨r,h1,ih r hq h2⟩
 | dcm j d as h B ih=>rintro Q Q' hq ⟨r,h1,h2⟩; exact⟨r,h1,ih r hq h2⟩
 | dap j h0 t ih=>exact fun hq h=>ih hq h
 | dlk j ty ob v k t1 ih=>rintro Q Q' hq ⟨c,h1,h2⟩; exact⟨c,h1,ih c hq h2⟩
 | lkf n v k t0 t1 ih0 ih1=>intro Q Q' hq h; simp only[wpT]at h ⊢; split <;> simp_all <;> first | exact ih0 hq h | exact ih1 _ hq h
 | upd n enc v k t ih=>exact fun hq h=>ih hq h
 | dlt n enc v k hp t ih=>exact fun hq h=>ih hq h
 | rng n enc v t ih=>exact fun hq h=>ih hq h
 | nxb n eB v rem t0 t1 ih0 ih1=>exact fun hq h=>⟨fun hr=>ih0 hq (h.1 hr),fun k c hk hc=>ih1 k c hq (h.2.1 k c hk hc),h.2.2⟩
 | nxr n e s nn ff v rem t0 t1 ih0 ih1=>exact fun hq h=>⟨fun hr=>ih0 hq (h.1 hr),fun k c hk hc=>ih1 k c hq (h.2.1 k c hk hc),h.2.2⟩
 | nxd n eD v rem t0 t1 ih0 ih1=>exact fun hq h=>⟨fun hr=>ih0 hq (h.1 hr),fun k c hk hc=>ih1 k c hq (h.2.1 k c hk hc),h.2.2⟩
theorem LoopT.of_while{S R:Type}{b:S→(S⊕R→Prop)→Prop}{f:S→Option (S⊕R)}(hf:∀ s z,f s=some z→∀ Q:S⊕R→Prop,Q z→b s Q){s:S}{r:R}(h:whileM f s=some r){Q:R→Prop}(hq:Q r):LoopT b Q s:=by
 obtain⟨n,hn⟩:=(whileM_conv f s).run h
 induction n generalizing s with
 | zero=>simp[iterM]at hn
 | succ n ih=>
  simp only[iterM]at hn
  cases hs:f s with
  | none=>simp[hs]at hn
  | some z=>
   simp only[hs]at hn
   cases z with
   | inl s'=>exact fun X hX=>hX s (hf s _ hs _ (ih (iterM_whileM hn) hn X hX))
   | inr r'=>cases hn; exact fun X hX=>hX s (hf s _ hs _ hq)
theorem of_den{Y:Type}(t:Tr P Y):∀ {y:Y} {Q:Y→Prop},t.den=some y→Q y→t.wpT Q:=by
 induction t with
 | ret n y=>intro y' Q h hq; cases h; exact hq
 | ite n c t e iht ihe=>intro y Q h hq; simp only[den,wpT]at h ⊢; split <;> simp_all <;> first | exact iht h hq | exact ihe h hq
 | grd n p t ih=>intro y Q h hq; simp only[den]at h; split at h <;> first | exact⟨by assumption,ih h hq⟩ | cases h
 | gd n p h t ih=>exact fun h hq=>ih h hq
 | cv n l t ih=>exact fun h hq=>ih h hq
 | no=>intro y Q h; cases h
 | ca n h B ih=>intro y Q hd hq; obtain⟨r,h1,h2⟩:=bnd hd; exact⟨r,h1,ih r h2 hq⟩
 | cas n h m B ih=>intro y Q hd hq; obtain⟨r,h1,h2⟩:=bnd hd; split at h2 <;> first | exact⟨r,h1,by assumption,ih r h2 hq⟩ | cases h2
 | ch n nw h B ih=>intro y Q hd hq; obtain⟨r,h1,h2⟩:=bnd hd; exact⟨r,h1,ih r h2 hq⟩
 | jn n m tm A B ihA ihB=>intro y Q hd hq; obtain⟨r,h1,h2⟩:=bnd hd; exact ihA h1 (ihB r h2 hq)
 | pc n m tm A B ihA ihB=>
  intro y Q hd hq; obtain⟨r,h1,h2⟩:=bnd hd
  refine ihA h1 ?_
  cases r with
  | inl v=>exact ihB v h2 hq
  | inr y'=>cases h2; exact hq
 | lp n tm bt ex s0 L B ihL ihB=>
  intro y Q hd hq; obtain⟨r,h1,h2⟩:=bnd hd
  refine LoopT.of_while (f:=fun s=>(L s).den) (fun s z hz Q hQ=>ihL s hz hQ) h1 ?_
  cases r with
  | inl v=>exact ihB v h2 hq
  | inr y'=>cases h2; exact hq
 | sp n t r m a e iha ihe=>intro y Q h hq; simp only[den,wpT]at h ⊢; split <;> simp_all <;> first | exact iha h hq | exact ihe h hq
 | slc n t c xs lo hi k ih=>intro y Q h hq; simp only[den]at h; split at h <;> first | exact⟨by assumption,ih h hq⟩ | cases h
 | sto n o c xs l k ih=>intro y Q h hq; simp only[den]at h; split at h <;> first | exact⟨by assumption,ih h hq⟩ | cases h
 | cut n c xs hi k ih=>intro y Q h hq; simp only[den]at h; split at h <;> first | exact⟨by assumption,ih h hq⟩ | cases h
 | clr n c xs lo k ih=>intro y Q h hq; simp only[den]at h; split at h <;> first | exact⟨by assumption,ih h hq⟩ | cases h
 | apz n c byt m k ih=>intro y Q h hq; simp only[den]at h; split at h <;> first | exact⟨by assumption,ih h hq⟩ | cases h
 | mks n c byt l m k ih=>intro y Q h hq; simp only[den]at h; split at h <;> first | exact⟨by assumption,ih h hq⟩ | cases h
 | abl n e k ih=>exact fun h hq=>ih h hq
 | aps n xs s k ih=>intro y Q h hq; simp only[den]at h; split at h <;> first | exact⟨by assumption,ih h hq⟩ | cases h
 | bs n own c xs t ih=>exact fun h hq=>ih h hq
 | ndb=>intro y Q h; cases h
 | dc j as h B ih=>intro y Q hd hq; obtain⟨r,h1,h2⟩:=bnd hd; exact⟨r,h1,ih r h2 hq⟩
 | dch j as h ch B ih=>intro y Q hd hq; obtain⟨r,h1,h2⟩:=bnd hd; exact⟨r,h1,ih r h2 hq⟩
 | dl n c t e iht ihe=>intro y Q h hq; simp only[den,wpT]at h ⊢; split <;> simp_all <;> first | exact iht h hq | exact ihe h hq
 | dg n p t ih=>intro y Q h hq; simp only[den]at h; split at h <;> first | exact⟨by assumption,ih h hq⟩ | cases h
 | dr n e ol ts t ih=>exact fun h hq=>ih h hq
 | mk n enc t ih=>exact fun h hq=>ih h hq
 | mlen n enc v t ih=>exact fun h hq=>ih h hq
 | lkb n eB v k t0 t1 ih0 ih1=>intro y Q h hq; simp only[den,wpT]at h ⊢; split <;> simp_all <;> first | exact ih0 h hq | exact ih1 _ h hq
 | lkr n e s nn ff d v k t ih=>exact fun h hq=>ih h hq
 | lkd n zv eD v k t0 t1 ih0 ih1=>intro y Q h hq; simp only[den,wpT]at h ⊢; split <;> simp_all <;> first | exact ih0 h hq | exact ih1 _ h hq
 | dcn j d as h B ih=>intro y Q hd hq; obtain⟨r,h1,h2⟩:=bnd hd; exact⟨r,h1,ih r h2 hq⟩
 | dcm j d as h B ih=>intro y Q hd hq; obtain⟨r,h1,h2⟩:=bnd hd; exact⟨r,h1,ih r h2 hq⟩
 | dap j h0 t ih=>exact fun h hq=>ih h hq
 | dlk j ty ob v k t1 ih=>intro y Q hd hq; obtain⟨c,h1,h2⟩:=bnd hd; exact⟨c,h1,ih c h2 hq⟩
 | lkf n v k t0 t1 ih0 ih1=>intro y Q h hq; simp only[den,wpT]at h ⊢; split <;> simp_all <;> first | exact ih0 h hq | exact ih1 _ h hq
 | upd n enc v k t ih=>exact fun h hq=>ih h hq
 | dlt n enc v k hp t ih=>exact fun h hq=>ih h hq
 | rng n enc v t ih=>exact fun h hq=>ih h hq
 | nxb=>intro y Q h; cases h
 | nxr=>intro y Q h; cases h
 | nxd=>intro y Q h; cases h
theorem LoopT.and{S R:Type}{b:S→(S⊕R→Prop)→Prop}(hb:∀ s {Q Q':S⊕R→Prop},(∀ z,Q z→Q' z)→b s Q→b s Q')(ha:∀ s (Q Q':S⊕R→Prop),b s Q→b s Q'→b s (fun z=>Q z∧Q' z))
  {Q Q':R→Prop}{s:S}(h:LoopT b Q s)(h':LoopT b Q' s):LoopT b (fun z=>Q z∧Q' z) s:=by
 refine h (fun s=>LoopT b Q' s→LoopT b (fun z=>Q z∧Q' z) s) (fun s hs hs'=>?_) h'
 rw[LoopT.unfold hb]at hs' ⊢
 refine hb s (fun z hz=>?_) (ha s _ _ hs hs')
 cases z with
 | inl s'=>exact hz.1 hz.2
 | inr r=>exact hz
theorem LoopT.ex{S R:Type}{b:S→(S⊕R→Prop)→Prop}(he:∀ s (Q:S⊕R→Prop),b s Q→∃ z,Q z){Q:R→Prop}{s:S}(h:LoopT b Q s):∃ r,Q r:=by
 refine h (fun _=>∃ r,Q r) fun s hs=>?_
 obtain⟨z,hz⟩:=he s _ hs
 cases z with
 | inl s'=>exact hz
 | inr r=>exact⟨r,hz⟩
theorem wpT_and{Y:Type}(t:Tr P Y):∀ {Q Q':Y→Prop},t.wpT Q→t.wpT Q'→t.wpT (fun y=>Q y∧Q' y):=by
 induction t with
 | ret n y=>exact fun h h'=>⟨h,h'⟩
 | ite n c t e iht ihe=>intro Q Q' h h'; simp only[wpT]at h h' ⊢; split <;> simp_all
 | grd n p t ih=>exact fun h h'=>⟨h.1,ih h.2 h'.2⟩
 | gd n p h t ih=>exact fun h h'=>ih h h'
 | cv n l t ih=>exact fun h h'=>ih h h'
 | no=>exact fun h _=>h
 | ca n h B ih=>rintro Q Q' ⟨r,h1,h2⟩ ⟨r',h1',h2'⟩; rw[h1]at h1'; cases h1'; exact⟨r,h1,ih r h2 h2'⟩
 | cas n h m B ih=>rintro Q Q' ⟨r,h1,h2,h3⟩ ⟨r',h1',h2',h3'⟩; rw[h1]at h1'; cases h1'; exact⟨r,h1,h2,ih r h3 h3'⟩
 | ch n nw h B ih=>rintro Q Q' ⟨r,h1,h2⟩ ⟨r',h1',h2'⟩; rw[h1]at h1'; cases h1'; exact⟨r,h1,ih r h2 h2'⟩
 | jn n m tm A B ihA ihB=>exact fun h h'=>wpT_mono A (fun v hv=>ihB v hv.1 hv.2) (ihA h h')
 | pc n m tm A B ihA ihB=>exact fun h h'=>wpT_mono A (fun z hz=>by cases z with | inl v=>exact ihB v hz.1 hz.2 | inr y=>exact hz) (ihA h h')
 | lp n tm bt ex s0 L B ihL ihB=>
  intro Q Q' h h'
  simp only[wpT]at h h' ⊢
  have h3:=LoopT.and (b:=fun s Z=>(L s).wpT Z) (fun s _ _ hz=>wpT_mono (L s) hz) (fun s _ _ h1 h2=>ihL s h1 h2) h h'
  refine LoopT.mono (b:=fun s Z=>(L s).wpT Z) (fun s _ _ hz=>wpT_mono (L s) hz) (fun z hz=>?_) h3
  cases z with
  | inl v=>exact ihB v hz.1 hz.2
  | inr y=>exact hz
 | sp n t r m a e iha ihe=>intro Q Q' h h'; simp only[wpT]at h h' ⊢; split <;> simp_all
 | slc n t c xs lo hi k ih=>exact fun h h'=>⟨h.1,ih h.2 h'.2⟩
 | sto n o c xs l k ih=>exact fun h h'=>⟨h.1,ih h.2 h'.2⟩
 | cut n c xs hi k ih=>exact fun h h'=>⟨h.1,ih h.2 h'.2⟩
 | clr n c xs lo k ih=>exact fun h h'=>⟨h.1,ih h.2 h'.2⟩
 | apz n c byt m k ih=>exact fun h h'=>⟨h.1,ih h.2 h'.2⟩
 | mks n c byt l m k ih=>exact fun h h'=>⟨h.1,ih h.2 h'.2⟩
 | abl n e k ih=>exact fun h h'=>ih h h'
 | aps n xs s k ih=>exact fun h h'=>⟨h.1,ih h.2 h'.2⟩
 | bs n own c xs t ih=>exact fun h h'=>ih h h'
 | ndb n m a e iha ihe=>exact fun h h'=>⟨fun hm=>iha (h.1 hm) (h'.1 hm),ihe h.2 h'.2⟩
 | dc j as h B ih=>rintro Q Q' ⟨r,h1,h2⟩ ⟨r',h1',h2'⟩; rw[h1]at h1'; cases h1'; exact⟨r,h1,ih r h2 h2'⟩
 | dch j as h ch B ih=>rintro Q Q' ⟨r,h1,h2⟩ ⟨r',h1',h2'⟩; rw[h1]at h1'; cases h1'; exact⟨r,h1,ih r h2 h2'⟩
 | dl n c t e iht ihe=>intro Q Q' h h'; simp only[wpT]at h h' ⊢; split <;> simp_all
 | dg n p t ih=>exact fun h h'=>⟨h.1,ih h.2 h'.2⟩
 | dr n e ol ts t ih=>exact fun h h'=>ih h h'
 | mk n enc t ih=>exact fun h h'=>ih h h'
 | mlen n enc v t ih=>exact fun h h'=>ih h h'
 | lkb n eB v k t0 t1 ih0 ih1=>intro Q Q' h h'; simp only[wpT]at h h' ⊢; split <;> simp_all
 | lkr n e s nn ff d v k t ih=>exact fun h h'=>ih h h'
 | lkd n zv eD v k t0 t1 ih0 ih1=>intro Q Q' h h'; simp only[wpT]at h h' ⊢; split <;> simp_all
 | dcn j d as h B ih=>rintro Q Q' ⟨r,h1,h2⟩ ⟨r',h1',h2'⟩; rw[h1]at h1'; cases h1'; exact⟨r,h1,ih r h2 h2'⟩
 | dcm j d as h B ih=>rintro Q Q' ⟨r,h1,h2⟩ ⟨r',h1',h2'⟩; rw[h1]at h1'; cases h1'; exact⟨r,h1,ih r h2 h2'⟩
 | dap j h0 t ih=>exact fun h h'=>ih h h'
 | dlk j ty ob v k t1 ih=>rintro Q Q' ⟨c,h1,h2⟩ ⟨c',h1',h2'⟩; rw[h1]at h1'; cases h1'; exact⟨c,h1,ih c h2 h2'⟩
 | lkf n v k t0 t1 ih0 ih1=>intro Q Q' h h'; simp only[wpT]at h h' ⊢; split <;> simp_all
 | upd n enc v k t ih=>exact fun h h'=>ih h h'
 | dlt n enc v k hp t ih=>exact fun h h'=>ih h h'
 | rng n enc v t ih=>exact fun h h'=>ih h h'
 | nxb n eB v rem t0 t1 ih0 ih1=>exact fun h h'=>⟨fun hr=>ih0 (h.1 hr) (h'.1 hr),fun k c hk hc=>ih1 k c (h.2.1 k c hk hc) (h'.2.1 k c hk hc),h.2.2⟩
 | nxr n e s nn ff v rem t0 t1 ih0 ih1=>exact fun h h'=>⟨fun hr=>ih0 (h.1 hr) (h'.1 hr),fun k c hk hc=>ih1 k c (h.2.1 k c hk hc) (h'.2.1 k c hk hc),h.2.2⟩
 | nxd n eD v rem t0 t1 ih0 ih1=>exact fun h h'=>⟨fun hr=>ih0 (h.1 hr) (h'.1 hr),fun k c hk hc=>ih1 k c (h.2.1 k c hk hc) (h'.2.1 k c hk hc),h.2.2⟩
theorem wpT_ex{Y:Type}(t:Tr P Y):∀ {Q:Y→Prop},t.wpT Q→∃ y,Q y:=by
 induction t with
 | ret n y=>exact fun h=>⟨y,h⟩
 | ite n c t e iht ihe=>intro Q h; simp only[wpT]at h; split at h <;> first | exact iht h | exact ihe h
 | grd n p t ih=>exact fun h=>ih h.2
 | gd n p h t ih=>exact fun h=>ih h
 | cv n l t ih=>exact fun h=>ih h
 | no=>exact fun h=>h.elim
 | ca n h B ih=>rintro Q ⟨r,h1,h2⟩; exact ih r h2
 | cas n h m B ih=>rintro Q ⟨r,h1,h2,h3⟩; exact ih r h3
 | ch n nw h B ih=>rintro Q ⟨r,h1,h2⟩; exact ih r h2
 | jn n m tm A B ihA ihB=>intro Q h; obtain⟨v,hv⟩:=ihA h; exact ihB v hv
 | pc n m tm A B ihA ihB=>
  intro Q h
  obtain⟨z,hz⟩:=ihA h
  cases z with
  | inl v=>exact ihB v hz
  | inr y=>exact⟨y,hz⟩
 | lp n tm bt ex s0 L B ihL ihB=>
  intro Q h
  obtain⟨z,hz⟩:=LoopT.ex (fun s _ hs=>ihL s hs) h
  cases z with
  | inl v=>exact ihB v hz
  | inr y=>exact⟨y,hz⟩
 | sp n t r m a e iha ihe=>intro Q h; simp only[wpT]at h; split at h <;> first | exact iha h | exact ihe h
 | slc n t c xs lo hi k ih=>exact fun h=>ih h.2
 | sto n o c xs l k ih=>exact fun h=>ih h.2
 | cut n c xs hi k ih=>exact fun h=>ih h.2
 | clr n c xs lo k ih=>exact fun h=>ih h.2
 | apz n c byt m k ih=>exact fun h=>ih h.2
 | mks n c byt l m k ih=>exact fun h=>ih h.2
 | abl n e k ih=>exact fun h=>ih h
 | aps n xs s k ih=>exact fun h=>ih h.2
 | bs n own c xs t ih=>exact fun h=>ih h
 | ndb n m a e iha ihe=>exact fun h=>ihe h.2
 | dc j as h B ih=>rintro Q ⟨r,h1,h2⟩; exact ih r h2
 | dch j as h ch B ih=>rintro Q ⟨r,h1,h2⟩; exact ih r h2
 | dl n c t e iht ihe=>intro Q h; simp only[wpT]at h; split at h <;> first | exact iht h | exact ihe h
 | dg n p t ih=>exact fun h=>ih h.2
 | dr n e ol ts t ih=>exact fun h=>ih h
 | mk n enc t ih=>exact fun h=>ih h
 | mlen n enc v t ih=>exact fun h=>ih h
 | lkb n eB v k t0 t1 ih0 ih1=>intro Q h; simp only[wpT]at h; split at h <;> first | exact ih0 h | exact ih1 _ h
 | lkr n e s nn ff d v k t ih=>exact fun h=>ih h
 | lkd n zv eD v k t0 t1 ih0 ih1=>intro Q h; simp only[wpT]at h; split at h <;> first | exact ih0 h | exact ih1 _ h
 | dcn j d as h B ih=>rintro Q ⟨r,h1,h2⟩; exact ih r h2
 | dcm j d as h B ih=>rintro Q ⟨r,h1,h2⟩; exact ih r h2
 | dap j h0 t ih=>exact fun h=>ih h
 | dlk j ty ob v k t1 ih=>rintro Q ⟨c,h1,h2⟩; exact ih c h2
 | lkf n v k t0 t1 ih0 ih1=>intro Q h; simp only[wpT]at h; split at h <;> first | exact ih0 h | exact ih1 _ h
 | upd n enc v k t ih=>exact fun h=>ih h
 | dlt n enc v k hp t ih=>exact fun h=>ih h
 | rng n enc v t ih=>exact fun h=>ih h
 | nxb n eB v rem t0 t1 ih0 ih1=>
  intro Q h
  by_cases hr:rem=[]
  ·exact ih0 (h.1 hr)
  ·obtain⟨k,c,hk,hc⟩:=h.2.2 hr; exact ih1 k c (h.2.1 k c hk hc)
 | nxr n e s nn ff v rem t0 t1 ih0 ih1=>
  intro Q h
  by_cases hr:rem=[]
  ·exact ih0 (h.1 hr)
  ·obtain⟨k,c,hk,hc⟩:=h.2.2 hr; exact ih1 k c (h.2.1 k c hk hc)
 | nxd n eD v rem t0 t1 ih0 ih1=>
  intro Q h
  by_cases hr:rem=[]
  ·exact ih0 (h.1 hr)
  ·obtain⟨k,c,hk,hc⟩:=h.2.2 hr; exact ih1 k c (h.2.1 k c hk hc)
end Tr
open Classical in
noncomputable def Det {P:Program}{Y:Type}(t:Tr P Y):Option Y:=if h:∃ y,t.wpT (·=y) then some h.choose else none
theorem Det.ok{P:Program}{Y:Type}{t:Tr P Y}{y:Y}(h:Det t=some y):t.wpT (·=y):=by
 unfold Det at h
 split at h
 ·rename_i hh; cases h; exact hh.choose_spec
 ·cases h
theorem Det.eq{P:Program}{Y:Type}{t:Tr P Y}{y:Y}(h:t.wpT (·=y)):Det t=some y:=by
 have hh:∃ y,t.wpT (·=y):=⟨y,h⟩
 unfold Det
 rw[dif_pos hh]
 obtain⟨z,h1,h2⟩:=t.wpT_ex (t.wpT_and h hh.choose_spec)
 rw[←h1,h2]
structure Acc where
 calls:List (Nat×(Nat×List PV×PV×Hp×Option (Nat×PObj)))
 lits:List (Nat×(Bool×Bool))
 conds:List (Nat×List Prop)
def acc0:Acc:=⟨[],[],[]⟩
structure AccOk (P:Program)(a:Acc):Prop where
 c:AnnH P a.calls
 l:LitOk a.lits
 p:CondOk a.conds
def trueFs(fs:List (Nat→Bool)):List (Nat→Bool):=fs.map fun _ _=>true
def asks(b:Bool)(C:List Prop)(fs:List (Nat→Bool))(p:Prop):VT:=.and (vt b (All C) p) (vt b fs (trueFs fs))
def keepV{S:Type}(b:Bool)(tm:S→St)(v:S)(e:Exit)(s:St):VT:=
 match e with | .normal=>vt b (s.keep (keysL (tm v).fr) (keysL (tm v).hp)) (some (tm v)) | _=>bad b
def leaveV{Y:Type}(b:Bool)(lf:Y→Exit→St→VT)(ks:List Kf)(y:Y)(e:Exit)(s:St):VT:=
 match e with
 | .normal=>bad b
 | e=>match nrm 300 (.x e ks) with | .x e' []=>lf y e' s | _=>bad b
def pieceV{S Y:Type}(b:Bool)(tm:S→St)(lf:Y→Exit→St→VT)(ks:List Kf):S⊕Y→Exit→St→VT
 | .inl v=>keepV b tm v
 | .inr y=>leaveV b lf ks y
def brkV{R:Type}(b:Bool)(bt:R→St)(ex:Nat)(r:R)(e:Exit)(s:St):VT:=
 match e with
 | .exit i=>match Nat.beq i ex with | true=>vt b (s.keep (keysL (bt r).fr) (keysL (bt r).hp)) (some (bt r)) | false=>bad b
 | _=>bad b
def loopV{S R Y:Type}(b:Bool)(tm:S→St)(bt:R→St)(ex:Nat)(lf:Y→Exit→St→VT)(ks:List Kf):S⊕(R⊕Y)→Exit→St→VT
 | .inl v=>keepV b tm v
 | .inr (.inl r)=>brkV b bt ex r
 | .inr (.inr y)=>leaveV b lf ks y
def cutG(m:Nat):Cfg→Cfg
 | .c x ks=>.c x (ks.take m)
 | .o all l ks=>.o all l (ks.take m)
 | .x e ks=>.x e (ks.take m)
def restG(m:Nat):Cfg→List Kf
 | .c _ ks=>ks.drop m
 | .o _ _ ks=>ks.drop m
 | .x _ ks=>ks.drop m
def callI(I:Inf)(all:List Oper)(op:Oper)(st:St):Option (Nat×Nat×List PV):=
 match op.op,op.dst,wantedP all op st with
 | .call c,some d,some true=>match c.callee,Nat.blt d I.nt with
  | .value f,true=>match ev st f,evList st c.args.toList with
   | some (.fn (.func k) nf caps),some aps=>some (d,k,caps.take nf++aps++caps.drop nf)
   | _,_=>none
  | _,_=>none
 | _,_,_=>none
def updOf:Op→Option (TypeId×Operand×Operand×Operand)
 | .mapUpdate t m k x=>some (t,m,k,x)
 | .insert t m k x=>some (t,m,k,x)
 | _=>none
theorem updOf_ok{o:Op}{t:TypeId}{m k x:Operand}(h:updOf o=some (t,m,k,x)):o = .mapUpdate t m k x∨o = .insert t m k x:=by
 unfold updOf at h
 split at h <;> first | (cases h; exact .inl rfl) | (cases h; exact .inr rfl) | cases h
def argV(b:Bool)(st:St)(p q:PV):VT:=
 match p,q with
 | .nil,.t x=>vt b (zlen x) (some 0)
 | .own o,.t x=>match look st.hp o with | some (.arr _ _ n f)=>vt b (some (n,f)) x.view | _=>bad b
 | .t (.sl n f),.t (.sl m g)=>.and (vt b n m) (vt b ((List.range n).map f) ((List.range m).map g))
 | .agg l,.t (.agg r)=>cellsV b l r
 | p,q=>vt b p q
def argsV(b:Bool)(st:St):List PV→List PV→VT
 | [],[]=>.ok
 | p::l,q::r=>.and (argV b st p q) (argsV b st l r)
 | _,_=>bad b
def lentL:List PV→List PV→List Nat
 | .own o::l,.t _::r=>o::lentL l r
 | _::l,_::r=>lentL l r
 | _,_=>[]
def ch1:Option (Nat×PObj)→Hp→Bool
 | none,_=>true
 | some (o,_),Hs=>inN o (keysL Hs)
def bsI(I:Inf)(all:List Oper)(op:Oper)(st:St):Option (Nat×Nat×TInf×Nat×List PV):=
 match op.op,op.dst,wantedP all op st with
 | .buildSlice t len parts,some d,some true=>match I.ti t,evParts st parts.toList,Nat.blt d I.nt with
  | some i,some ps,true=>match i.und with
   | .sl e=>match I.ti e with
    | some j=>match Nat.ble (len*j.size) 16777216,Nat.ble 1 j.size,Nat.beq j.zero.length j.size,fillP (fun i=>some (i*j.size,j.size)) (zeroAt j (len*j.size)) ps with
     | true,true,true,some c=>match Nat.beq c.length (len*j.size) with | true=>some (d,e,j,len,c) | false=>none
     | _,_,_,_=>none
    | none=>none
   | _=>none
  | _,_,_=>none
 | _,_,_=>none
def nilI(I:Inf)(all:List Oper)(op:Oper)(st:St):Option (Nat×Bool×Nat):=
 match op.op,op.dst,wantedP all op st with
 | .binOp o t x y _,some d,some true=>match o,I.ti t,ev st x,ev st y,Nat.blt d I.nt with
  | .eql,some i,some (.t (.sl m _)),some .nil,true=>match i.und with | .sl _=>some (d,true,m) | _=>none
  | .neq,some i,some (.t (.sl m _)),some .nil,true=>match i.und with | .sl _=>some (d,false,m) | _=>none
  | .eql,some i,some (.own _),some .nil,true=>match i.und with | .sl _=>some (d,true,0) | _=>none
  | .neq,some i,some (.own _),some .nil,true=>match i.und with | .sl _=>some (d,false,0) | _=>none
  | _,_,_,_,_=>none
 | _,_,_=>none
def sliceI(I:Inf)(t:Nat):Option TInf:=match I.ti t with | some i=>(match i.und with | .sl e=>I.ti e | _=>none) | none=>none
def apzI(I:Inf)(all:List Oper)(op:Oper)(st:St):Option (Nat×Nat×TInf×Int):=
 match op.op,op.dst,wantedP all op st with
 | .call c,some d,some true=>match c.callee,c.args.toList,c.argTypes.toList with
  | .builtin .append,[s,x],[t,t']=>match I.ti t,I.ti t',ev st s,ev st x with
   | some i,some i',some .nil,some (.t (.int .i64 k))=>match i.und,i'.und with
    | .sl e,.int _=>match I.ti e with
     | some j=>match Nat.ble 1 j.size&&(Nat.ble 1 j.bytes&&Nat.beq j.zero.length j.size) with
      | true=>some (d,e,j,k)
      | false=>none
     | none=>none
    | _,_=>none
   | _,_,_,_=>none
  | _,_,_=>none
 | _,_,_=>none
def mksI(I:Inf)(all:List Oper)(op:Oper)(st:St):Option (Nat×Nat×TInf×Int×Int):=
 match op.op,op.dst,wantedP all op st with
 | .makeSlice t l c,some d,some true=>match I.ti t,ev st l,ev st c with
  | some i,some (.t (.int .i64 lv)),some (.t (.int .i64 cv))=>match i.und with
   | .sl e=>match I.ti e with
    | some j=>match Nat.ble 1 j.size&&(Nat.ble 1 j.bytes&&Nat.beq j.zero.length j.size) with
     | true=>some (d,e,j,lv,cv)
     | false=>none
    | none=>none
   | _=>none
  | _,_,_=>none
 | _,_,_=>none
def apsI(I:Inf)(all:List Oper)(op:Oper)(st:St):Option (Nat×Nat×TInf×PV×ByteArray):=
 match op.op,op.dst,wantedP all op st with
 | .call c,some d,some true=>match c.callee,c.args.toList,c.argTypes.toList with
  | .builtin .append,[s,x],[t,t']=>match I.ti t,I.ti t',ev st s,ev st x with
   | some i,some i',some p,some (.t (.str b))=>match i.und,i'.und with
    | .sl e,.str=>match I.ti e with
     | some j=>match Nat.beq j.size 1&&(Nat.beq j.bytes 1&&Nat.beq j.zero.length j.size) with
      | true=>some (d,e,j,p,b)
      | false=>none
     | none=>none
    | _,_=>none
   | _,_,_,_=>none
  | _,_,_=>none
 | _,_,_=>none
def guardT(all:List Oper)(op:Oper):Option Nat:=
 match op.guard with
 | some (j,_)=>match all[j]? with | some oj=>oj.dst | none=>none
 | none=>none
def setB'(st:St)(d:Nat)(v:Bool):St:={ st with fr:=(d,.t (.bool v))::del d st.fr }
def drS(I:Inf)(L l:List Oper)(acc:Acc)(st:St)(ts:List Nat)(ol:OL):St:=
 stP st (canonL st.fr ts) L (linL I L l acc.calls acc.lits st ts ol) ol (fun j=>Nat.blt j l.length)
def drV(P:Program)(I:Inf)(b:Bool)(L l tl:List Oper)(acc:Acc)(st:St)(ts:List Nat)(ol:OL):VT:=
 let lo:=linL I L l acc.calls acc.lits st ts ol
 .and (vt b (wfL L l tl (preG (deps l) []) st ts (canonL st.fr ts) lo ol&&litsB acc.lits lo) true) (.and (vt b (P.follows .mixedOrders) true)
  (vt b (effL I L acc.calls st (canonL st.fr ts) lo ol (preG (deps l) []) 0 l) (expL L acc.calls acc.lits acc.conds st (canonL st.fr ts) lo ol (preG (deps l) []) 0 l)))
def lookI(I:Inf)(all:List Oper)(op:Oper)(st:St):Option (Nat×Nat×Nat×PV):=
 match op.op,op.dst,wantedP all op st with
 | .lookup t x kx false,some d,some true=>match Nat.blt d I.nt,ev st x,ev st kx with
  | true,some (.map ob),some kp=>some (d,t,ob,kp)
  | _,_,_=>none
 | _,_,_=>none
def nextI(I:Inf)(all:List Oper)(op:Oper)(st:St):Option (Nat×Nat):=
 match op.op,op.dst,wantedP all op st with
 | .next x false,some d,some true=>match Nat.blt d I.nt,ev st x with
  | true,some (.ptr di 0)=>some (d,di)
  | _,_=>none
 | _,_,_=>none
def iterOf(di:Nat):Hp→Option Nat
 | []=>none
 | (o,.mp (some i) _ _)::l=>match Nat.beq i.o di with | true=>some o | false=>iterOf di l
 | _::l=>iterOf di l
def allL{K:Type}:List (K×Nat)→(Nat→VT)→VT
 | [],_=>.ok
 | p::l,f=>.and (f p.2) (allL l f)
theorem allL_ok{K:Type}{f g:Nat→VT}:∀ {l:List (K×Nat)},allL l f=allL l g→∀ p,p∈l→f p.2=g p.2
 | [],_,_,hp=>by cases hp
 | q::l,h,p,hp=>by
  obtain⟨h1,h2⟩:=and_ok h
  rcases List.mem_cons.1 hp with rfl | hp
  ·exact h1
  ·exact allL_ok h2 p hp
theorem mlook_in{K V:Type}[MKey K]{v:List (K×V)}{k:K}{c:V}(h:mlook v k=some c):∃ k',(k',c)∈v:=by
 induction v with
 | nil=>cases h
 | cons p v ih=>
  simp only[mlook]at h
  split at h
  ·cases h; exact⟨p.1,List.mem_cons_self⟩
  ·obtain⟨k',hk⟩:=ih h; exact⟨k',List.mem_cons_of_mem _ hk⟩
def newMp(r:PV)(H:Hp):Option (Nat×List (T×Mem)):=match r with
 | .map o=>match look H o with | some (.mp none m none)=>some (o,m) | _=>none
 | _=>none
def dcmB(d o:Nat)(Hs:Hp)(N:List Nat):Bool:=!(inN d (keysL Hs)) && !(inN o (keysL Hs))&&(Hs.all fun e=>noneIn e.2.names [d]) && !(inN d N)&&backIn (.map d) ((d,.mp none [] none)::Hs) (N++[d])
def chk(P:Program)(I:Inf)(b:Bool):{Y:Type}→Tr P Y→(Y→Exit→St→VT)→Acc→Cfg→St→VT
 | _,.ret n y,lf,_,g,st=>match run I n g st with
  | some (.x e [],st',C,fs)=>.and (asks b C fs True) (lf y e st')
  | _=>bad b
 | _,.ite n c t e,lf,acc,g,st=>match run I n g st with
  | some (.c (.cond x u v) ks,st',C,fs)=>.and (asks b C fs True) (.and (vt b (ev st' x) (some (.t (.bool c)))) (.and (chk P I b t lf acc (.c u ks) st') (chk P I b e lf acc (.c v ks) st')))
  | some (.o all (op::l) ks,st',C,fs)=>match guardT all op with
   | some d=>.and (asks b C fs True) (.and (vt b (look st'.fr d) (some (.t (.bool c)))) (.and (chk P I b t lf acc (.o all (op::l) ks) (setB' st' d true)) (chk P I b e lf acc (.o all (op::l) ks) (setB' st' d false))))
   | none=>bad b
  | _=>bad b
 | _,@Tr.grd _ _ n p _ t,lf,acc,g,st=>match run I n g st with
  | some (g',st',C,fs)=>.and (asks b C fs p) (chk P I b t lf acc g' st')
  | none=>bad b
 | _,.gd n p _ t,lf,acc,g,st=>match run I n g st with
  | some (g',st',C,fs)=>.and (asks b C fs p) (chk P I b t lf acc g' st')
  | none=>bad b
 | _,.cv n l t,lf,acc,g,st=>match run I n g st with
  | some (g',st',C,fs)=>.and (asks b C fs True) (.and (cvLV I b l st') (match cvL I l st' with | some st''=>chk P I b t lf acc g' st'' | none=>bad b))
  | none=>bad b
 | _,.no,_,_,_,_=>.ok
 | _,@Tr.ca _ _ _ n k bps _ ret _ B,lf,acc,g,st=>match run I n g st with
  | some (.o all (op::l) ks,st',C,fs)=>match callI I all op st' with
   | some (d,k',as)=>.and (asks b C fs True) (.and (vt b k' k) (.and (argsV b st' as bps) (.all fun r=>.and (vt b (lentOk (lentL as bps) (ret r)) true) (chk P I b (B r) lf acc (.o all l ks) (st'.put d (ret r))))))
   | none=>bad b
  | _=>bad b
 | _,@Tr.cas _ _ n k bps _ ret _ m B,lf,acc,g,st=>match run I n g st with
  | some (.o all (op::l) ks,st',C,fs)=>match callI I all op st' with
   | some (d,k',as)=>.and (asks b C fs True) (.and (vt b k' k) (.and (argsV b st' as bps)
     (Nat.rec (motive:=fun _=>VT) .ok (fun r acc'=>.and (.and (vt b (lentOk (lentL as bps) (ret r)) true) (chk P I b (B r) lf acc (.o all l ks) (st'.put d (ret r)))) acc') m)))
   | none=>bad b
  | _=>bad b
 | _,@Tr.ch _ _ _ cur n k bps Hs N _ ret Ht nw _ B,lf,acc,g,st=>match run I n g st with
  | some (.o all (op::l) ks,st',C,fs)=>match callI I all op st' with
   | some (d,k',as)=>.and (asks b C fs True) (.and (vt b k' k) (.and (argsV b ⟨st'.fr,[]⟩ as bps) (.and (vt b (pickH st'.hp (keysL Hs)) (some Hs)) (.and (vt b (freshIn st' (keysL Hs) I.N nw) true)
     (cur.all fun r=>.and (vt b (backIn (ret r) (Ht r) (N++nw)) true) (chk P I b (B r) lf acc (.o all l ks) (({ fr:=st'.fr,hp:=Ht r++restH st'.hp (keysL Hs) }:St).put d (ret r))))))))
   | none=>bad b
  | _=>bad b
 | _,@Tr.jn _ _ _ cur n m tm A B,lf,acc,g,st=>match run I n g st with
  | some (g',st',C,fs)=>.and (asks b C fs True) (.and (chk P I b A (keepV b tm) acc0 (cutG m g') st') (cur.all fun v=>chk P I b (B v) lf acc (.x .normal (restG m g')) (tm v)))
  | none=>bad b
 | _,@Tr.pc _ _ _ cur n m tm A B,lf,acc,g,st=>match run I n g st with
  | some (g',st',C,fs)=>.and (asks b C fs True) (.and (chk P I b A (pieceV b tm lf (restG m g')) acc0 (cutG m g') st') (cur.all fun v=>chk P I b (B v) lf acc (.x .normal (restG m g')) (tm v)))
  | none=>bad b
 | _,@Tr.lp _ _ _ _ curS curR n tm bt ex s0 L B,lf,acc,g,st=>match run I n g st with
  | some (.c (.loop c) ks,st',C,fs)=>.and (asks b C fs True) (.and (vt b (st'.keep (keysL (tm s0).fr) (keysL (tm s0).hp)) (some (tm s0)))
    (.and (curS.all fun s=>chk P I b (L s) (loopV b tm bt ex lf ks) acc0 (.c c []) (tm s)) (curR.all fun r=>chk P I b (B r) lf acc (.x (.exit ex) ks) (bt r))))
  | _=>bad b
 | _,.sp n t r m a e,lf,acc,g,st=>match run I n g st with
  | some (g',st',C,fs)=>.and (asks b C fs True) (.and (vt b (look st'.fr t) (some (.t (.int .i64 r)))) (.and (chk P I b a lf acc g' { st' with fr:=(t,.t (.int .i64 m))::del t st'.fr }) (chk P I b e lf acc g' st')))
  | none=>bad b
 | _,@Tr.slc _ _ _ i n t c xs lo hi k,lf,acc,g,st=>match run I n g st with
  | some (g',st',C,fs)=>.and (asks b C fs (0≤lo∧lo≤hi∧hi≤(xs.length:Int))) (.and (vt b (look st'.fr t) (some (.t (.sl (hi-lo).toNat (fun j=>@eF _ i c xs (lo.toNat+j))))))
    (chk P I b k lf acc g' { st' with fr:=(t,.t (@eL _ i c ((xs.drop lo.toNat).take (hi-lo).toNat)))::del t st'.fr }))
  | none=>bad b
 | _,@Tr.sto _ _ _ i n o c xs l k,lf,acc,g,st=>match run I n g st with
  | some (g',st',C,fs)=>match look st'.hp o with
   | some (.arr e s n' f)=>.and (asks b C fs True) (.and (vt b (n',f) (xs.length,l.foldl (fun f p=>updF f p.1 (c p.2)) (@eF _ i c xs)))
    (chk P I b k lf acc g' { st' with hp:=(o,.arr e s (l.foldl (fun xs p=>xs.set p.1 p.2) xs).length (@eF _ i c (l.foldl (fun xs p=>xs.set p.1 p.2) xs)))::del o st'.hp }))
   | _=>bad b
  | none=>bad b
 | _,@Tr.cut _ _ _ i n c xs hi k,lf,acc,g,st=>match run I n g st with
  | some (.o all (op::l) ks,st',C,fs)=>match op.op,op.dst,wantedP all op st' with
   | .slice t x lo hx none,some d,some true=>match ev st' x with
    | some (.own q)=>match look st'.hp q,st'.erase q,sliceI I t with
     | some (.arr e s n' f),some st1,some _=>match newP I st1 d (.arr e s hi.toNat f) (.own d) with
      | some s2=>.and (asks b C fs True) (.and (vt b (n',f) (xs.length,@eF _ i c xs)) (.and (vt b (optInt st' 0 lo) (some 0)) (.and (vt b (optInt st' n' hx) (some hi))
        (chk P I b k lf acc (.o all l ks) { s2 with hp:=(d,.arr e s (xs.take hi.toNat).length (@eF _ i c (xs.take hi.toNat)))::del d s2.hp }))))
      | none=>bad b
     | _,_,_=>bad b
    | _=>bad b
   | _,_,_=>bad b
  | _=>bad b
 | _,@Tr.clr _ _ _ i n c xs lo k,lf,acc,g,st=>match run I n g st with
  | some (.o all (o1::o2::l) ks,st',C,fs)=>match o1.op,o1.dst,wantedP all o1 st',o2.op,o2.guard,o2.dst with
   | .slice t x lx none none,some d,some true,.call cl,none,none=>match cl.callee,cl.args.toList,cl.argTypes[0]? with
    | .builtin .clear,[.tmp d'],some t2=>match ev st' x,sliceI I t,Nat.blt d I.nt with
     | some (.own q),some j,true=>match look st'.hp q with
      | some (.arr e s n' f)=>.and (asks b C fs True) (.and (vt b (n',f) (xs.length,@eF _ i c xs)) (.and (vt b (optInt st' 0 lx) (some lo)) (.and (vt b (d',t2) (d,t)) (.and (vt b (j.size,Nat.ble 1 s,Nat.beq j.zero.length j.size,j.zero.all PV.one) (s,true,true,true)) (.and (cellsV b j.zero (c i.default))
        (chk P I b k lf acc (.o all l ks) (({ st' with hp:=(q,.arr e s (xs.take lo.toNat++List.replicate (xs.length-lo.toNat) i.default).length (@eF _ i c (xs.take lo.toNat++List.replicate (xs.length-lo.toNat) i.default)))::del q st'.hp }:St).put d .any)))))))
      | _=>bad b
     | _,_,_=>bad b
    | _,_,_=>bad b
   | _,_,_,_,_,_=>bad b
  | _=>bad b
 | _,@Tr.apz _ _ _ i n c byt m k,lf,acc,g,st=>match run I n g st with
  | some (.o all (op::l) ks,st',C,fs)=>match apzI I all op st' with
   | some (d,e,j,k')=>match newP I st' d (.arr e j.size m.toNat (fun _=>c i.default)) (.own d) with
    | some s2=>.and (asks b C fs True) (.and (vt b (k',j.bytes) (m,byt)) (.and (cellsV b j.zero (c i.default))
      (chk P I b k lf acc (.o all l ks) { s2 with hp:=(d,.arr e j.size (List.replicate m.toNat i.default).length (@eF _ i c (List.replicate m.toNat i.default)))::del d s2.hp })))
    | none=>bad b
   | none=>bad b
  | _=>bad b
 | _,@Tr.mks _ _ _ i n c byt lv cv k,lf,acc,g,st=>match run I n g st with
  | some (.o all (op::l) ks,st',C,fs)=>match mksI I all op st' with
   | some (d,e,j,lv',cv')=>match newP I st' d (.arr e j.size lv.toNat (fun _=>c i.default)) (.own d) with
    | some s2=>.and (asks b C fs True) (.and (vt b (lv',cv',j.bytes) (lv,cv,byt)) (.and (cellsV b j.zero (c i.default))
      (chk P I b k lf acc (.o all l ks) { s2 with hp:=(d,.arr e j.size (List.replicate lv.toNat i.default).length (@eF _ i c (List.replicate lv.toNat i.default)))::del d s2.hp })))
    | none=>bad b
   | none=>bad b
  | _=>bad b
 | _,.abl n e k,lf,acc,g,st=>match run I n g st with
  | some (.o all (op::l) ks,st',C,fs)=>match op.op,op.dst,wantedP all op st' with
   | .alloc t,some d,some true=>match Nat.blt d I.nt,nmem d I.N,st'.erase d,I.ti t with
    | true,true,some st1,some i=>.and (asks b C fs True) (.and (vt b i.zero [.np,.nil]) (chk P I b k lf acc (.o all l ks) (({ st1 with hp:=(d,.bld t e ⟨#[]⟩)::st1.hp }:St).put d (.ptr d 0))))
    | _,_,_,_=>bad b
   | _,_,_=>bad b
  | _=>bad b
 | _,.aps n xs s k,lf,acc,g,st=>match run I n g st with
  | some (.o all (op::l) ks,st',C,fs)=>match apsI I all op st' with
   | some (d,e,j,.nil,s')=>match newP I st' d (.arr e j.size s.size (eF cU8 (bytesI s))) (.own d) with
    | some s2=>.and (asks b C fs True) (.and (vt b s' s) (.and (vt b xs [])
      (chk P I b k lf acc (.o all l ks) { s2 with hp:=(d,.arr e j.size (xs++bytesI s).length (eF cU8 (xs++bytesI s)))::del d s2.hp })))
    | none=>bad b
   | some (d,e,j,.own o,s')=>match look st'.hp o,st'.erase o with
    | some (.arr e' sz n' f),some st1=>match newP I st1 d (.arr e j.size (n'+s.size) (appF n' f (eF cU8 (bytesI s)))) (.own d) with
     | some s2=>.and (asks b C fs True) (.and (vt b s' s) (.and (vt b (e',sz) (e,j.size)) (.and (vt b (n',f) (xs.length,eF cU8 xs))
       (chk P I b k lf acc (.o all l ks) { s2 with hp:=(d,.arr e j.size (xs++bytesI s).length (eF cU8 (xs++bytesI s)))::del d s2.hp }))))
     | none=>bad b
    | _,_=>bad b
   | _=>bad b
  | _=>bad b
 | _,@Tr.bs _ _ _ i n own c xs t,lf,acc,g,st=>match run I n g st with
  | some (.o all (op::l) ks,st',C,fs)=>match bsI I all op st' with
   | some (d,e,j,len,cs)=>.and (asks b C fs True) (.and (cellsV b cs (xs.flatMap c)) (.and (vt b len xs.length) (.and (vt b ((List.range len).map (arrOf (xs.flatMap c) j.size)) ((List.range len).map (@eF _ i c xs)))
     (match own with
      | false=>chk P I b t lf acc (.o all l ks) (st'.put d (.t (@eL _ i c xs)))
      | true=>match newP I st' d (.arr e j.size len (arrOf (xs.flatMap c) j.size)) (.own d) with
       | some s2=>chk P I b t lf acc (.o all l ks) { s2 with hp:=(d,.arr e j.size xs.length (@eF _ i c xs))::del d s2.hp }
       | none=>bad b))))
   | none=>bad b
  | _=>bad b
 | _,.ndb n m a e,lf,acc,g,st=>match run I n g st with
  | some (.o all (op::l) ks,st',C,fs)=>match nilI I all op st' with
   | some (d,o,m')=>.and (asks b C fs True) (.and (vt b m' m) (.and (chk P I b a lf acc (.o all l ks) (st'.put d (.t (.bool o)))) (chk P I b e lf acc (.o all l ks) (st'.put d (.t (.bool (!o)))))))
   | none=>bad b
  | _=>bad b
 | _,@Tr.dc _ _ _ j as k bps _ ret _ B,lf,acc,g,st=>.and (argsV b ⟨[],[]⟩ as bps) (.and (vt b (Nat.blt k cN) true) (.all fun r=>.and (vt b (ret r).pure true) (chk P I b (B r) lf { acc with calls:=(j,k,as,ret r,[],none)::acc.calls } g st)))
 | _,@Tr.dch _ _ _ j as k bps Hs N _ ret Ht _ ch B,lf,acc,g,st=>.and (argsV b ⟨[],[]⟩ as bps) (.and (vt b (Nat.blt k cN) true) (.all fun r=>.and (vt b (ret r).pure true) (.and (vt b (Ht r) (chgH Hs (ch r))) (.and (vt b (backIn (ret r) (chgH Hs (ch r)) N) true)
   (.and (vt b (ch1 (ch r) Hs) true) (chk P I b (B r) lf { acc with calls:=(j,k,as,ret r,Hs,ch r)::acc.calls } g st))))))
 | _,@Tr.dcn _ _ _ j d as k bps Hs N _ ret Ht _ B,lf,acc,g,st=>.and (argsV b ⟨[],[]⟩ as bps) (.and (vt b (Nat.blt k cN) true) (.and (vt b Hs []) (.and (vt b N []) (.all fun r=>match Ht r,ret r with
   | [(o,.arr e s n f)],.own o'=>.and (vt b o o') (chk P I b (B r) lf { acc with calls:=(j,k,as,.own d,[],some (d,.arr e s n f))::acc.calls } g st)
   | _,_=>bad b))))
 | _,@Tr.dcm _ _ _ j d as k bps Hs N _ ret Ht _ B,lf,acc,g,st=>.and (argsV b ⟨[],[]⟩ as bps) (.and (vt b (Nat.blt k cN) true) (.all fun r=>match newMp (ret r) (Ht r) with
   | some (o,m)=>.and (vt b (Ht r) (Hs++[(o,.mp none m none)])) (.and (vt b (ret r) (.map o)) (.and (vt b (dcmB d o Hs N) true) (chk P I b (B r) lf { acc with calls:=(j,k,as,.map d,Hs,some (d,.mp none m none))::acc.calls } g st)))
   | none=>bad b))
 | _,@Tr.dap _ _ j n f x _ t,lf,acc,g,st=>chk P I b t lf { acc with calls:=(j,fzN,[.t (.sl n f)],.t x,[],none)::acc.calls } g st
 | _,@Tr.dlk _ _ K mk j ty ob v k t1,lf,acc,g,st=>.and (vt b (((mapIn I.ti ty (MKey.kT k)).bind P.info?).bind (·.zero)) (some .nilFunc))
   (allL v fun c=>chk P I b (t1 c) lf { acc with calls:=(j,lkN+ty,[.map ob,.t (MKey.kT k)],.fn (.func c) 0 [],[(ob,.mp none (@eM K Nat mk (fun c=>.d (.fv c)) v) none)],none)::acc.calls } g st)
 | _,.dl j c t e,lf,acc,g,st=>.and (chk P I b t lf { acc with lits:=(j,c,true)::acc.lits } g st) (chk P I b e lf { acc with lits:=(j,c,false)::acc.lits } g st)
 | _,@Tr.dg _ _ j p _ t,lf,acc,g,st=>chk P I b t lf { acc with conds:=(j,[p])::acc.conds } g st
 | _,.dr n e ol ts t,lf,acc,g,st=>match run I n g st with
  | some (.c (.region _ ops true) ks,st',C,fs)=>.and (asks b C fs True) (.and (drV P I b ops.toList (ops.toList.take (ops.toList.length-e)) (ops.toList.drop (ops.toList.length-e)) acc st' ts ol)
    (match (drS I ops.toList (ops.toList.take (ops.toList.length-e)) acc st' ts ol).keep (keysL (drS I ops.toList (ops.toList.take (ops.toList.length-e)) acc st' ts ol).fr) (keysL (drS I ops.toList (ops.toList.take (ops.toList.length-e)) acc st' ts ol).hp) with
     | some s=>chk P I b t lf acc0 (.o ops.toList (ops.toList.drop (ops.toList.length-e)) ks) s
     | none=>bad b))
  | _=>bad b
 | _,@Tr.mk _ _ K V mk n enc t,lf,acc,g,st=>match run I n g st with
  | some (.o all (op::l) ks,st',C,fs)=>match op.op,op.dst,wantedP all op st' with
   | .makeMap _ none,some d,some true=>match Nat.blt d I.nt,nmem d I.N,st'.erase d with
    | true,true,some st1=>.and (asks b C fs True) (chk P I b t lf acc (.o all l ks) (({ st1 with hp:=(d,.mp none (@eM K V mk enc []) none)::st1.hp }:St).put d (.map d)))
    | _,_,_=>bad b
   | _,_,_=>bad b
  | _=>bad b
 | _,@Tr.mlen _ _ K V mk n enc v t,lf,acc,g,st=>match run I n g st with
  | some (.o all (op::l) ks,st',C,fs)=>match op.op,op.dst,wantedP all op st' with
   | .call c,some d,some true=>match c.callee,c.args.toList,c.argTypes[0]?,Nat.blt d I.nt with
    | .builtin .len,[x],some ty,true=>match ev st' x with
     | some (.map ob)=>match look st'.hp ob with
      | some (.mp _ m ho)=>.and (asks b C fs True) (.and (vt b (isMap I.ti ty) true) (.and (vt b (m,ho) (@eM K V mk enc v,none)) (chk P I b t lf acc (.o all l ks) (st'.put d (.t (.int .i64 (v.length:Int)))))))
      | _=>bad b
     | _=>bad b
    | _,_,_,_=>bad b
   | _,_,_=>bad b
  | _=>bad b
 | _,@Tr.lkb _ _ K V mk n eB v k t0 t1,lf,acc,g,st=>match run I n g st with
  | some (.o all (op::l) ks,st',C,fs)=>match lookI I all op st' with
   | some (d,ty,ob,kp)=>match look st'.hp ob,mapIn I.ti ty (MKey.kT k) with
    | some (.mp it m ho),some et=>.and (asks b C fs True) (.and (vt b kp (.t (MKey.kT k))) (.and (vt b (m,ho) (@eM K V mk (fun c=>.box (eB c)) v,none)) (.and (vt b ((P.info? et).bind (·.zero)) (some (.pointer none))) (.and (vt b (noIt d it) true)
      (.and (chk P I b t0 lf acc (.o all l ks) (st'.put d .np))
       (.all fun c=>match gfocus I.N ob d (.mp it (@eM K V mk (fun c=>.box (eB c)) (mdel v k)) (some (MKey.kT k,some (.ptr d 0)))) (.box ((eB c).map .t)) st' with
        | some s2=>chk P I b (t1 c) lf acc (.o all l ks) (s2.put d (.ptr d 0))
        | none=>bad b))))))
    | _,_=>bad b
   | none=>bad b
  | _=>bad b
 | _,@Tr.lkr _ _ K V mk n e s nn ff dflt v k t,lf,acc,g,st=>match run I n g st with
  | some (.o all (op::l) ks,st',C,fs)=>match lookI I all op st' with
   | some (d,ty,ob,kp)=>match look st'.hp ob,mapIn I.ti ty (MKey.kT k) with
    | some (.mp it m ho),some et=>.and (asks b C fs True) (.and (vt b kp (.t (MKey.kT k))) (.and (vt b (m,ho) (@eM K V mk (fun c=>.row e s (nn c) (ff c)) v,none)) (.and (vt b ((P.info? et).bind (·.zero)) (some (.slice none 0 0))) (.and (vt b (noIt d it) true)
      (.and (vt b (nn dflt) 0)
       (match gfocus I.N ob d (.mp it (@eM K V mk (fun c=>.row e s (nn c) (ff c)) (mdel v k)) (some (MKey.kT k,none))) (.arr e s (nn ((mlook v k).getD dflt)) (ff ((mlook v k).getD dflt))) st' with
        | some s2=>chk P I b t lf acc (.o all l ks) (s2.put d (.own d))
        | none=>bad b))))))
    | _,_=>bad b
   | none=>bad b
  | _=>bad b
 | _,@Tr.lkd _ _ K V mk n zv eD v k t0 t1,lf,acc,g,st=>match run I n g st with
  | some (.o all (op::l) ks,st',C,fs)=>match lookI I all op st' with
   | some (d,ty,ob,kp)=>match look st'.hp ob,mapIn I.ti ty (MKey.kT k),constPV zv with
    | some (.mp _ m ho),some et,some zp=>.and (asks b C fs True) (.and (vt b kp (.t (MKey.kT k))) (.and (vt b (m,ho) (@eM K V mk (fun c=>.d (eD c)) v,none)) (.and (vt b ((P.info? et).bind (·.zero)) (some zv))
      (.and (chk P I b t0 lf acc (.o all l ks) (st'.put d zp)) (.all fun c=>chk P I b (t1 c) lf acc (.o all l ks) (st'.put d (.t (eD c))))))))
    | _,_,_=>bad b
   | none=>bad b
  | _=>bad b
 | _,.lkf n v k t0 t1,lf,acc,g,st=>match run I n g st with
  | some (.o all (op::l) ks,st',C,fs)=>match lookI I all op st' with
   | some (d,ty,ob,kp)=>match look st'.hp ob,mapIn I.ti ty (MKey.kT k) with
    | some (.mp _ m ho),some et=>.and (asks b C fs True) (.and (vt b kp (.t (MKey.kT k))) (.and (vt b (m,ho) (eM (fun c=>.d (.fv c)) v,none)) (.and (vt b ((P.info? et).bind (·.zero)) (some .nilFunc))
      (.and (chk P I b t0 lf acc (.o all l ks) (st'.put d (.lit .nilFunc))) (allL v fun c=>chk P I b (t1 c) lf acc (.o all l ks) (st'.put d (.fn (.func c) 0 [])))))))
    | _,_=>bad b
   | none=>bad b
  | _=>bad b
 | _,@Tr.upd _ _ K V mk n enc v k t,lf,acc,g,st=>match run I n g st with
  | some (.o all (op::l) ks,st',C,fs)=>match updOf op.op,op.dst,wantedP all op st' with
   | some (ty,x,kx,vx),none,some true=>match ev st' x,ev st' kx,ev st' vx with
    | some (.map ob),some kp,some p=>match look st'.hp ob,mapIn I.ti ty (MKey.kT k) with
     | some (.mp it m ho),some _=>.and (asks b C fs True) (.and (vt b kp (.t (MKey.kT k))) (.and (vt b (m,ho) (@eM K V mk enc v,some (MKey.kT k,none))) (.and (match it with | none=>.ok | some i=>vt b i.cur (some (MKey.kT k)))
       (chk P I b t lf acc (.o all l ks) { st' with hp:=(ob,.mp it (@eM K V mk enc v) (some (MKey.kT k,some p)))::del ob st'.hp }))))
     | _,_=>bad b
    | _,_,_=>bad b
   | _,_,_=>bad b
  | _=>bad b
 | _,@Tr.dlt _ _ K V mk n enc v k hp t,lf,acc,g,st=>match run I n g st with
  | some (.o all (op::l) ks,st',C,fs)=>match op.op,op.dst,wantedP all op st' with
   | .call c,none,some true=>match c.callee,c.args.toList,c.argTypes[0]? with
    | .builtin .delete,[x,kx],some ty=>match ev st' x,ev st' kx,mapIn I.ti ty (MKey.kT k) with
     | some (.map ob),some kp,some _=>match look st'.hp ob with
      | some (.mp it m ho)=>.and (asks b C fs True) (.and (vt b kp (.t (MKey.kT k))) (.and (vt b (m,ho) (@eM K V mk enc v,some (MKey.kT k,hp))) (.and (match it with | none=>.ok | some i=>vt b i.cur (some (MKey.kT k)))
        (chk P I b t lf acc (.o all l ks) { st' with hp:=(ob,.mp (clrIt it) (@eM K V mk enc v) none)::del ob st'.hp }))))
      | _=>bad b
     | _,_,_=>bad b
    | _,_,_=>bad b
   | _,_,_=>bad b
  | _=>bad b
 | _,@Tr.rng _ _ K V mk n enc v t,lf,acc,g,st=>match run I n g st with
  | some (.o all (op::l) ks,st',C,fs)=>match op.op,op.dst,wantedP all op st' with
   | .range ty x,some d,some true=>match ev st' x,Nat.blt d I.nt with
    | some (.map ob),true=>match look st'.hp ob,grange I.N ob d (.mp (some ⟨d,kTs (mkeys v),none⟩) (@eM K V mk enc v) none) st' with
     | some (.mp none m ho),some s2=>.and (asks b C fs True) (.and (vt b (isMap I.ti ty) true) (.and (vt b (m,ho) (@eM K V mk enc v,none)) (chk P I b t lf acc (.o all l ks) (s2.put d (.ptr d 0)))))
     | _,_=>bad b
    | _,_=>bad b
   | _,_,_=>bad b
  | _=>bad b
 | _,@Tr.nxb _ _ K V mk n eB v rem t0 t1,lf,acc,g,st=>match run I n g st with
  | some (.o all (op::l) ks,st',C,fs)=>match nextI I all op st' with
   | some (d,di)=>match iterOf di st'.hp with
    | some ob=>match look st'.hp ob with
     | some (.mp (some it) m ho)=>.and (asks b C fs True) (.and (vt b (it.o,it.rem) (di,@kTs K mk rem)) (.and (vt b (m,ho) (@eM K V mk (fun c=>.box (eB c)) v,none)) (.and (vt b (Nat.beq di d) false)
       (.and (chk P I b t0 lf acc (.o all l ks) (st'.put d (.tup [.t (.bool false)])))
        (.all fun k=>.all fun c=>match gfocus I.N ob d (.mp (some ⟨di,kTs (rem.erase k),some (MKey.kT k)⟩) (@eM K V mk (fun c=>.box (eB c)) (mdel v k)) (some (MKey.kT k,some (.ptr d 0)))) (.box ((eB c).map .t)) (nextSt st' ob di (rem.erase k) k (@eM K V mk (fun c=>.box (eB c)) v)) with
         | some s2=>chk P I b (t1 k c) lf acc (.o all l ks) (s2.put d (.tup [.t (.bool true),.t (MKey.kT k),.ptr d 0]))
         | none=>bad b)))))
     | _=>bad b
    | none=>bad b
   | none=>bad b
  | _=>bad b
 | _,@Tr.nxr _ _ K V mk n e s nn ff v rem t0 t1,lf,acc,g,st=>match run I n g st with
  | some (.o all (op::l) ks,st',C,fs)=>match nextI I all op st' with
   | some (d,di)=>match iterOf di st'.hp with
    | some ob=>match look st'.hp ob with
     | some (.mp (some it) m ho)=>.and (asks b C fs True) (.and (vt b (it.o,it.rem) (di,@kTs K mk rem)) (.and (vt b (m,ho) (@eM K V mk (fun c=>.row e s (nn c) (ff c)) v,none)) (.and (vt b (Nat.beq di d) false)
       (.and (chk P I b t0 lf acc (.o all l ks) (st'.put d (.tup [.t (.bool false)])))
        (.all fun k=>.all fun c=>match gfocus I.N ob d (.mp (some ⟨di,kTs (rem.erase k),some (MKey.kT k)⟩) (@eM K V mk (fun c=>.row e s (nn c) (ff c)) (mdel v k)) (some (MKey.kT k,some (.own d)))) (.arr e s (nn c) (ff c)) (nextSt st' ob di (rem.erase k) k (@eM K V mk (fun c=>.row e s (nn c) (ff c)) v)) with
         | some s2=>chk P I b (t1 k c) lf acc (.o all l ks) (s2.put d (.tup [.t (.bool true),.t (MKey.kT k),.own d]))
         | none=>bad b)))))
     | _=>bad b
    | none=>bad b
   | none=>bad b
  | _=>bad b
 | _,@Tr.nxd _ _ K V mk n eD v rem t0 t1,lf,acc,g,st=>match run I n g st with
  | some (.o all (op::l) ks,st',C,fs)=>match nextI I all op st' with
   | some (d,di)=>match iterOf di st'.hp with
    | some ob=>match look st'.hp ob with
     | some (.mp (some it) m ho)=>.and (asks b C fs True) (.and (vt b (it.o,it.rem) (di,@kTs K mk rem)) (.and (vt b (m,ho) (@eM K V mk (fun c=>.d (eD c)) v,none))
       (.and (chk P I b t0 lf acc (.o all l ks) (st'.put d (.tup [.t (.bool false)])))
        (.all fun k=>.all fun c=>chk P I b (t1 k c) lf acc (.o all l ks) (({ st' with hp:=(ob,.mp (some ⟨di,kTs (rem.erase k),some (MKey.kT k)⟩) (@eM K V mk (fun c=>.d (eD c)) (mdel v k)) (some (MKey.kT k,some (.t (eD c)))))::del ob st'.hp }:St).put d (.tup [.t (.bool true),.t (MKey.kT k),.t (eD c)]))))))
     | _=>bad b
    | none=>bad b
   | none=>bad b
  | _=>bad b
section
variable {P:Program} {E:Env} {I:Inf} {Q:Post} {st st':St}
theorem asks_ok{C:List Prop}{fs:List (Nat→Bool)}{p:Prop}(h:asks true C fs p=asks false C fs p)(hp:p):All C∧∀ f,f∈fs→∀ i,f i=true:=by
 obtain⟨h1,h2⟩:=and_ok h
 have h1:=vt_ok h1
 have h2:=vt_ok h2
 refine⟨h1.symm▸hp,fun f hf i=>?_⟩
 rw[h2]at hf
 obtain⟨_,_,rfl⟩:=List.mem_map.1 hf
 rfl
theorem pwp_le{c:Code}{Q1 Q2:Post}(h:pwp P E c Q1 st)(hq:∀ e s,Q1 e s→∃ t,Le E s t∧Q2 e t):pwp P E c Q2 st:=
 fun a w r=>wp_mono (h a w r) fun e _ _ ⟨s,hs,hr⟩=>let ⟨t,h1,h2⟩:=hq e s hs; ⟨t,h2,h1 _ _ hr⟩
theorem wp_mono2{o:Oper}{a:Act}{w:World}{K K':Act→World→Prop}{Q Q':Exit→Act→World→Prop}(hk:∀ a w,K a w→K' a w)(hq:∀ e a w,Q e a w→Q' e a w)
  (hh:o.wp P a w K Q):o.wp P a w K' Q':=by
 unfold Oper.wp at *
 generalize (execOp a.eval o).run P w=r at *
 have hl:LetsOut Q→LetsOut Q':=fun⟨a,w,h⟩=>⟨a,w,hq _ _ _ h⟩
 cases r with
 | ok n w'=>
  cases n <;> simp only[Oper.upon]at hh ⊢ <;>
   first
    | exact hk _ _ hh
    | exact Calls.mono hh (fun e w'' he=>by cases e <;> first | exact hk _ _ he | exact hq _ _ _ he | exact hl he)
    | exact Rows.mono hh (fun _ _ he=>hk _ _ he)
 | halt x w'=>cases x <;> simp only[Oper.upon]at hh ⊢ <;> first | exact hq _ _ _ hh | exact hh
theorem wpList_mono{ops:Array Oper}{Q Q':Exit→Act→World→Prop}(hq:∀ e a w,Q e a w→Q' e a w):∀ {l:List Oper} {a:Act} {w:World},wpList P ops Q l a w→wpList P ops Q' l a w
 | [],a,w,h=>hq _ _ _ h
 | o::rest,a,w,h=>by
  simp only[wpList]at h ⊢
  split
  ·rename_i hw
   rw[if_pos hw]at h
   rcases h with h | ⟨h1,⟨a',w',h2⟩⟩
   ·exact .inl (wp_mono2 (fun _ _ h=>wpList_mono hq h) hq h)
   ·exact .inr ⟨h1,⟨a',w',hq _ _ _ h2⟩⟩
  ·rename_i hw
   rw[if_neg hw]at h
   exact wpList_mono hq h
theorem kQ_le{Q1 Q2:Post}(hq:∀ e s,Q1 e s→∃ t,Le E s t∧Q2 e t):∀ {ks:List Kf} {e:Exit} {s:St},kQ P E ks Q1 e s→∃ t,Le E s t∧kQ P E ks Q2 e t
 | [],e,s,h=>hq e s h
 | .s y::ks,e,s,h=>by
  unfold kQ at h ⊢
  unfold thenQ at h ⊢
  cases e with
  | normal=>exact⟨s,.refl,pwp_le h fun e s h=>kQ_le hq h⟩
  | _=>exact kQ_le hq (ks:=ks) h
 | .b id::ks,e,s,h=>by
  unfold kQ at h ⊢
  unfold blockQ at h ⊢
  cases e with
  | exit i=>
   simp only at h ⊢
   split at h
   ·rename_i hi; simp only[if_pos hi]; exact kQ_le hq h
   ·rename_i hi; simp only[if_neg hi]; exact kQ_le hq h
  | _=>exact kQ_le hq (ks:=ks) h
theorem kQ_app:∀ (m:Nat) (ks:List Kf),kQ P E ks Q=kQ P E (ks.take m) (kQ P E (ks.drop m) Q)
 | 0,ks=>by simp[kQ]
 | m+1,[]=>by simp[kQ]
 | m+1,.s y::ks=>by simp only[List.take_succ_cons,List.drop_succ_cons,kQ]; rw[kQ_app m ks]
 | m+1,.b id::ks=>by simp only[List.take_succ_cons,List.drop_succ_cons,kQ]; rw[kQ_app m ks]
theorem cut_ok{m:Nat}{g:Cfg}{Q1:Post}(h:cwp P E (cutG m g) Q1 st)(hq:∀ e s,Q1 e s→∃ t,Le E s t∧kQ P E (restG m g) Q e t):cwp P E g Q st:=by
 cases g with
 | c x ks=>
  show pwp P E x (kQ P E ks Q) st
  rw[kQ_app m ks]
  exact pwp_le h fun e s h=>kQ_le hq h
 | o all l ks=>
  show pops P E all (kQ P E ks Q) l st
  rw[kQ_app m ks]
  exact fun a w r=>wpList_mono (fun e a w ⟨s,hs,hr⟩=>let ⟨t,h1,h2⟩:=kQ_le hq hs; ⟨t,h2,h1 _ _ hr⟩) (h a w r)
 | x e ks=>
  obtain⟨t,h1,h2⟩:=h
  show ∃ t,Le E st t∧kQ P E ks Q e t
  rw[kQ_app m ks]
  obtain⟨u,h3,h4⟩:=kQ_le hq h2
  exact⟨u,h1.trans h3,h4⟩
def LoopW(P:Program)(c:Code)(Q:Exit→Act→World→Prop)(a:Act)(w:World):Prop:=
 ∀ b k cs,∃ e a' w',Q e a' w'∧Arrives P (lone (b.at a (.code c :: .inLoop c::k)) cs w) b k cs e a' w'
theorem LoopW.of{c:Code}{Q:Exit→Act→World→Prop}{a:Act}{w:World}(h:c.wp P (Exit.then (LoopW P c Q) Q) a w):LoopW P c Q a w:=by
 intro b k cs
 obtain⟨e,a₁,w₁,hq,harr⟩:=h b (.inLoop c::k) cs
 cases e with
 | normal=>
  obtain⟨e₂,a₂,w₂,hq₂,harr₂⟩:=hq b k cs
  exact⟨e₂,a₂,w₂,hq₂,.of_steps (Steps.trans harr (.one step_inLoop)) harr₂⟩
 | exit id=>exact⟨_,a₁,w₁,hq,.pass (x:=.inLoop c) rfl (fun _ _=>.inl (by simp)) harr⟩
 | goto l=>exact⟨_,a₁,w₁,hq,.pass (x:=.inLoop c) rfl (fun _ _=>.inl (by simp)) harr⟩
 | ret=>exact⟨_,a₁,w₁,hq,.pass (x:=.inLoop c) rfl (fun _ _=>.inl (by simp)) harr⟩
 | panic ch=>exact⟨_,a₁,w₁,hq,.pass (x:=.inLoop c) rfl (fun _ _=>.inl (by simp)) harr⟩
 | outgrown=>exact⟨_,a₁,w₁,hq,.pass (x:=.inLoop c) rfl (fun _ _=>.inl (by simp)) harr⟩
theorem LoopW.loop{c:Code}{Q:Exit→Act→World→Prop}{a:Act}{w:World}(h:LoopW P c Q a w):(Code.loop c).wp P Q a w:=by
 intro b k cs
 obtain⟨e,a',w',hq,harr⟩:=h b k cs
 exact⟨e,a',w',hq,.of_steps (.one step_loop) harr⟩
def roundT{S R:Type}(E:Env)(tm:S→St)(Out:R→Post):S⊕R→Post
 | .inl s',e,s=>e = .normal∧Le E s (tm s')
 | .inr r,e,s=>e ≠ .normal∧Out r e s
theorem pwp_loopT{c:Code}{S R:Type}{b:S→(S⊕R→Prop)→Prop}{tm:S→St}{Out:R→Post}{Q':R→Prop}(hb:∀ s (Z:S⊕R→Prop),b s Z→pwp P E c (fun e st=>∃ z,Z z∧roundT E tm Out z e st) (tm s))
  {s0:S}(h:Tr.LoopT b Q' s0)(hq:∀ r e st,Q' r→Out r e st→∃ t,Le E st t∧Q e t):pwp P E (.loop c) Q (tm s0):=by
 intro a w r
 refine LoopW.loop ?_
 refine h (fun s=>∀ a w,Rel E (tm s) a w→LoopW P c (lift E Q) a w) (fun s hs a w r=>LoopW.of (wp_mono (hb s _ hs a w r) fun e a' w' ⟨st',⟨z,hz,hm⟩,hr⟩=>?_)) a w r
 cases z with
 | inl s'=>obtain⟨rfl,hle⟩:=hm; exact hz a' w' (hle _ _ hr)
 | inr r'=>
  obtain⟨hne,hm⟩:=hm
  obtain⟨t,h1,h2⟩:=hq r' e st' hz hm
  cases e with
  | normal=>exact absurd rfl hne
  | _=>exact⟨t,h2,h1 _ _ hr⟩
theorem keep_ok{t s:St}(h:s.keep (keysL t.fr) (keysL t.hp)=some t):Le E s t:=Le.keep h
theorem keepV_ok{S:Type}{tm:S→St}{v:S}{e:Exit}{s:St}(h:keepV true tm v e s=keepV false tm v e s):e = .normal∧Le E s (tm v):=by
 unfold keepV at h
 split at h
 ·exact⟨rfl,keep_ok (vt_ok h)⟩
 ·exact(bad_ok h).elim
theorem leaveV_ok{Y:Type}{lt lf:Y→Exit→St→VT}{ks:List Kf}{y:Y}{e:Exit}{s:St}(h:leaveV true lt ks y e s=leaveV false lf ks y e s)(hl:∀ e s,lt y e s=lf y e s→∃ u,Le E s u∧Q e u):
  e ≠ .normal∧∃ t,Le E s t∧kQ P E ks Q e t:=by
 unfold leaveV at h
 cases e with
 | normal=>exact(bad_ok h).elim
 | _=>
  refine⟨by simp,?_⟩
  simp only at h
  split at h
  ·rename_i e' hn
   obtain⟨u,h1,h2⟩:=hl _ _ h
   show cwp P E (.x _ ks) Q s
   refine nrm_ok (n:=300) ?_
   rw[hn]
   exact⟨u,h1,h2⟩
  ·exact(bad_ok h).elim
theorem brkV_ok{R:Type}{bt:R→St}{ex:Nat}{r:R}{e:Exit}{s:St}(h:brkV true bt ex r e s=brkV false bt ex r e s):e = .exit ex∧Le E s (bt r):=by
 unfold brkV at h
 split at h
 ·split at h
  ·rename_i hi
   have:=Nat.eq_of_beq_eq_true hi
   subst this
   exact⟨rfl,keep_ok (vt_ok h)⟩
  ·exact(bad_ok h).elim
 ·exact(bad_ok h).elim
theorem callI_ok{all:List Oper}{op:Oper}{d k:Nat}{as:List PV}(h:callI I all op st=some (d,k,as)):∃ c f nf caps aps,op.op = .call c∧c.callee = .value f∧op.dst=some d∧wantedP all op st=some true∧Nat.blt d I.nt=true ∧
  ev st f=some (.fn (.func k) nf caps)∧evList st c.args.toList=some aps∧as=caps.take nf++aps++caps.drop nf:=by
 unfold callI at h
 split at h
 ·rename_i c d' h1 h2 h3
  split at h
  ·rename_i f h4 h5
   split at h
   ·rename_i k' nf caps aps h6 h7
    cases h
    exact⟨c,f,nf,caps,aps,h1,h4,h2,h3,h5,h6,h7,rfl⟩
   ·cases h
  ·cases h
 ·cases h
theorem argsV_ok:∀ {as bps:List PV},argsV true st as bps=argsV false st as bps→ArgsR st (lentL as bps) as bps:=by
 have key:∀ {as bps:List PV},argsV true st as bps=argsV false st as bps→∀ L,(∀ o,o∈lentL as bps→o∈L)→ArgsR st L as bps:=by
  intro as
  induction as with
  | nil=>intro bps h L _; cases bps with | nil=>exact .nil | cons q r=>exact(bad_ok h).elim
  | cons p l ih=>
   intro bps h L hL
   cases bps with
   | nil=>exact(bad_ok h).elim
   | cons q r=>
    obtain⟨h1,h2⟩:=and_ok h
    have hsame:∀ {p q:PV},vt true p q=vt false p q→ArgR st L p q:=fun h=>by have h:=vt_ok h; subst h; exact .same _
    have h2':(∀ o,o∈lentL l r→o∈L)→ArgsR st L l r:=fun hh=>ih h2 L hh
    unfold argV at h1
    split at h1
    ·rename_i x
     refine .cons ?_ (h2' fun o ho=>hL o (by simpa[lentL] using ho))
     have h1:=vt_ok h1
     unfold zlen at h1
     split at h1
     ·rename_i n f hv; cases h1; exact .nil hv
     ·cases h1
    ·rename_i o x
     refine .cons ?_ (h2' fun o ho=>hL o (by simp[lentL,ho]))
     split at h1
     ·rename_i e s n f hl
      exact .lend (hL _ (by simp[lentL])) hl (vt_ok h1).symm
     ·exact(bad_ok h1).elim
    ·rename_i n f m g
     obtain⟨h3,h4⟩:=and_ok h1
     have h3:=vt_ok h3
     subst h3
     refine .cons (.imp (le_sl rfl rfl (map_range (vt_ok h4)))) (h2' fun o' ho'=>hL o' (by simp[lentL,ho']))
    ·rename_i l' r'
     exact .cons (.imp (le_agg (cellsV_ok h1))) (h2' fun o' ho'=>hL o' (by simp[lentL,ho']))
    ·rename_i hn ho hsl
     refine .cons (hsame h1) (h2' fun o' ho'=>hL o' ?_)
     cases p <;> simp[lentL,ho']
 intro as bps h
 exact key h _ fun _ h=>h
theorem argsV_nil{fr:Fr}:∀ {as bps:List PV},argsV true ⟨fr,[]⟩ as bps=argsV false ⟨fr,[]⟩ as bps→∀ st,ArgsR st [] as bps:=by
 intro as
 induction as with
 | nil=>intro bps h st; cases bps with | nil=>exact .nil | cons q r=>exact(bad_ok h).elim
 | cons p l ih=>
  intro bps h st
  cases bps with
  | nil=>exact(bad_ok h).elim
  | cons q r=>
   obtain⟨h1,h2⟩:=and_ok h
   refine .cons ?_ (ih h2 st)
   unfold argV at h1
   split at h1
   ·rename_i x
    have h1:=vt_ok h1
    unfold zlen at h1
    split at h1
    ·rename_i n f hv; cases h1; exact .nil hv
    ·cases h1
   ·simp[look]at h1; exact(bad_ok h1).elim
   ·rename_i n f m g
    obtain⟨h3,h4⟩:=and_ok h1
    have h3:=vt_ok h3
    subst h3
    exact .imp (le_sl rfl rfl (map_range (vt_ok h4)))
   ·exact .imp (le_agg (cellsV_ok h1))
   ·have h1:=vt_ok h1; subst h1; exact .same _
theorem lookI_ok{all:List Oper}{op:Oper}{d t ob:Nat}{kp:PV}(h:lookI I all op st=some (d,t,ob,kp)):∃ x kx,op.op = .lookup t x kx false∧op.dst=some d∧wantedP all op st=some true∧Nat.blt d I.nt=true∧ev st x=some (.map ob)∧ev st kx=some kp:=by
 unfold lookI at h
 split at h
 ·rename_i t' x kx d' h1 h2 h3
  split at h
  ·rename_i h4 h5 h6
   cases h
   exact⟨x,kx,h1,h2,h3,h4,h5,h6⟩
  ·cases h
 ·cases h
theorem nextI_ok{all:List Oper}{op:Oper}{d di:Nat}(h:nextI I all op st=some (d,di)):∃ x,op.op = .next x false∧op.dst=some d∧wantedP all op st=some true∧Nat.blt d I.nt=true∧ev st x=some (.ptr di 0):=by
 unfold nextI at h
 split at h
 ·rename_i x d' h1 h2 h3
  split at h
  ·rename_i di' h4 h5
   cases h
   exact⟨x,h1,h2,h3,h4,h5⟩
  ·cases h
 ·cases h
theorem bsI_ok{all:List Oper}{op:Oper}{d e len:Nat}{j:TInf}{c:List PV}(h:bsI I all op st=some (d,e,j,len,c)):∃ t parts i ps,op.op = .buildSlice t len parts∧op.dst=some d∧wantedP all op st=some true∧Nat.blt d I.nt=true ∧
  I.ti t=some i∧i.und = .sl e∧I.ti e=some j∧evParts st parts.toList=some ps∧len*j.size≤16777216∧1≤j.size∧j.zero.length=j.size∧fillP (fun i=>some (i*j.size,j.size)) (zeroAt j (len*j.size)) ps=some c∧c.length=len*j.size:=by
 unfold bsI at h
 split at h
 case h_2=>cases h
 rename_i t len' parts d' h1 h2 h3
 split at h
 case h_2=>cases h
 rename_i i ps h4 h5 h6
 split at h
 case h_2=>cases h
 rename_i e' h7
 split at h
 case h_2=>cases h
 rename_i j' h8
 split at h
 case h_2=>cases h
 rename_i c' h9 h10 h11 h12
 split at h
 ·rename_i h13
  cases h
  exact⟨t,parts,i,ps,h1,h2,h3,h6,h4,h7,h8,h5,Nat.le_of_ble_eq_true h9,Nat.le_of_ble_eq_true h10,Nat.eq_of_beq_eq_true h11,h12,Nat.eq_of_beq_eq_true h13⟩
 ·cases h
theorem ch1_ok{c:Option (Nat×PObj)}{Hs:Hp}(h:ch1 c Hs=true):∀ d,c=some d→d.1∈keysL Hs:=by
 rintro⟨o,x⟩ rfl
 exact inN_ok.1 h
theorem nilI_ok{all:List Oper}{op:Oper}{d m:Nat}{ng:Bool}(h:nilI I all op st=some (d,ng,m)):∃ o t x y z i p,op.op = .binOp o t x y z∧((o = .eql∧ng=true)∨(o = .neq∧ng=false))∧op.dst=some d∧wantedP all op st=some true∧Nat.blt d I.nt=true∧I.ti t=some i∧(∃ e,i.und = .sl e) ∧
  ev st x=some p∧((∃ f,p = .t (.sl m f))∨(m=0∧∃ o,p = .own o))∧ev st y=some .nil:=by
 unfold nilI at h
 split at h
 case h_2=>cases h
 rename_i o t x y z d' h1 h2 h3
 split at h
 case h_5=>cases h
 all_goals
  rename_i h4 h5 h6 h7
  split at h
  ·rename_i e h8
   cases h
   first
    | exact⟨_,t,x,y,z,_,_,h1,.inl ⟨rfl,rfl⟩,h2,h3,h7,h4,⟨e,h8⟩,h5,.inl ⟨_,rfl⟩,h6⟩
    | exact⟨_,t,x,y,z,_,_,h1,.inr ⟨rfl,rfl⟩,h2,h3,h7,h4,⟨e,h8⟩,h5,.inl ⟨_,rfl⟩,h6⟩
    | exact⟨_,t,x,y,z,_,_,h1,.inl ⟨rfl,rfl⟩,h2,h3,h7,h4,⟨e,h8⟩,h5,.inr ⟨rfl,_,rfl⟩,h6⟩
    | exact⟨_,t,x,y,z,_,_,h1,.inr ⟨rfl,rfl⟩,h2,h3,h7,h4,⟨e,h8⟩,h5,.inr ⟨rfl,_,rfl⟩,h6⟩
  ·cases h
theorem pops_bsd(hG:Good P E I){all l:List Oper}{op:Oper}{d e len:Nat}{j:TInf}{c:List PV}{ts:List T}(h:bsI I all op st=some (d,e,j,len,c))(hts:ImpC c ts)
  (hk:pops P E all Q l (st.put d (.t (.sl len (arrOf ts j.size))))):pops P E all Q (op::l) st:=by
 obtain⟨t,parts,i,ps,h1,h2,h3,h4,h5,h6,h7,h8,h9,h10,h11,h12,h13⟩:=bsI_ok h
 refine pops_step rfl h3 fun F g a w r=>?_
 have hte:=(hG.ti _ _ h5).und
 rw[h6]at hte
 obtain⟨u,w',F',e1,e2⟩:=buildSlice_data (P:=P) (d:=d) hG.nt r hte (hG.ti _ _ h7) h8 h9 h10 h11 h12 hts h13 (by simpa[Nat.blt_eq] using h4)
 exact⟨_,u,w',_,by unfold execOp; simp[h1,e1],.inl rfl,by rw[h2]; exact⟨F',g,e2⟩,hk⟩
theorem pops_bso(hG:Good P E I){all l:List Oper}{op:Oper}{d e len:Nat}{j:TInf}{c:List PV}{ts:List T}(h:bsI I all op st=some (d,e,j,len,c))(hts:ImpC c ts)
  (hn:newP I st d (.arr e j.size len (arrOf ts j.size)) (.own d)=some st')(hk:pops P E all Q l st'):pops P E all Q (op::l) st:=by
 obtain⟨t,parts,i,ps,h1,h2,h3,h4,h5,h6,h7,h8,h9,h10,h11,h12,h13⟩:=bsI_ok h
 refine pops_step rfl h3 fun F g a w r=>?_
 have hte:=(hG.ti _ _ h5).und
 rw[h6]at hte
 obtain⟨u,w',e1,e2⟩:=buildSlice_ok (P:=P) (d:=d) hG.N hG.nt r hte (hG.ti _ _ h7) h8 h9 h10 h11 h12 hts h13 hn
 exact⟨_,u,w',_,by unfold execOp; simp[h1,e1],.inl rfl,by rw[h2]; exact e2,hk⟩
theorem pops_nil2(hG:Good P E I){all l:List Oper}{op:Oper}{d m:Nat}{ng:Bool}(h:nilI I all op st=some (d,ng,m))(h1:m=0→pops P E all Q l (st.put d (.t (.bool ng))))(h0:pops P E all Q l (st.put d (.t (.bool (!ng))))):pops P E all Q (op::l) st:=by
 obtain⟨o,t,x,y,z,i,p,e1,e2,e3,e4,e5,e6,⟨e,e7⟩,e8,e9,e10⟩:=nilI_ok h
 refine pops_step rfl e4 fun F g a w r=>?_
 have hd':d<E.nt:=by rw[hG.nt]; simpa[Nat.blt_eq] using e5
 have hte:=(hG.ti _ _ e6).und
 rw[e7]at hte
 have hx:=ev_ok r e8
 have hy:=ev_ok r e10
 obtain⟨u,hu⟩:∃ u,a.eval x=u:=⟨_,rfl⟩
 obtain⟨v,hv⟩:∃ u,a.eval y=u:=⟨_,rfl⟩
 rw[hu]at hx; rw[hv]at hy
 have hs:∃ ad n c,u = .slice ad n c∧(ad.isNone=true→m=0):=by
  rcases e9 with⟨f,rfl⟩ | ⟨h00,o,rfl⟩
  ·cases hx with
   | t hx=>cases hx with
    | nil hv=>exact⟨_,_,_,rfl,fun _=>by injection hv with hv; injection hv⟩
    | sl=>exact⟨_,_,_,rfl,fun hn=>by simp at hn⟩
  ·cases hx with
   | own=>exact⟨_,_,_,rfl,fun _=>h00⟩
 obtain⟨ad,n,c,rfl,hm⟩:=hs
 cases hy
 have hq:=run_equal_slice_nil (P:=P) w t e ad n c hte
 have hres:(binOp o t (.slice ad n c) (.slice none 0 0)).run P w = .ok (.bool (if ad.isNone then ng else !ng)) w:=by
  rcases e2 with⟨rfl,rfl⟩ | ⟨rfl,rfl⟩
  ·cases ad <;> simp[binOp,hq]
  ·cases ad <;> simp[binOp,hq]
 have hg:(eqGuard o t x y (.slice ad n c) (.slice none 0 0)).run P w = .ok () w:=by unfold eqGuard; cases o <;> simp
 have hex:(execOp a.eval op).run P w = .ok (.value (.bool (if ad.isNone then ng else !ng))) w:=by
  unfold execOp
  simp[e1,hu,hv,hg,hres]
 cases had:ad.isNone with
 | true=>
  rw[had]at hex
  exact⟨_,_,w,_,hex,.inl rfl,by rw[e3]; exact⟨F,g,r.put hd' (.t (.bool _))⟩,h1 (hm had)⟩
 | false=>
  rw[had]at hex
  exact⟨_,_,w,_,hex,.inl rfl,by rw[e3]; exact⟨F,g,r.put hd' (.t (.bool _))⟩,h0⟩
theorem args_eq{xs:Array Operand}{l:List Operand}(h:xs.toList=l):xs=l.toArray:=by rw[←h]
end
def clrF(f:Nat→List T)(l:Nat)(zs:List T):Nat→List T:=fun i=>if i<l then f i else zs
section
variable {P:Program} {E:Env} {I:Inf} {Q:Post} {st st':St} {F:Nat→Prop} {g:Nat→Value} {a:Act} {w:World}
theorem run_slice_own(r:RelG E F g st a w){t e:TypeId}{j:TInf}(ht:P.underlying t=some (.slice e))(hj:TOk P e j){ad:Option Addr}{n cap:Nat}(hcap:n≤cap)
  {lo hi:Option Operand}{l h:Int}(hl:optInt st 0 lo=some l)(hh:optInt st n hi=some h)(hc:0≤l∧l≤h∧h≤(n:Int)):
  (Instr.sliceAt t (.slice ad n cap) (lo.map a.eval) (hi.map a.eval) none).run P w = .ok (.slice (if cap=l.toNat then ad else ad.map (·.add (l.toNat*j.size))) (h.toNat-l.toNat) (cap-l.toNat)) w:=by
 obtain⟨h1,h2,h3⟩:=hc
 have e:(Instr.sliceAt t (.slice ad n cap) (lo.map a.eval) (hi.map a.eval) none).run P w=(Instr.slice t (.slice ad n cap) (lo.map a.eval) (hi.map a.eval) none).run P w:=by
  simp[Instr.sliceAt,run_underlying ht]
 have hb:(Instr.sliceBounds true n cap (lo.map a.eval) (hi.map a.eval) none).run P w = .ok (l.toNat,h.toNat,cap) w:=by
  unfold Instr.sliceBounds
  rcases optInt_ok r hl with⟨rfl,rfl⟩ | ⟨y,k,rfl,hy⟩ <;> rcases optInt_ok r hh with⟨rfl,rfl⟩ | ⟨y',k',rfl,hy'⟩
  ·simp
  ·simp[hy',run_sliceBound (P:=P) (w:=w) (k:=k') (n:=h) (y:=cap) ⟨by omega,by omega⟩]
  ·simp[hy,run_sliceBound (P:=P) (w:=w) (k:=k) (n:=l) (y:=n) ⟨h1,by omega⟩]
  ·simp[hy,hy',run_sliceBound (P:=P) (w:=w) (k:=k') (n:=h) (y:=cap) ⟨by omega,by omega⟩,run_sliceBound (P:=P) (w:=w) (k:=k) (n:=l) (y:=h.toNat) ⟨h1,by omega⟩]
 rw[e]
 simp[Instr.slice,run_underlying ht,hb,run_sizeOf hj]
theorem RelG.erase(r:RelG E F g st a w){o:Nat}{st1:St}(he:st.erase o=some st1):RelG E F g st1 a w:=
 ⟨r.nt,r.df,fun t y hy=>r.fr t y (St.erase_fr he t y hy).1,⟨⟨fun k y hy=>by
   obtain⟨x,h1,_,_,h4,_⟩:=St.erase_hp he k y hy; exact h4 _ _ _ (r.w.hp.obj k x h1),fun k y b hy hb=>by
   obtain⟨x,h1,_,_,_,h5⟩:=St.erase_hp he k y hy; exact r.w.hp.own k x b h1 (h5 _ _ _ hb),fun k y k' y' b hy hy' hne hb hb'=>by
   obtain⟨x,h1,_,_,_,h5⟩:=St.erase_hp he k y hy; obtain⟨x',h1',_,_,_,h5'⟩:=St.erase_hp he k' y' hy'; exact r.w.hp.sep k x k' x' b h1 h1' hne (h5 _ _ _ hb) (h5' _ _ _ hb')⟩,
   r.w.f0,r.w.f1,r.w.ext,r.w.names,r.w.b0⟩⟩
theorem RelG.obj0(r:RelG E F g st a w){o:Nat}{x y:PObj}(hl:look st.hp o=some x)(hxy:∀ F g w,ObjR F g w o x→ObjR F g w o y)(hy:y.plain=true:=by rfl):RelG E F g { st with hp:=(o,y)::del o st.hp } a w:=by
 have hlm:=look_mem hl
 have old:∀ k z b,(k,z)∈(o,y)::del o st.hp→Foot g w k z b→∃ z',(k,z')∈st.hp∧Foot g w k z' b:=by
  intro k z b hz hb
  rcases List.mem_cons.1 hz with e | hz
  ·cases e; exact⟨x,hlm,.self (hb.toBlk hy)⟩
  ·exact⟨z,(mem_del.1 hz).1,hb⟩
 refine⟨r.nt,r.df,r.fr,⟨⟨fun k z hz=>?_,fun k z b hz hb=>?_,fun k z k' z' b hz hz' hne hb hb'=>?_⟩,r.w.f0,r.w.f1,r.w.ext,r.w.names,r.w.b0⟩⟩
 ·rcases List.mem_cons.1 hz with e | hz
  ·cases e; exact hxy _ _ _ (r.w.hp.obj _ _ hlm)
  ·exact r.w.hp.obj k z (mem_del.1 hz).1
 ·obtain⟨z',h1,h2⟩:=old k z b hz hb; exact r.w.hp.own k z' b h1 h2
 ·obtain⟨u,h1,h2⟩:=old k z b hz hb
  obtain⟨u',h1',h2'⟩:=old k' z' b hz' hb'
  exact r.w.hp.sep k u k' u' b h1 h1' hne h2 h2'
theorem pops_cut(hG:Good P E I){ops l:List Oper}{o:Oper}{rest:List Oper}{t:TypeId}{x:Operand}{lo hi:Option Operand}{d q e e' s n:Nat}{f:Nat→List T}{h:Int}{i j:TInf}(hl:l=o::rest)(hop:o.op = .slice t x lo hi none)
  (hd:o.dst=some d)(hw:wantedP ops o st=some true)(hx:ev st x=some (.own q))(hq:look st.hp q=some (.arr e s n f))(hlo:optInt st 0 lo=some 0)(hhi:optInt st n hi=some h)(hi:I.ti t=some i)(hu:i.und = .sl e')(hj:I.ti e'=some j)
  (hc:0≤h∧h≤(n:Int)){st1:St}(he:st.erase q=some st1)(hn:newP I st1 d (.arr e s h.toNat f) (.own d)=some st')(hk:pops P E ops Q rest st'):pops P E ops Q l st:=by
 refine pops_step hl hw fun F g a w r=>?_
 have hte:=(hG.ti _ _ hi).und
 rw[hu]at hte
 have hxv:=ev_ok r hx
 obtain⟨u,hue⟩:∃ u,a.eval x=u:=⟨_,rfl⟩
 rw[hue]at hxv
 have hob:=r.w.hp.obj _ _ (look_mem hq)
 cases hxv with
 | @own _ n' cap ad hg=>
  have hcap:n'=n∧n≤cap:=by
   rcases hob with⟨h1,h2⟩ | ⟨b,cap',cur,h1,_,h3,_⟩
   ·rw[hg]at h1; cases h1; omega
   ·rw[hg]at h1; cases h1; exact⟨rfl,h3⟩
  obtain⟨rfl,hcap⟩:=hcap
  have hrun:=run_slice_own (P:=P) r hte (hG.ti _ _ hj) (ad:=ad) hcap hlo hhi ⟨by omega,by omega,hc.2⟩
  have had:(if cap=(0:Int).toNat then ad else ad.map (·.add ((0:Int).toNat*j.size)))=ad:=by
   split
   ·rfl
   ·cases ad with
    | none=>rfl
    | some ad=>simp[Addr.add]
  rw[had]at hrun
  simp only[Int.toNat_zero,Nat.sub_zero]at hrun
  have hex:(execOp a.eval o).run P w = .ok (.value (.slice ad h.toNat cap)) w:=by
   unfold execOp
   simp[hop,hue,hrun]
  refine⟨_,_,w,st',hex,.inl rfl,?_,hk⟩
  rw[hd]
  have r1:=r.erase he
  unfold newP at hn
  split at hn
  ·rename_i st2 g1 g2 g3
   cases hn
   have hd':d<E.nt:=by rw[hG.nt]; simpa[Nat.blt_eq] using g1
   have hlm:=look_mem hq
   have hblk:∀ b,blk (.slice ad h.toNat cap)=some b→blk (g q)=some b:=by
    intro b hb
    rw[hg]
    cases ad with
    | none=>cases hb
    | some ad=>exact hb
   refine⟨F,upd g d (.slice ad h.toNat cap),r1.putW hd' (fun b hb=>⟨hb,rfl⟩) (fun t y hy=>?_) ?_ (.own (upd_same ..))⟩
   ·obtain⟨e1,e2⟩:=St.erase_fr g3 t y hy
    exact⟨e1,fun o ho=>upd_other g _ (e2 o ho)⟩
   ·have hdis:∀ k y b,(k,y)∈st1.hp→Foot g w k y b→blk (.slice ad h.toNat cap)=some b→False:=by
     intro k y b hy hb hb'
     obtain⟨x,hx1,hx2,_,_,hx5⟩:=St.erase_hp he k y hy
     exact r.w.hp.sep k x q _ b hx1 hlm hx2 (hx5 _ _ _ hb) (.self (hblk b hb'))
    have hself:∀ b,Foot (upd g d (.slice ad h.toNat cap)) w d (.arr e s h.toNat f) b→blk (.slice ad h.toNat cap)=some b:=by
     intro b hb
     have:=hb.toBlk rfl
     rwa [upd_same]at this
    refine⟨HpR.change r1.w.hp g3 (fun o ho=>upd_other g _ ho) (fun b hb=>⟨hb,rfl⟩) (fun _ h=>h) (fun _ _ _ _ _ _=>rfl) ?_ (fun b hb=>?_) (fun k y b hk hne hb hb'=>hdis k y b hk hb (hself b hb')),r.w.f0,r.w.f1,r.w.ext,fun k hk=>?_,r.w.b0⟩
    ·simp only[ObjR,upd_same]
     rcases hob with⟨h1,h2⟩ | ⟨b,cap',cur,h1,h2,h3,h4,h5,h6,h7⟩
     ·rw[hg]at h1
      injection h1 with h1 h8 h9
      subst h1
      have:h.toNat=0:=by omega
      rw[this,h9]
      exact .inl ⟨rfl,rfl⟩
     ·rw[hg]at h1
      injection h1 with h1 h8 h9
      subst h1 h9
      exact .inr ⟨b,cap,cur,rfl,h2,by omega,h4,h5,fun i hi=>h6 i (by omega),fun i k x hi hx=>h7 i k x (by omega) hx⟩
    ·exact r.w.hp.own q _ b hlm (.self (hblk b (hself b hb)))
    ·have hne:k≠d:=by
      intro e1
      have:=nmem_ok g2
      rw[←hG.N]at this
      exact this (e1▸hk)
     rw[upd_other g _ hne]
     exact r.w.names k hk
  ·cases hn
theorem pops_clr(hG:Good P E I){ops l:List Oper}{o1 o2:Oper}{rest:List Oper}{t t2:TypeId}{x:Operand}{lo:Option Operand}{c:Call}{d q e e' s n:Nat}{f:Nat→List T}{lv:Int}{i j:TInf}{zs:List T}(hl:l=o1::o2::rest)
  (hop:o1.op = .slice t x lo none none)(hd:o1.dst=some d)(hw:wantedP ops o1 st=some true)(hop2:o2.op = .call c)(hcal:c.callee = .builtin .clear)(hargs:c.args=#[.tmp d])(hat:c.argTypes[0]? = some t2)(ht2:t2=t)(hg2:o2.guard=none)(hd2:o2.dst=none)
  (hnt:Nat.blt d I.nt=true)(hx:ev st x=some (.own q))(hq:look st.hp q=some (.arr e s n f))(hlo:optInt st 0 lo=some lv)(hi:I.ti t=some i)(hu:i.und = .sl e')(hj:I.ti e'=some j)(hs:j.size=s)(hs1:1≤s)(hz:j.zero.length=j.size)
  (hz1:j.zero.all PV.one=true)(hzs:ImpC j.zero zs)(hc:0≤lv∧lv≤(n:Int))(hk:pops P E ops Q rest (({ st with hp:=(q,.arr e s n (clrF f lv.toNat zs))::del q st.hp }:St).put d .any)):pops P E ops Q l st:=by
 subst hl
 rintro a w ⟨F,g,r⟩
 have hd':d<E.nt:=by rw[hG.nt]; simpa[Nat.blt_eq] using hnt
 have hte:=(hG.ti _ _ hi).und
 rw[hu]at hte
 have hxv:=ev_ok r hx
 obtain⟨u,hue⟩:∃ u,a.eval x=u:=⟨_,rfl⟩
 rw[hue]at hxv
 have hlm:=look_mem hq
 have hob:=r.w.hp.obj _ _ hlm
 cases hxv with
 | @own _ n' cap ad hg=>
  have hcap:n'=n∧n≤cap:=by
   rcases hob with⟨h1,h2⟩ | ⟨b,cap',cur,h1,_,h3,_⟩
   ·rw[hg]at h1; cases h1; omega
   ·rw[hg]at h1; cases h1; exact⟨rfl,h3⟩
  obtain⟨rfl,hcap⟩:=hcap
  have hrun:=run_slice_own (P:=P) (hi:=none) (h:=(n':Int)) r hte (hG.ti _ _ hj) (ad:=ad) hcap hlo rfl ⟨hc.1,hc.2,Int.le_refl _⟩
  obtain⟨v1,hv1⟩:∃ v1,v1=Value.slice (if cap=lv.toNat then ad else ad.map (·.add (lv.toNat*j.size))) ((n':Int).toNat-lv.toNat) (cap-lv.toNat):=⟨_,rfl⟩
  rw[←hv1]at hrun
  have hex:(execOp a.eval o1).run P w = .ok (.value v1) w:=by
   unfold execOp
   simp only[Option.map_none]at hrun
   simp[hop,hue,hrun]
  refine wpList_step fun K hK=>?_
  rw[if_pos (wantedP_ok (ops:=ops.toArray) r (by simpa using hw))]
  unfold Oper.wp
  rw[hex]
  simp only[Oper.upon]
  refine hK _ _ ?_
  rw[hd]
  have hev:(a.put (some d) v1).eval (.tmp d)=v1:=by
   simp only[Act.eval]
   exact Act.put_same a d v1 (by rw[r.nt]; exact hd')
  have key:∃ w2,(Builtin.clear_ c.argTypes o2.type #[v1]).run P w = .ok (.tuple #[]) w2∧RelG E F g { st with hp:=(q,.arr e s n' (clrF f lv.toNat zs))::del q st.hp } a w2:=by
   by_cases h0:(n':Int).toNat-lv.toNat=0
   ·refine⟨w,?_,r.obj0 hq (fun F g w h=>?_)⟩
    ·rw[hv1,h0]
     generalize (if cap=lv.toNat then ad else ad.map (·.add (lv.toNat*j.size)))=A
     unfold Builtin.clear_
     cases A <;> simp[hat,ht2,run_underlying hte]
    ·refine ObjR.row rfl (fun k hk=>?_) h
     simp only[clrF]
     rw[if_pos (by omega)]
   ·rcases hob with⟨h1,h2⟩ | ⟨b,cap',cur,h1,h2,h3,h4,h5,h6,h7⟩
    ·omega
    ·rw[hg]at h1
     injection h1 with h1 h8 h9
     subst h1 h9
     obtain⟨info,z,hi1,hi2,hi3,hi4,hi5⟩:=zeroAt_ok (hG.ti _ _ hj) ((n' - lv.toNat)*j.size) hz (by omega)
     have hzc:(Builtin.zeroCells z.cells (n' - lv.toNat))=(Array.range ((n' - lv.toNat)*j.size)).map (z.cells[· % z.cells.size]!):=by
      unfold Builtin.zeroCells
      rw[hi4]
     obtain⟨vs,hvs⟩:∃ vs,vs=(Builtin.zeroCells z.cells (n' - lv.toNat)).toList:=⟨_,rfl⟩
     have hlen:vs.length=(n' - lv.toNat)*j.size:=by rw[hvs,hzc]; simp
     have hmul:lv.toNat*s+(n' - lv.toNat)*s=n'*s:=by rw[←Nat.add_mul]; congr 1; omega
     have hle:n'*s≤cap*s:=Nat.mul_le_mul_right _ h3
     have hfit:lv.toNat*j.size+0+vs.length≤cur.size:=by rw[hlen,hs,h5]; omega
     have hcell:∀ k,k<(n' - lv.toNat)*s→∃ v x,vs[k]? = some v∧(zeroAt j ((n' - lv.toNat)*j.size))[k]? = some x∧VR F g w x v:=by
      intro k hk
      have hk':k<vs.length:=by rw[hlen,hs]; exact hk
      have hkz:k<(zeroAt j ((n' - lv.toNat)*j.size)).length:=by simp[zeroAt,hs,hk]
      refine⟨vs[k],_,by simp[hk'],List.getElem?_eq_getElem hkz,hi5 F g w k _ _ (List.getElem?_eq_getElem hkz) ?_⟩
      rw[←hzc,←Array.getElem?_toList,←hvs]
      simp[hk']
     have hzero:∀ k x,(zeroAt j ((n' - lv.toNat)*j.size))[k]? = some x→j.zero[k % s]? = some x:=by
      intro k x hx
      simp only[zeroAt,List.getElem?_map]at hx
      have hk:k<(n' - lv.toNat)*j.size:=by
       rcases Nat.lt_or_ge k ((n' - lv.toNat)*j.size) with h | h
       ·exact h
       ·rw[List.getElem?_eq_none (by simpa using h)]at hx; cases hx
      rw[List.getElem?_range hk]at hx
      simp only[Option.map_some,Option.some.injEq]at hx
      have hkm:k % j.zero.length<j.zero.length:=Nat.mod_lt _ (by omega)
      rw[List.getD_eq_getElem?_getD,List.getElem?_eq_getElem hkm]at hx
      simp only[Option.getD_some]at hx
      rw[←hx,←hs,←hz,List.getElem?_eq_getElem hkm]
     have hone:∀ v,v∈vs→v.oneCell'=true:=by
      intro v hv
      obtain⟨k,hk,hkv⟩:=List.mem_iff_getElem.1 hv
      obtain⟨v',x,e1,e2,e3⟩:=hcell k (by rw[←hs,←hlen]; exact hk)
      rw[List.getElem?_eq_getElem hk,hkv]at e1
      cases e1
      exact e3.one (List.all_eq_true.1 hz1 x (List.mem_of_getElem? (hzero k x e2)))
     have hst:=run_storeCells_at (P:=P) b (lv.toNat*j.size) e vs 0 cur w h2 hfit hone
     simp only[Nat.add_zero]at hst
     have hne:¬ cap=lv.toNat:=by omega
     refine⟨_,?_,r.write (cs:=(cur.toList.take (lv.toNat*j.size)++vs++cur.toList.drop (lv.toNat*j.size+vs.length)).toArray) hlm (by rw[hg]; rfl) h2 ?_⟩
     ·rw[hv1,if_neg hne]
      unfold Builtin.clear_
      obtain⟨m,hm⟩:∃ m,(n':Int).toNat-lv.toNat=m+1:=⟨(n':Int).toNat-lv.toNat-1,by omega⟩
      have hm':n' - lv.toNat=m+1:=by omega
      rw[hm]
      rw[hm']at hvs
      simp[hat,ht2,run_underlying hte,run_zeroValue hi1 hi2,Addr.add_none,←hvs,hst]
     ·have hFb:=(r.w.hp.own q _ b hlm (.self (by rw[hg]; rfl))).1
      have hF:=setRow_F (F:=F) (w:=w) (cs:=(cur.toList.take (lv.toNat*j.size)++vs++cur.toList.drop (lv.toNat*j.size+vs.length)).toArray) hFb
      refine RowR.obj (b:=b) (cap:=cap) ⟨fun k hk=>?_,fun k m x hk hx=>?_⟩ hg (setRow_heap w b cur _ e _ h2) h3 h4 ?_
      ·simp only[clrF]
       split
       ·exact h6 k hk
       ·rw[hzs.1,hz,hs]
      ·have hms:m<s:=by
        have:=(List.getElem?_eq_some_iff.1 hx).1
        simp only[clrF]at this
        split at this
        ·rw[h6 k hk]at this; exact this
        ·rw[hzs.1,hz,hs]at this; exact this
       have hkm:k*s+m<n'*s:=by
        calc k*s+m<k*s+s:=by omega
         _=(k+1)*s:=by rw[Nat.succ_mul]
         _≤n'*s:=Nat.mul_le_mul_right _ hk
       simp only[List.getElem?_toArray,List.append_assoc]
       simp only[clrF]at hx
       split at hx
       ·rename_i hkl
        have hlt:k*s+m<lv.toNat*j.size:=by
         rw[hs]
         calc k*s+m<k*s+s:=by omega
          _=(k+1)*s:=by rw[Nat.succ_mul]
          _≤lv.toNat*s:=Nat.mul_le_mul_right _ hkl
        obtain⟨v,hv,hr⟩:=h7 k m x hk hx
        refine⟨v,?_,by have:=hr.mono hF; simpa only[List.append_assoc] using this⟩
        rw[List.getElem?_append_left (by simp; omega),List.getElem?_take,if_pos hlt]
        simpa using hv
       ·rename_i hkl
        have hge:lv.toNat*s≤k*s:=Nat.mul_le_mul_right _ (by omega)
        obtain⟨v,y,e1,e2,e3⟩:=hcell (k*s+m-lv.toNat*s) (by omega)
        have hmod:(k*s+m-lv.toNat*s) % s=m:=by
         have:k*s+m-lv.toNat*s=(k-lv.toNat)*s+m:=by rw[Nat.sub_mul]; omega
         rw[this,Nat.mul_comm,Nat.mul_add_mod,Nat.mod_eq_of_lt hms]
        have hy:=hzero _ _ e2
        rw[hmod]at hy
        refine⟨v,?_,?_⟩
        ·rw[List.getElem?_append_right (by simp; rw[hs]; omega),List.getElem?_append_left (by simp; rw[hlen,hs]; omega)]
         simp only[List.length_take,Array.length_toList]
         rw[show min (lv.toNat*j.size) cur.size=lv.toNat*s by rw[hs]; omega]
         exact e1
        ·have:=((hzs.2 m y x hy hx _ _ _ _ e3).cells_t rfl).mono hF
         simpa only[List.append_assoc] using this
      ·simp only[List.size_toArray,List.length_append,List.length_take,List.length_drop,Array.length_toList]
       omega
  obtain⟨w2,hr2,hrel⟩:=key
  refine wpList_step fun K2 hK2=>?_
  rw[if_pos (by simp[Region.wanted,hg2])]
  have hex2:(execOp (a.put (some d) v1).eval o2).run P w = .ok (.value (.tuple #[])) w2:=by
   unfold execOp
   simp[hop2,resolve,hcal,invoke,hargs,hev,builtin,hr2]
  unfold Oper.wp
  rw[hex2]
  simp only[Oper.upon]
  refine hK2 _ _ (hk _ _ ⟨F,g,?_⟩)
  rw[hd2]
  exact hrel.put hd' (.any (by rw[hv1]; rfl))
theorem apzI_ok{all:List Oper}{op:Oper}{d e:Nat}{j:TInf}{k:Int}(h:apzI I all op st=some (d,e,j,k)):
  ∃ s x t t' i i' kk,op.op = .call ⟨.builtin .append,#[s,x],#[t,t']⟩∧op.dst=some d∧wantedP all op st=some true∧I.ti t=some i∧I.ti t'=some i'∧i.und = .sl e∧i'.und = .int kk∧I.ti e=some j ∧
   ev st s=some .nil∧ev st x=some (.t (.int .i64 k))∧1≤j.size∧1≤j.bytes∧j.zero.length=j.size:=by
 unfold apzI at h
 split at h
 case h_2=>cases h
 rename_i c d' e1 e2 e3
 split at h
 case h_2=>cases h
 rename_i s x t t' e4 e5 e6
 split at h
 case h_2=>cases h
 rename_i i i' k' e7 e8 e9 e10
 split at h
 case h_2=>cases h
 rename_i e' kk e11 e12
 split at h
 case h_2=>cases h
 rename_i j' e13
 split at h
 case h_2=>cases h
 rename_i e14
 cases h
 obtain⟨cal,args,ats⟩:=c
 simp only at e4 e5 e6
 have ha':args=#[s,x]:=by rw[←Array.toArray_toList (xs:=args),e5]
 have ht':ats=#[t,t']:=by rw[←Array.toArray_toList (xs:=ats),e6]
 subst ha'; subst ht'; subst e4
 simp only[Bool.and_eq_true]at e14
 exact⟨s,x,t,t',i,i',kk,e1,e2,e3,e7,e8,e11,e12,e13,e9,e10,Nat.le_of_ble_eq_true e14.1,Nat.le_of_ble_eq_true e14.2.1,Nat.eq_of_beq_eq_true e14.2.2⟩
theorem pops_apz(hG:Good P E I){all l:List Oper}{op:Oper}{d e:Nat}{j:TInf}{k:Int}{ts:List T}(h:apzI I all op st=some (d,e,j,k))(hts:ImpC j.zero ts)(hk0:0≤k)(hb:k.toNat*j.bytes≤140737488355328)
  (hn:newP I st d (.arr e j.size k.toNat (fun _=>ts)) (.own d)=some st')(hk:pops P E all Q l st'):pops P E all Q (op::l) st:=by
 obtain⟨s,x,t,t',i,i',kk,h1,h2,h3,h4,h5,h6,h7,h8,h9,h10,h11,h12,h13⟩:=apzI_ok h
 refine pops_step rfl h3 fun F g a w r=>?_
 have hte:=(hG.ti _ _ h4).und
 rw[h6]at hte
 have hti:=(hG.ti _ _ h5).und
 rw[h7]at hti
 obtain⟨info,z,hi1,hi2,hi3,hi4,hi5⟩:=zeroAt_ok (hG.ti _ _ h8) (k.toNat*j.size) h13 h11
 obtain⟨info',hi1',hi6,hi7,_⟩:=(hG.ti _ _ h8).info
 rw[hi1]at hi1'; cases hi1'
 obtain⟨u,hu⟩:∃ u,a.eval s=u:=⟨_,rfl⟩
 have hv:=ev_ok r h9
 rw[hu]at hv
 cases hv
 have hx:=(ev_ok r h10).inv_int
 have hm63:k.toNat≤140737488355328:=Nat.le_trans (Nat.le_mul_of_pos_right k.toNat h12) hb
 have hwr:IntKind.i64.wrap k=k:=by simp only[IntKind.wrap,IntKind.bits,IntKind.signed]; simp; omega
 have hzc:z.cells.size=j.size:=hi4
 suffices hmain:∃ u w',(Builtin.append_ #[t,t'] op.type #[a.eval s,a.eval x]).run P w = .ok u w'∧Rel E st' (a.put (some d) u) w' by
  obtain⟨u,w',e1,e2⟩:=hmain
  exact⟨_,u,w',_,by unfold execOp; simp[h1,resolve,invoke,builtin,e1],.inl rfl,by rw[h2]; exact e2,hk⟩
 by_cases h0:k.toNat=0
 ·have hk00:k=0:=by omega
  subst hk00
  have hrun:(Builtin.append_ #[t,t'] op.type #[a.eval s,a.eval x]).run P w = .ok (.slice none 0 0) w:=by
   rw[hu,hx]
   have e0:IntKind.i64.wrap 0=0:=hwr
   clear hwr hx hu
   simp[Builtin.append_,run_underlying hte,run_underlying hti,sizeOf,typeInfo,hi1,asInt,asIntOf,e0]
  refine⟨.slice none 0 0,w,hrun,?_⟩
  unfold newP at hn
  split at hn
  ·rename_i st1 g1 g2 g3
   cases hn
   have hd':d<E.nt:=by rw[hG.nt]; simpa[Nat.blt_eq] using g1
   refine⟨F,upd g d (.slice none 0 0),r.putW hd' (fun b hb=>⟨hb,rfl⟩) (fun t y hy=>?_) ?_ (.own (upd_same ..))⟩
   ·obtain⟨e1,e2⟩:=St.erase_fr g3 t y hy
    exact⟨e1,fun o ho=>upd_other g _ (e2 o ho)⟩
   ·refine⟨HpR.change r.w.hp g3 (fun o ho=>upd_other g _ ho) (fun b hb=>⟨hb,rfl⟩) (fun _ h=>h) (fun _ _ _ _ _ _=>rfl) (.inl ⟨upd_same ..,rfl⟩)
     (fun b hb=>by have hb:=hb.toBlk rfl; rw[upd_same]at hb; simp[blk]at hb) (fun o y b _ _ _ hb=>by have hb:=hb.toBlk rfl; rw[upd_same]at hb; simp[blk]at hb),r.w.f0,r.w.f1,r.w.ext,fun o ho=>?_,r.w.b0⟩
    rw[upd_other g _ (fun e:o=d=>nmem_ok g2 (hG.N▸e▸ho))]
    exact r.w.names o ho
  ·cases hn
 ·have hb1:1≤k.toNat:=by omega
  have hneg:¬ k<0:=by omega
  have h48:¬ (281474976710656<k*(info.bytes:Int)):=by
   have:(k.toNat:Int)=k:=by omega
   rw[hi7,←this]
   have h':((k.toNat*j.bytes:Nat):Int)≤((140737488355328:Nat):Int):=Int.ofNat_le.2 hb
   rw[Int.natCast_mul]at h'
   generalize (k.toNat:Int)*(j.bytes:Int)=q at h' ⊢
   omega
  have hsz0:¬ (k.toNat*j.size=0):=by
   intro h
   rcases Nat.mul_eq_zero.1 h with h | h
   ·exact h0 h
   ·omega
  have h63:¬ (9223372036854775807<(k.toNat:Int)):=by omega
  have h60:¬ k≤0:=by omega
  have h61:¬ (9223372036854775807<max k 0):=by omega
  have h48':¬ (281474976710656<Builtin.nextslicecap k.toNat 0*info.bytes):=by rw[nextslicecap_zero hb1,hi7]; omega
  have hrun:(Builtin.append_ #[t,t'] op.type #[a.eval s,a.eval x]).run P w = .ok (.slice (some ⟨w.heap.size,0,none⟩) k.toNat (grownCap w k.toNat 0 e))
    (w.drew.alloc (.cells (Builtin.zeroCells z.cells k.toNat++Builtin.zeroCells z.cells (grownCap w k.toNat 0 e-k.toNat)) e)):=by
   rw[hu,hx]
   simp[Builtin.append_,run_underlying hte,run_underlying hti,sizeOf,typeInfo,zeroValue,hi1,hi2,asInt,asIntOf,hwr,hneg,h48,hsz0,h60,h61,h48',Question.forced,newRow,grownCap,Builtin.firstCells,hi6]
  have hcap:=grownCap_ge w k.toNat 0 e
  have hcapm:=grownCap_le_maxLen w k.toNat 0 e (by simp only[maxLen]; omega)
  have hrel:Rel E st' (a.put (some d) (.slice (some ⟨w.heap.size,0,none⟩) k.toNat (grownCap w k.toNat 0 e))) (w.drew.alloc (.cells (Builtin.zeroCells z.cells k.toNat++Builtin.zeroCells z.cells (grownCap w k.toNat 0 e-k.toNat)) e)):=by
   refine newP_ok hG.N hG.nt r hn rfl rfl rfl rfl rfl (fun g' _ hv=>?_) (fun g' hv=>.own hv)
   refine RowR.obj ⟨fun i hi=>by rw[hts.1,h13],fun i q y hi hy=>?_⟩ hv (heap_alloc_new w.drew _) hcap hcapm ?_
   ·have hq:q<j.size:=by rw[←h13,←hts.1]; exact(List.getElem?_eq_some_iff.1 hy).1
    have hlt:i*j.size+q<k.toNat*j.size:=by
     have:(i+1)*j.size≤k.toNat*j.size:=Nat.mul_le_mul_right _ hi
     rw[Nat.add_mul,Nat.one_mul]at this
     omega
    have hmod:(i*j.size+q) % j.size=q:=by rw[Nat.mul_comm,Nat.mul_add_mod,Nat.mod_eq_of_lt hq]
    have hlz:q<z.cells.size:=by omega
    refine⟨z.cells[q],?_,?_⟩
    ·rw[Array.getElem?_append_left (by simp only[size_zeroCells,hzc]; exact hlt)]
     simp only[Builtin.zeroCells,hzc,Array.getElem?_map]
     rw[Array.getElem?_range]
     simp[hlt,hmod,hlz]
    ·have h2:=hi5 F g w (i*j.size+q) (j.zero[q]'(by omega)) z.cells[q] (by
      simp only[zeroAt,List.getElem?_map,h13]
      rw[List.getElem?_range hlt]
      simp[hmod,List.getD_eq_getElem?_getD,show q<j.zero.length by omega]) (by
      simp only[Array.getElem?_map,hzc]
      rw[Array.getElem?_range]
      simp[hlt,hmod,hlz])
     have h3:=hts.2 q (j.zero[q]'(by omega)) y (by simp[show q<j.zero.length by omega]) hy _ _ _ _ h2
     have hh:∀ b,F b→F b∧(w.drew.alloc (.cells (Builtin.zeroCells z.cells k.toNat++Builtin.zeroCells z.cells (grownCap w k.toNat 0 e-k.toNat)) e)).heap[b]? = w.heap[b]?:=fun b hb=>⟨hb,heap_alloc_old w.drew _ (r.w.f1 b hb).1⟩
     exact(h3.cells_t rfl).mono hh
   ·simp only[Array.size_append,size_zeroCells,hzc,←Nat.add_mul]
    congr 1; omega
  exact⟨_,_,hrun,hrel⟩
theorem mksI_ok{all:List Oper}{op:Oper}{d e:Nat}{j:TInf}{lv cv:Int}(h:mksI I all op st=some (d,e,j,lv,cv)):
  ∃ t l c i,op.op = .makeSlice t l c∧op.dst=some d∧wantedP all op st=some true∧I.ti t=some i∧i.und = .sl e∧I.ti e=some j ∧
   ev st l=some (.t (.int .i64 lv))∧ev st c=some (.t (.int .i64 cv))∧1≤j.size∧1≤j.bytes∧j.zero.length=j.size:=by
 unfold mksI at h
 split at h
 case h_2=>cases h
 rename_i t l c d' e1 e2 e3
 split at h
 case h_2=>cases h
 rename_i i lv' cv' e4 e5 e6
 split at h
 case h_2=>cases h
 rename_i e' e7
 split at h
 case h_2=>cases h
 rename_i j' e8
 split at h
 case h_2=>cases h
 rename_i e9
 cases h
 simp only[Bool.and_eq_true]at e9
 exact⟨t,l,c,i,e1,e2,e3,e4,e7,e8,e5,e6,Nat.le_of_ble_eq_true e9.1,Nat.le_of_ble_eq_true e9.2.1,Nat.eq_of_beq_eq_true e9.2.2⟩
theorem pops_mks(hG:Good P E I){all l:List Oper}{op:Oper}{d e:Nat}{j:TInf}{lv cv:Int}{ts:List T}(h:mksI I all op st=some (d,e,j,lv,cv))(hts:ImpC j.zero ts)(hk0:0≤lv∧lv≤cv)(hb:cv.toNat*j.bytes≤140737488355328)
  (hn:newP I st d (.arr e j.size lv.toNat (fun _=>ts)) (.own d)=some st')(hk:pops P E all Q l st'):pops P E all Q (op::l) st:=by
 obtain⟨t,lo,co,i,h1,h2,h3,h4,h6,h8,h9,h10,h11,h12,h13⟩:=mksI_ok h
 refine pops_step rfl h3 fun F g a w r=>?_
 have hte:=(hG.ti _ _ h4).und
 rw[h6]at hte
 obtain⟨info,z,hi1,hi2,hi3,hi4,hi5⟩:=zeroAt_ok (hG.ti _ _ h8) (lv.toNat*j.size) h13 h11
 obtain⟨info',hi1',hi6,hi7,_⟩:=(hG.ti _ _ h8).info
 rw[hi1]at hi1'; cases hi1'
 have hx:=(ev_ok r h9).inv_int
 have hy:=(ev_ok r h10).inv_int
 have hm63:cv.toNat≤140737488355328:=Nat.le_trans (Nat.le_mul_of_pos_right cv.toNat h12) hb
 have wl:IntKind.i64.wrap lv=lv:=by simp only[IntKind.wrap,IntKind.bits,IntKind.signed]; simp; omega
 have wc:IntKind.i64.wrap cv=cv:=by simp only[IntKind.wrap,IntKind.bits,IntKind.signed]; simp; omega
 have hzc:z.cells.size=j.size:=hi4
 have n1:¬ cv<0:=by omega
 have n2:¬ (281474976710656<(info.bytes:Int)*cv):=by
  have:(cv.toNat:Int)=cv:=by omega
  rw[hi7,←this,Int.mul_comm]
  have h':((cv.toNat*j.bytes:Nat):Int)≤((140737488355328:Nat):Int):=Int.ofNat_le.2 hb
  rw[Int.natCast_mul]at h'
  generalize (cv.toNat:Int)*(j.bytes:Int)=q at h' ⊢
  omega
 have n3:¬ lv<0:=by omega
 have n4:¬ cv<lv:=by omega
 have n5:¬ (140737488355328<cv.toNat*info.bytes):=by rw[hi7]; omega
 have hcap:lv.toNat≤cv.toNat:=by omega
 have hrun:(Instr.makeSlice t (.int .i64 lv) (.int .i64 cv)).run P w = .ok (.slice (some ⟨w.heap.size,0,none⟩) lv.toNat cv.toNat)
   (w.alloc (.cells ((Array.range (cv.toNat*j.size)).map fun q=>z.cells[q % j.size]!) e)):=by
  by_cases hz0:cv.toNat*j.size=0
  ·have hz1:cv.toNat*info.size=0:=by rw[hi6]; exact hz0
   simp[Instr.makeSlice,run_underlying hte,asInt,asIntOf,typeInfo,hi1,sizeOf,wl,wc,n1,n2,n3,n4,hz1,hz0,newRow,askRoom,roomBytes]
   have e0:∀ f:Nat→Value,(Array.range 0).map f=#[]:=fun f=>Array.eq_empty_of_size_eq_zero (by simp)
   rw[e0,e0]
  ·have hz1:¬ cv.toNat*info.size=0:=by rw[hi6]; exact hz0
   simp[Instr.makeSlice,run_underlying hte,asInt,asIntOf,typeInfo,hi1,sizeOf,zeroValue,hi2,wl,wc,n1,n2,n3,n4,hz0,newRow,askRoom,roomBytes,hi6,hzc]
 suffices hrel:Rel E st' (a.put (some d) (.slice (some ⟨w.heap.size,0,none⟩) lv.toNat cv.toNat)) (w.alloc (.cells ((Array.range (cv.toNat*j.size)).map fun q=>z.cells[q % j.size]!) e)) by
  exact⟨_,.slice (some ⟨w.heap.size,0,none⟩) lv.toNat cv.toNat,w.alloc (.cells ((Array.range (cv.toNat*j.size)).map fun q=>z.cells[q % j.size]!) e),_,by unfold execOp; simp[h1,hx,hy,hrun],.inl rfl,by rw[h2]; exact hrel,hk⟩
 refine newP_ok hG.N hG.nt r hn rfl rfl rfl rfl rfl (fun g' _ hv=>?_) (fun g' hv=>.own hv)
 refine RowR.obj ⟨fun i hi=>by rw[hts.1,h13],fun i q y hi hy'=>?_⟩ hv (heap_alloc_new w _) hcap (by simp only[maxLen]; omega) (by simp)
 have hq:q<j.size:=by rw[←h13,←hts.1]; exact(List.getElem?_eq_some_iff.1 hy').1
 have hlt:i*j.size+q<lv.toNat*j.size:=by
  have:(i+1)*j.size≤lv.toNat*j.size:=Nat.mul_le_mul_right _ hi
  rw[Nat.add_mul,Nat.one_mul]at this
  omega
 have hlt':i*j.size+q<cv.toNat*j.size:=Nat.lt_of_lt_of_le hlt (Nat.mul_le_mul_right _ hcap)
 have hmod:(i*j.size+q) % j.size=q:=by rw[Nat.mul_comm,Nat.mul_add_mod,Nat.mod_eq_of_lt hq]
 have hlz:q<z.cells.size:=by omega
 refine⟨z.cells[q],?_,?_⟩
 ·simp only[Array.getElem?_map]
  rw[Array.getElem?_range]
  simp[hlt',hmod,hlz]
 ·have h2:=hi5 F g w (i*j.size+q) (j.zero[q]'(by omega)) z.cells[q] (by
   simp only[zeroAt,List.getElem?_map,h13]
   rw[List.getElem?_range hlt]
   simp[hmod,List.getD_eq_getElem?_getD,show q<j.zero.length by omega]) (by
   simp only[Array.getElem?_map,hzc]
   rw[Array.getElem?_range]
   simp[hlt,hmod,hlz])
  have h3:=hts.2 q (j.zero[q]'(by omega)) y (by simp[show q<j.zero.length by omega]) hy' _ _ _ _ h2
  have hh:∀ b,F b→F b∧(w.alloc (.cells ((Array.range (cv.toNat*j.size)).map fun q=>z.cells[q % j.size]!) e)).heap[b]? = w.heap[b]?:=fun b hb=>⟨hb,heap_alloc_old w _ (r.w.f1 b hb).1⟩
  exact(h3.cells_t rfl).mono hh
theorem apsI_ok{all:List Oper}{op:Oper}{d e:Nat}{j:TInf}{p:PV}{b:ByteArray}(h:apsI I all op st=some (d,e,j,p,b)):
  ∃ s x t t' i i',op.op = .call ⟨.builtin .append,#[s,x],#[t,t']⟩∧op.dst=some d∧wantedP all op st=some true∧I.ti t=some i∧I.ti t'=some i'∧i.und = .sl e∧i'.und = .str∧I.ti e=some j ∧
   ev st s=some p∧ev st x=some (.t (.str b))∧j.size=1∧j.bytes=1∧j.zero.length=j.size:=by
 unfold apsI at h
 split at h
 case h_2=>cases h
 rename_i c d' e1 e2 e3
 split at h
 case h_2=>cases h
 rename_i s x t t' e4 e5 e6
 split at h
 case h_2=>cases h
 rename_i i i' p' b' e7 e8 e9 e10
 split at h
 case h_2=>cases h
 rename_i e' e11 e12
 split at h
 case h_2=>cases h
 rename_i j' e13
 split at h
 case h_2=>cases h
 rename_i e14
 cases h
 obtain⟨cal,args,ats⟩:=c
 simp only at e4 e5 e6
 have ha':args=#[s,x]:=by rw[←Array.toArray_toList (xs:=args),e5]
 have ht':ats=#[t,t']:=by rw[←Array.toArray_toList (xs:=ats),e6]
 subst ha'; subst ht'; subst e4
 simp only[Bool.and_eq_true]at e14
 exact⟨s,x,t,t',i,i',e1,e2,e3,e7,e8,e11,e12,e13,e9,e10,Nat.eq_of_beq_eq_true e14.1,Nat.eq_of_beq_eq_true e14.2.1,Nat.eq_of_beq_eq_true e14.2.2⟩
theorem strRow{F:Nat→Prop}{w:World}(s:ByteArray){z:Nat}(hz:z=1):RowR F w z s.size (eF cU8 (bytesI s)) ((Go.Lib.strCells s)[·]?):=by
 subst hz
 refine⟨fun i hi=>rfl,fun i q x hi hx=>?_⟩
 have hlen:s.data.toList.length=s.size:=by simp
 match q,hx with
 | 0,hx=>
  simp only[eF,cU8,List.getElem?_cons_zero,Option.some.injEq]at hx
  subst hx
  have hi':i<s.data.toList.length:=by omega
  refine⟨.int .u8 ((s.data.toList[i]).toNat:Int),?_,?_⟩
  ·have hi2:i<s.data.size:=hi
   simp[Go.Lib.strCells,Array.getElem?_eq_getElem hi2]
  ·have:(bytesI s).getD i default=((s.data.toList[i]).toNat:Int):=by
    have hi2:i<s.data.size:=hi
    simp[bytesI,List.getD_eq_getElem?_getD,Array.getElem?_eq_getElem hi2]
   rw[this]
   exact .int _ _
 | q+1,hx=>simp[eF,cU8]at hx
theorem pops_apsn(hG:Good P E I){all l:List Oper}{op:Oper}{d e:Nat}{j:TInf}{b:ByteArray}(h:apsI I all op st=some (d,e,j,.nil,b))(hC:b.size≤140737488355328)
  (hn:newP I st d (.arr e j.size b.size (eF cU8 (bytesI b))) (.own d)=some st')(hk:pops P E all Q l st'):pops P E all Q (op::l) st:=by
 obtain⟨s,x,t,t',i,i',h1,h2,h3,h4,h5,h6,h7,h8,h9,h10,h11,h12,h13⟩:=apsI_ok h
 refine pops_step rfl h3 fun F g a w r=>?_
 have hte:=(hG.ti _ _ h4).und
 rw[h6]at hte
 have hti:=(hG.ti _ _ h5).und
 rw[h7]at hti
 obtain⟨u,hu⟩:∃ u,a.eval s=u:=⟨_,rfl⟩
 have hv:=ev_ok r h9
 rw[hu]at hv
 cases hv
 have hx:=(ev_ok r h10).inv_str
 obtain⟨v,w',e1,e2⟩:=append_strnil_ok (P:=P) hG.N hG.nt r hte hti (hG.ti _ _ h8) h11 op.type (by omega) h13 (m:=b.size) (s:=b) rfl (strRow b h11) (by rw[h12]; omega) hn
 exact⟨_,v,w',_,by unfold execOp; simp[h1,resolve,invoke,builtin,hu,hx,e1],.inl rfl,by rw[h2]; exact e2,hk⟩
theorem pops_apso(hG:Good P E I){all l:List Oper}{op:Oper}{d e o n:Nat}{j:TInf}{b:ByteArray}{f:Nat→List T}{st1:St}(h:apsI I all op st=some (d,e,j,.own o,b))(hC:n+b.size≤140737488355328)
  (hl:look st.hp o=some (.arr e j.size n f))(he:st.erase o=some st1)(hn:newP I st1 d (.arr e j.size (n+b.size) (appF n f (eF cU8 (bytesI b)))) (.own d)=some st')(hk:pops P E all Q l st'):pops P E all Q (op::l) st:=by
 obtain⟨s,x,t,t',i,i',h1,h2,h3,h4,h5,h6,h7,h8,h9,h10,h11,h12,h13⟩:=apsI_ok h
 refine pops_step rfl h3 fun F g a w r=>?_
 have hte:=(hG.ti _ _ h4).und
 rw[h6]at hte
 have hti:=(hG.ti _ _ h5).und
 rw[h7]at hti
 have hx:=(ev_ok r h10).inv_str
 obtain⟨v,w',e1,e2⟩:=append_strown_ok (P:=P) hG.N hG.nt r hte hti (hG.ti _ _ h8) h11 op.type (by omega) h13 (ev_ok r h9) (m:=b.size) (s:=b) rfl (strRow b h11) (by rw[h12]; omega) hl (.of he) hn
 exact⟨_,v,w',_,by unfold execOp; simp[h1,resolve,invoke,builtin,hx,e1],.inl rfl,by rw[h2]; exact e2,hk⟩
theorem pops_abl(hG:Good P E I){all l:List Oper}{op:Oper}{t d e:Nat}{i:TInf}{st1:St}(hop:op.op = .alloc t)(hd:op.dst=some d)(hw:wantedP all op st=some true)(hnt:Nat.blt d I.nt=true)(hn:nmem d I.N=true)
  (hi:I.ti t=some i)(hz:i.zero=[.np,.nil])(he:st.erase d=some st1)(hk:pops P E all Q l ({ st1 with hp:=(d,.bld t e ⟨#[]⟩)::st1.hp }.put d (.ptr d 0))):pops P E all Q (op::l) st:=by
 refine pops_step rfl hw fun F g a w r=>?_
 have hd':d<E.nt:=by rw[hG.nt]; simpa[Nat.blt_eq] using hnt
 obtain⟨info,z,h1,h2,h3,h4⟩:=zero_ok (F:=F) (g:=g) (w:=w) (hG.ti _ _ hi)
 rw[hz]at h3 h4
 have h3:z.cells.size=2:=h3
 have hc:z.cells=#[.pointer none,.slice none 0 0]:=by
  have e0:z.cells[0]'(by omega) = .pointer none:=by
   have:=h4 0 .np (z.cells[0]'(by omega)) rfl (by simp)
   generalize z.cells[0]'(by omega)=u at this
   cases this; rfl
  have e1:z.cells[1]'(by omega) = .slice none 0 0:=by
   have:=h4 1 .nil (z.cells[1]'(by omega)) rfl (by simp)
   generalize z.cells[1]'(by omega)=u at this
   cases this; rfl
  apply Array.ext
  ·simp[h3]
  ·intro q hq _
   match q,hq with
   | 0,_=>simpa using e0
   | 1,_=>simpa using e1
   | q+2,hq=>omega
 have hnew:(w.alloc (.cells z.cells t)).heap[w.heap.size]? = some (.cells z.cells t (0,0)):=heap_alloc_new w _
 rw[hc]at hnew
 obtain⟨g',hg'⟩:=r.allocF (x:=.bld t e ⟨#[]⟩) (v:=.pointer (some ⟨w.heap.size,0,none⟩)) (w':=w.alloc (.cells z.cells t)) (ob:=.cells z.cells t (0,0)) hd' (by rw[hG.N]; exact nmem_ok hn) he rfl rfl rfl rfl rfl
  (fun g' b hg hb=>by
   cases hb with
   | self h=>rw[hg]at h; exact h
   | bld k1 k2 k3=>
    rw[hg]at k1; injection k1 with k1; injection k1 with k1; injection k1 with k1; subst k1
    rw[hc,hnew]at k2; injection k2 with k2; injection k2 with k2; injection k2 with k2; injection k2 with k2 k4; injection k4 with k4; subst k4
    simp[blk]at k3)
  (fun g' _ hg=>⟨w.heap.size,.pointer none,.slice none 0 0,hg,by rw[hc]; exact hnew,.inl rfl,.inl ⟨rfl,rfl⟩⟩)
  (.ptr d 0) (fun g' hg=>.ptr hg)
 have hex:(Instr.alloc t true (.tuple #[])).run P w = .ok (.pointer (some ⟨w.heap.size,0,none⟩)) (w.alloc (.cells z.cells t)):=by simp[Instr.alloc,run_zeroValue h1 h2,newVar,newRow]
 exact⟨_,.pointer (some ⟨w.heap.size,0,none⟩),w.alloc (.cells z.cells t),_,by unfold execOp; simp[hop,hex],.inl rfl,by rw[hd]; exact⟨F,g',hg'⟩,hk⟩
end
end Go.PL
