/-
  Parts: Calls and functions; steps that change the state's form alone. Own work. Calls of functions; freezing, renaming, retyping. Own work. Small lemmas for the printed proofs. Own work. Regions whose order is open: every order, looked at by a computation over abstract states. Own work. Calls that hand memory over. Own work. Regions whose order is open: each operation is looked at once, over what its forerunners give. Own work. Short forms of the rules, for printed proofs. Own work. Maps with numbers or strings as keys: what the model's operations do, and typed maps. Own work. Rules for maps whose values are boxes and rows of the map's own. Own work.
-/
import Derived.Test.YthifkbcpnbcenaaGreatDoorMa
import Derived.Orders
import Derived.KernelRfl
import Derived.Maps.RangeRun
namespace Go.PL
open Go
def Own(g:Nat→Value)(w:World)(H:Hp)(b:Nat):Prop:=∃ o x,(o,x)∈H∧Foot g w o x b
def PCall(P:Program)(k:FuncId)(args:List PV)(H:Hp)(N:List Nat)(Q:PV→Hp→Prop):Prop:=
 ∀ (F:Nat→Prop) (g:Nat→Value) (w:World) (vs:Array Value),vs.size=args.length→(∀ (j:Nat) x v,args[j]? = some x→vs[j]? = some v→VR F g w x v) →
  HpR F g w (fun _=>True) H→(∀ b,F b→b<w.heap.size)→GLP P F w →
  Calls P k vs w fun e w'=>∃ v r H' F' g',e = .returned v∧Q r H'∧VR F' g' w' r v∧RelW { w0:=w,F0:=F,B0:=Own g w H,g0:=g,N:=N,nt:=0 } F' g' H' w'
def initFr:List PV→Nat→Fr
 | [],_=>[]
 | x::l,k=>(k,x)::initFr l (k+1)
theorem initFr_mem:∀ {l:List PV} {k t:Nat} {x:PV},(t,x)∈initFr l k→∃ j,t=k+j∧l[j]? = some x
 | [],k,t,x,h=>by simp[initFr]at h
 | y::l,k,t,x,h=>by
  simp only[initFr,List.mem_cons,Prod.mk.injEq]at h
  rcases h with⟨rfl,rfl⟩ | h
  ·exact⟨0,rfl,by simp⟩
  ·obtain⟨j,h1,h2⟩:=initFr_mem h
   exact⟨j+1,by omega,by simpa using h2⟩
def resOne(I:Inf)(st:St):ResultVar→Option PV
 | .tmp t=>look st.fr t
 | .cell a t=>match look st.fr a,I.ti t with
  | some (.ptr o off),some i=>match look st.hp o with
   | some (.box l)=>readAt i (l.drop off)
   | _=>none
  | _,_=>none
def resAll(I:Inf)(st:St):List ResultVar→Option (List PV)
 | []=>some []
 | x::l=>match resOne I st x,resAll I st l with
  | some p,some r=>some (p::r)
  | _,_=>none
def resP(I:Inf)(rs:List ResultVar)(st:St):Option PV:=
 match resAll I st rs with
 | some [p]=>some p
 | some l=>some (.tup l)
 | none=>none
def pickH(hp:Hp):List Nat→Option Hp
 | []=>some []
 | o::l=>match look hp o,pickH hp l with | some x,some r=>some ((o,x)::r) | _,_=>none
theorem pickH_ok{hp:Hp}:∀ {l:List Nat} {r:Hp},pickH hp l=some r→(∀ e,e∈r→e∈hp∧e.1∈l)
 | [],r,h=>by simp[pickH]at h; subst h; simp
 | o::l,r,h=>by
  simp only[pickH]at h
  split at h
  ·rename_i x r' hx hr
   cases h
   intro e he
   rcases List.mem_cons.1 he with rfl | he
   ·exact⟨look_mem hx,by simp⟩
   ·obtain⟨h1,h2⟩:=pickH_ok hr e he
    exact⟨h1,List.mem_cons_of_mem _ h2⟩
  ·cases h
def finQ(I:Inf)(rs:List ResultVar)(Q:PV→Hp→Prop):Post:=fun e st=>(e = .normal∨e = .ret)∧∃ r L H,resP I rs st=some r∧pickH st.hp L=some H∧Q r H
def rsem(tmps:Array Value):ResultVar→Sem Value
 | .tmp t=>pure (tmps.getD t undef)
 | .cell a t=>do loadVar t (←asAddr (tmps.getD a undef))
theorem results_eq(fn:Func)(tmps:Array Value):results fn tmps=(do let vs ←fn.results.mapM (rsem tmps); pure (if h:vs.size=1 then vs[0] else .tuple vs):Sem Value):=by
 unfold results
 have:(fun | .tmp t=>pure (tmps.getD t undef) | .cell a t=>do loadVar t (←asAddr (tmps.getD a undef)):ResultVar→Sem Value)=rsem tmps:=by
  funext x; cases x <;> rfl
 rw[←this]
 rfl
section
variable {P:Program} {I:Inf}
theorem resOne_ok(hI:TIok P I.ti){E:Env}{F:Nat→Prop}{g:Nat→Value}{st:St}{a:Act}{w:World}(r:RelG E F g st a w){x:ResultVar}{p:PV}(h:resOne I st x=some p):
  ∃ v,(rsem a.tmps x).run P w = .ok v w∧VR F g w p v:=by
 cases x with
 | tmp t=>exact⟨_,by simp[rsem],r.fr _ _ (look_mem h)⟩
 | cell b t=>
  simp only[resOne]at h
  split at h
  ·rename_i o off i hb hi
   split at h
   ·rename_i l hl
    have hv:=r.fr _ _ (look_mem hb)
    obtain⟨u,hu⟩:∃ u,a.tmps.getD b undef=u:=⟨_,rfl⟩
    rw[hu]at hv
    obtain⟨z,hz,hr⟩:=loadP_ok (P:=P) r (hI _ _ hi) (p:=.ptr o off) (x:=p) (C:=True) (by simp[loadP,hl,h]) trivial hv
    cases hv with
    | ptr e=>
     refine⟨z,?_,hr⟩
     simp only[Instr.loadAt,Instr.sureAddr,Sem.run_bind,Sem.run_pure,Result.andThen_ok]at hz
     simp only[rsem,hu]
     simpa[asAddr] using hz
   ·cases h
  ·cases h
theorem resAll_ok(hI:TIok P I.ti){E:Env}{F:Nat→Prop}{g:Nat→Value}{st:St}{a:Act}{w:World}(r:RelG E F g st a w):∀ (rs:List ResultVar) (ps:List PV),resAll I st rs=some ps →
  ∃ vs:List Value,(rs.mapM (rsem a.tmps)).run P w = .ok vs w∧vs.length=ps.length ∧
   ∀ (j:Nat) x v,ps[j]? = some x→vs[j]? = some v→VR F g w x v
 | [],ps,h=>by simp[resAll]at h; subst h; exact⟨[],by simp,rfl,by simp⟩
 | x::rs,ps,h=>by
  simp only[resAll]at h
  split at h
  ·rename_i p q hp hq
   cases h
   obtain⟨v,h1,h2⟩:=resOne_ok hI r hp
   obtain⟨vs,h3,h4,h5⟩:=resAll_ok hI r rs q hq
   refine⟨v::vs,?_,by simp[h4],fun j y u hy hu=>?_⟩
   ·rw[List.mapM_cons]
    simp only[Sem.run_bind,h1,Result.andThen_ok,h3,Sem.run_pure]
   ·cases j with
    | zero=>simp at hy hu; subst hy; subst hu; exact h2
    | succ j=>exact h5 j y u (by simpa using hy) (by simpa using hu)
  ·cases h
theorem resP_ok(hI:TIok P I.ti){E:Env}{F:Nat→Prop}{g:Nat→Value}{st:St}{a:Act}{w:World}(r:RelG E F g st a w){fn:Func}{p:PV}(h:resP I fn.results.toList st=some p):
  ∃ v,(results fn a.tmps).run P w = .ok v w∧VR F g w p v:=by
 unfold resP at h
 cases hr:resAll I st fn.results.toList with
 | none=>rw[hr]at h; cases h
 | some ps=>
  obtain⟨vs,h1,h2,h3⟩:=resAll_ok hI r _ _ hr
  have hm:(fn.results.mapM (rsem a.tmps)).run P w = .ok vs.toArray w:=by
   rw[Array.mapM_eq_mapM_toList]
   show ((fn.results.toList.mapM (rsem a.tmps)) >>= fun l=>pure l.toArray:Sem (Array Value)).run P w=_
   simp[h1]
  rw[results_eq,Sem.run_bind,hm]
  simp only[Result.andThen_ok,Sem.run_pure]
  rw[hr]at h
  split at h
  ·rename_i q hq
   cases hq
   cases h
   have hl:vs.length=1:=by simpa using h2
   obtain⟨v,rfl⟩:=List.length_eq_one_iff.1 hl
   exact⟨v,by simp,h3 0 p v (by simp) (by simp)⟩
  ·rename_i l hne hl
   cases hl
   cases h
   have:vs.length≠1:=by
    intro h1'
    rw[h2]at h1'
    obtain⟨q,hq⟩:=List.length_eq_one_iff.1 h1'
    exact hne q (by rw[hq])
   refine⟨.tuple vs.toArray,?_,.tup (by simpa using h2) fun j x v hx hv=>h3 j x v hx (by simpa using hv)⟩
   rw[dif_neg (by simpa using this)]
  ·cases h
theorem pcall_of{k:FuncId}{fn:Func}{c:Code}{args:List PV}{H:Hp}{Q:PV→Hp→Prop}(hf:P.funcs[k]? = some fn)(hb:fn.body=some c)(hI:TIok P I.ti)(hnt:fn.ntmps=I.nt)
  (hl:args.length≤I.nt)(h:∀ E,Good P E I→pwp P E c (finQ I fn.results.toList Q) ⟨initFr args 0,H⟩):PCall P k args H I.N Q:=by
 intro F g w vs hs hvs hH hF hgl
 refine calls_of_wp hf hb ?_
 have hG:Good P { w0:=w,F0:=F,B0:=Own g w H,g0:=g,N:=I.N,nt:=I.nt } I:=⟨hI,rfl,rfl,hgl,fun b hb=>⟨fun⟨o,x,h1,h2⟩=>(hH.own o x b h1 h2).1 hb,hF b hb⟩⟩
 refine wp_mono (h _ hG _ _ ⟨F,g,?_,rfl,?_,⟨⟨hH.obj,fun o x b hx hb=>⟨(hH.own o x b hx hb).1,.inl ⟨o,x,hx,hb⟩⟩,hH.sep⟩,fun _ h=>h,fun b hb=>⟨hF b hb,.inl hb⟩,
  ⟨rfl,rfl,rfl,Nat.le_refl _,fun _ _ _=>rfl⟩,fun _ _=>rfl,fun b ⟨o,x,hx,hb⟩=>hb.block (hH.obj o x hx)⟩⟩) ?_
 ·simp only[Array.size_append,Array.size_replicate]; omega
 ·intro t x hx
  obtain⟨j,rfl,hj⟩:=initFr_mem hx
  have hlt:j<vs.size:=by rw[hs]; exact(List.getElem?_eq_some_iff.1 hj).1
  have:(vs++Array.replicate (fn.ntmps-vs.size) undef).getD (0+j) undef=vs[j]:=by
   simp[Array.getD,hlt,Array.getElem_append_left]
   omega
  rw[this]
  exact hvs j x vs[j] hj (by simp[hlt])
 ·rintro e a' w' ⟨st,⟨he,r,L,H1,hr,hL,hq⟩,F',g',hrel⟩
  obtain⟨v,hv1,hv2⟩:=resP_ok hI hrel hr
  have:a'.defers=[]∧∃ v,(results fn a'.tmps).run P w' = .ok v w'∧(fun (e:Ending) w'=>∃ v r H' F' g',e = .returned v∧Q r H'∧VR F' g' w' r v∧RelW { w0:=w,F0:=F,B0:=Own g w H,g0:=g,N:=I.N,nt:=0 } F' g' H' w') (.returned v) w':=
   ⟨hrel.df,v,hv1,v,r,H1,F',g',rfl,hq,hv2,⟨hrel.w.hp.sub fun e he=>(pickH_ok hL e he).1,hrel.w.f0,hrel.w.f1,hrel.w.ext,hrel.w.names,hrel.w.b0⟩⟩
  rcases he with rfl | rfl
  ·exact this
  ·exact this
theorem PCall.mono{k:FuncId}{args:List PV}{H:Hp}{N:List Nat}{Q Q':PV→Hp→Prop}(h:PCall P k args H N Q)(hq:∀ r H',Q r H'→Q' r H'):PCall P k args H N Q':=by
 intro F g w vs h1 h2 h3 h4 h5
 exact(h F g w vs h1 h2 h3 h4 h5).mono fun e w' ⟨v,r,H',F',g',a,b,c,d⟩=>⟨v,r,H',F',g',a,hq _ _ b,c,d⟩
end
inductive ArgR (st:St)(L:List Nat):PV→PV→Prop
 | same (p:PV):ArgR st L p p
 | nil {x:T} {f:Nat→List T} (h:x.view=some (0,f)):ArgR st L .nil (.t x)
 | imp {p q:PV} (h:∀ F g w v,VR F g w p v→VR F g w q v):ArgR st L p q
 | lend {o:Nat} {e:TypeId} {s n:Nat} {f:Nat→List T} {x:T} (ho:o∈L) (h:look st.hp o=some (.arr e s n f)) (hx:x.view=some (n,f)):ArgR st L (.own o) (.t x)
inductive ArgsR (st:St)(L:List Nat):List PV→List PV→Prop
 | nil:ArgsR st L [] []
 | cons {p q:PV} {l r:List PV} (h:ArgR st L p q) (t:ArgsR st L l r):ArgsR st L (p::l) (q::r)
theorem ArgsR.get{st:St}{L:List Nat}{l r:List PV}(h:ArgsR st L l r):r.length=l.length∧∀ (j:Nat) q,r[j]? = some q→∃ p,l[j]? = some p∧ArgR st L p q:=by
 induction h with
 | nil=>simp
 | cons h _ ih=>
  refine⟨by simp[ih.1],fun j q hj=>?_⟩
  cases j with
  | zero=>simp at hj; subst hj; exact⟨_,by simp,h⟩
  | succ j=>simpa using ih.2 j q (by simpa using hj)
def T.scalar:T→Bool
 | .int ..=>true | .bool _=>true | .str _=>true | _=>false
def PV.scalar:PV→Bool
 | .t x=>x.scalar
 | .tup l=>go l
 | _=>false
where go:List PV→Bool
 | []=>true
 | .t x::l=>x.scalar&&go l
 | _::_=>false
def PV.pure(p:PV):Bool:=match p.names with | []=>true | _=>false
theorem scalar_go{l:List PV}(h:PV.scalar.go l=true):∀ x,x∈l→∃ y,x = .t y∧y.scalar=true:=by
 induction l with
 | nil=>simp
 | cons x l ih=>
  cases x <;> simp[PV.scalar.go]at h
  intro z hz
  rcases List.mem_cons.1 hz with rfl | hz
  ·exact⟨_,rfl,h.1⟩
  ·exact ih h.2 z hz
section
variable {F F':Nat→Prop} {g g':Nat→Value} {w:World}
theorem VR.pure_g{p:PV}{v:Value}(h:VR F g w p v)(hp:p.pure=true)(g':Nat→Value):VR F g' w p v:=by
 refine h.mono (fun b hb=>⟨hb,rfl⟩) fun o ho=>?_
 unfold PV.pure at hp
 split at hp
 ·rename_i hn; rw[hn]at ho; simp at ho
 ·cases hp
theorem Rd.scalar_F{x:T}{v:Value}(h:Rd F w x v)(hx:x.scalar=true)(F':Nat→Prop)(w':World):Rd F' w' x v:=by
 cases x <;> simp[T.scalar]at hx
 ·rw[h.inv_int]; exact .int _ _
 ·rw[h.inv_bool]; exact .bool _
 ·rw[h.inv_str]; exact .str _
theorem VR.scalar_F{p:PV}{v:Value}(h:VR F g w p v)(hp:p.scalar=true)(F':Nat→Prop)(g':Nat→Value):VR F' g' w p v:=by
 cases p <;> simp[PV.scalar]at hp
 case t=>exact .t ((h.cells_t rfl).scalar_F hp _ _)
 case tup l=>
  cases h with
  | tup hs hr=>
   refine .tup hs fun j x v hx hv=>?_
   obtain⟨y,rfl,hy⟩:=scalar_go hp x (List.mem_of_getElem? hx)
   exact .t (((hr j _ v hx hv).cells_t rfl).scalar_F hy _ _)
theorem own_rd{o:Nat}{e:TypeId}{s n:Nat}{f:Nat→List T}(ho:ObjR F g w o (.arr e s n f))(hF:∀ b,F b→F' b)(hb:∀ b,blk (g o)=some b→F' b){x:T}(hx:x.view=some (n,f)):
  Rd F' w x (g o):=by
 rcases ho with⟨h1,h2⟩ | ⟨b,cap,cur,h1,h2,h3,h4,h5,h6,h7⟩
 ·rw[h1]; subst h2; exact .nil hx
 ·rw[h1]
  refine .sl ⟨b,0,none⟩ cap s (fun i j=>(cur[i*s+j]?).getD undef) hx h3 (fun _=>hb b (by rw[h1]; rfl)) h6 (fun i j hi hj=>?_) (fun i j x hi hx=>?_)
  ·have hj':j<(f i).length:=by rw[h6 i hi]; exact hj
   obtain⟨v,hv,_⟩:=h7 i j _ hi (List.getElem?_eq_getElem hj')
   rw[Addr.add_none]
   simp[World.cell?,h2,hv]
  ·obtain⟨v,hv,hr⟩:=h7 i j x hi hx
   simp only[hv,Option.getD_some]
   exact hr.mono fun b hb=>⟨hF b hb,rfl⟩
end
def Lent(g:Nat→Value)(L:List Nat)(b:Nat):Prop:=∃ o,o∈L∧blk (g o)=some b
def gthawC(N:List Nat)(b j o:Nat)(e:TypeId)(s:Nat)(f:Nat→List T)(st:St):Option St:=
 match nmem o N,Nat.beq b o,st.erase o with
 | true,false,some st1=>match look st1.hp b with
  | some (.box l)=>match l[j]? with
   | some .nil=>some { fr:=st1.fr,hp:=(o,.arr e s 0 f)::(b,.box (l.set j (.own o)))::del b st1.hp }
   | _=>none
  | _=>none
 | _,_,_=>none
structure Callable (P:Program)(k:FuncId):Prop where
 h:∃ fn,P.funcs[k]? = some fn∧fn.body.isNone=false∧(fn.name == "runtime.NumGoroutine")=false
theorem run_callFunc{P:Program}{k:FuncId}(h:Callable P k)(args:Array Value)(w:World):(callFunc k args).run P w = .ok (.enter k args) w:=by
 obtain⟨fn,h1,h2,h3⟩:=h.h
 have h2':¬ fn.body=none:=by intro e; rw[e]at h2; cases h2
 have h3':¬ fn.name = "runtime.NumGoroutine" := by intro e; rw[e]at h3; simp at h3
 simp[callFunc,program,Sem.run,h1,h2',h3']
section
variable {P:Program} {E:Env} {I:Inf} {Q:Post} {st:St}
theorem call_op(hG:Good P E I){ops:List Oper}{o:Oper}{c:Call}{f:Operand}{k d nf:Nat}{caps aps bps:List PV}{Qc:PV→Hp→Prop}(L:List Nat)
  (hop:o.op = .call c)(hcal:c.callee = .value f)(hd:o.dst=some d)(hw:wantedP ops o st=some true)(hnt:Nat.blt d I.nt=true)
  (hf:ev st f=some (.fn (.func k) nf caps))(hargs:evList st c.args.toList=some aps)(hk:Callable P k)(has:ArgsR st L (caps.take nf++aps++caps.drop nf) bps)(hcall:PCall P k bps [] [] Qc)
  {K:Act→World→Prop}{Q':Exit→Act→World→Prop}{a:Act}{w:World}(r:Rel E st a w)
  (hres:∀ r H',Qc r H'→(match L with | []=>r.pure | _=>r.scalar)=true∧∀ a' w',Rel E (st.put d r) a' w'→K a' w'):
  if Region.wanted o (yielded ops.toArray a.tmps) then o.wp P a w K Q' else K (a.put o.dst undef) w:=by
 obtain⟨F,g,r⟩:=r
 have hwt:=wantedP_ok (ops:=ops.toArray) r (by simpa using hw)
 obtain⟨hl1,hr1⟩:=evList_ok r _ _ hargs
 have hfv:=ev_ok r hf
 obtain⟨fv,hfe⟩:∃ u,a.eval f=u:=⟨_,rfl⟩
 rw[hfe]at hfv
 cases hfv with
 | @fn _ _ _ us vs hn hs hr=>
  subst hn
  have hmem:∀ b,Lent g L b→∃ o,o∈L∧blk (g o)=some b:=fun b h=>h
  rw[if_pos hwt]
  unfold Oper.wp
  have hrun:(execOp a.eval o).run P w = .ok (.enter k (us++(c.args.map a.eval)++vs)) w:=by
   unfold execOp
   simp[hop,resolve,hcal,hfe,Deferred.ofValue,invoke,run_callFunc hk]
  rw[hrun]
  have hF':∀ b,(F b∨Lent g (L.filter fun o=>(look st.hp o).isSome) b)→b<w.heap.size:=by
   rintro b (h | ⟨o,ho,hb⟩)
   ·exact(r.w.f1 b h).1
   ·simp only[List.mem_filter]at ho
    obtain⟨x,hx⟩:=Option.isSome_iff_exists.1 ho.2
    exact(r.w.hp.obj o x (look_mem hx)).block hb
  have hcallW:=hcall (fun b=>F b∨Lent g (L.filter fun o=>(look st.hp o).isSome) b) g w (us++c.args.map a.eval++vs) (by
    have:=has.get.1
    simp only[List.length_append,List.length_take,List.length_drop]at this
    have h2:c.args.size=aps.length:=by simpa using hl1.symm
    simp only[Array.size_append]at hs
    simp only[Array.size_append,Array.size_map]; omega) (fun j q v hq hv=>by
    obtain⟨p,hp,hpq⟩:=has.get.2 j q hq
    have hpv:VR F g w p v:=by
     have h2:c.args.size=aps.length:=by simpa using hl1.symm
     have hus:us.size≤caps.length:=by simp at hs; omega
     have htk:(caps.take us.size).length=us.size:=by simp; omega
     by_cases hi:j<us.size
     ·rw[List.append_assoc,List.getElem?_append_left (by omega),List.getElem?_take_of_lt hi]at hp
      rw[Array.append_assoc,Array.getElem?_append_left hi]at hv
      exact hr j p v hp (by rw[Array.getElem?_append_left hi]; exact hv)
     rw[List.append_assoc,List.getElem?_append_right (by omega),htk]at hp
     rw[Array.append_assoc,Array.getElem?_append_right (by omega)]at hv
     by_cases hj:j-us.size<aps.length
     ·rw[List.getElem?_append_left hj]at hp
      rw[Array.getElem?_append_left (by simp; omega)]at hv
      exact hr1 _ p v hp (by simpa using hv)
     ·rw[List.getElem?_append_right (by omega),List.getElem?_drop]at hp
      rw[Array.getElem?_append_right (by simp; omega)]at hv
      refine hr (us.size+(j-us.size-aps.length)) p v hp ?_
      rw[Array.getElem?_append_right (by omega)]
      simpa[h2] using hv
    cases hpq with
    | same=>exact hpv.mono (fun b hb=>⟨.inl hb,rfl⟩) (fun _ _=>rfl)
    | nil hx=>cases hpv; exact .t (.nil hx)
    | imp h=>exact(h _ _ _ _ hpv).mono (fun b hb=>⟨.inl hb,rfl⟩) (fun _ _=>rfl)
    | @lend o e s n f x ho hl hx=>
     refine .t ?_
     have hob:=r.w.hp.obj _ _ (look_mem hl)
     have:=own_rd (F':=fun b=>F b∨Lent g (L.filter fun o=>(look st.hp o).isSome) b) hob (fun b hb=>.inl hb) (fun b hb=>.inr ⟨o,by simp[ho,hl],hb⟩) hx
     cases hpv with
     | own hg=>rw[hg]at this; exact this) ⟨by simp,by simp,by simp⟩ hF' ((hG.glw r.w).mono fun b hb=>⟨.inl hb,rfl⟩)
  simp only[Oper.upon]
  refine hcallW.mono ?_
  rintro e w' ⟨v,res,H',F',g',rfl,hQ,hv,hW⟩
  obtain⟨hpure,hgo⟩:=hres res H' hQ
  refine hgo _ _ ?_
  rw[hd]
  have hext:=hW.ext
  have hblk:∀ b,b<w.heap.size→w'.heap[b]? = w.heap[b]?:=fun b hb=>hext.block b hb (by rintro⟨o,x,hx,_⟩; simp at hx)
  have hFF:∀ b,F b→(F' b∧¬ Lent g (L.filter fun o=>(look st.hp o).isSome) b)∧w'.heap[b]? = w.heap[b]?:=fun b hb=>⟨⟨hW.f0 b (.inl hb),by
   rintro⟨o,ho,hb'⟩
   simp only[List.mem_filter]at ho
   obtain⟨x,hx⟩:=Option.isSome_iff_exists.1 ho.2
   exact(r.w.hp.own o x b (look_mem hx) (.self hb')).1 hb⟩,hblk b (r.w.f1 b hb).1⟩
  have hd':d<E.nt:=by rw[hG.nt]; simpa[Nat.blt_eq] using hnt
  have hvF:VR (fun b=>F' b∧¬ Lent g (L.filter fun o=>(look st.hp o).isSome) b) g w' res v:=by
   cases L with
   | nil=>exact(hv.pure_g hpure g).mono (fun b hb=>⟨⟨hb,by rintro⟨o,ho,_⟩; simp at ho⟩,rfl⟩) (fun _ _=>rfl)
   | cons o L=>exact hv.scalar_F hpure _ _
  have hft:∀ o x b,(o,x)∈st.hp→Foot g w' o x b→Foot g w o x b:=fun o x b hx hb=>hb.mono rfl (fun _ _=>rfl) (fun c hc=>hblk c ((r.w.hp.obj o x hx).block hc))
  refine⟨fun b=>F' b∧¬ Lent g (L.filter fun o=>(look st.hp o).isSome) b,g,(r.putW (st':=st) hd' hFF (fun t y hy=>⟨hy,fun _ _=>rfl⟩) ?_ hvF)⟩
  refine⟨⟨fun o x hx=>?_,fun o x b hx hb=>⟨?_,(r.w.hp.own o x b hx (hft o x b hx hb)).2⟩,fun o x o' y b hx hy hne hb hb'=>r.w.hp.sep o x o' y b hx hy hne (hft o x b hx hb) (hft o' y b hy hb')⟩,fun b hb=>(hFF b (r.w.f0 b hb)).1,fun b hb=>⟨(hW.f1 b hb.1).1,?_⟩,
   r.w.ext.trans hext.os hext.tape hext.output hext.size (fun b hb _=>hblk b (by have:=r.w.ext.size; omega)),r.w.names,r.w.b0⟩
  ·exact(r.w.hp.obj o x hx).mono hFF rfl (fun _ _=>rfl) (fun b hb=>hblk b (hb.block (r.w.hp.obj o x hx)))
  ·rintro⟨h1,h2⟩
   rcases (hW.f1 b h1).2 with h | h | h
   ·rcases h with h | h
    ·exact(r.w.hp.own o x b hx (hft o x b hx hb)).1 h
    ·exact h2 h
   ·obtain⟨o',x',hx',_⟩:=h; simp at hx'
   ·have:b<w.heap.size:=(hft o x b hx hb).block (r.w.hp.obj o x hx)
    have h:w.heap.size≤b:=h
    omega
  ·rcases (hW.f1 b hb.1).2 with h | h | h
   ·rcases h with h | h
    ·exact(r.w.f1 b h).2
    ·exact absurd h hb.2
   ·obtain⟨o',x',hx',_⟩:=h; simp at hx'
   ·have h:w.heap.size≤b:=h
    exact .inr (.inr (Nat.le_trans r.w.ext.size h))
theorem pops_call(hG:Good P E I){ops l:List Oper}{o:Oper}{rest:List Oper}{c:Call}{f:Operand}{k d nf:Nat}{caps aps bps:List PV}{Qc:PV→Hp→Prop}(L:List Nat)
  (hl:l=o::rest)(hop:o.op = .call c)(hcal:c.callee = .value f)(hd:o.dst=some d)(hw:wantedP ops o st=some true)(hnt:Nat.blt d I.nt=true)
  (hf:ev st f=some (.fn (.func k) nf caps))(hargs:evList st c.args.toList=some aps)(hk:Callable P k)(has:ArgsR st L (caps.take nf++aps++caps.drop nf) bps)(hcall:PCall P k bps [] [] Qc)
  (hres:∀ r H',Qc r H'→(match L with | []=>r.pure | _=>r.scalar)=true∧pops P E ops Q rest (st.put d r)):pops P E ops Q l st:=by
 subst hl
 intro a w r
 refine wpList_step fun K hK=>call_op hG L hop hcal hd hw hnt hf hargs hk has hcall r fun r H' hq=>⟨(hres r H' hq).1,fun a' w' r'=>hK _ _ ((hres r H' hq).2 a' w' r')⟩
def PV.fz(p:PV)(o:Nat)(q:PV):PV:=match p with | .own k=>(match Nat.beq k o with | true=>q | false=>.own k) | p=>p
def fzOv(o:Nat)(q:PV):Option (Nat×Nat×PV)→Option (Nat×Nat×PV)
 | some (i,j,p)=>some (i,j,p.fz o q)
 | none=>none
def fzObj(o:Nat)(q:PV)(x:PObj):PObj:=match x with | .box l=>.box (l.map fun p=>p.fz o q) | .arm e s n f ov=>.arm e s n f (fzOv o q ov) | x=>x
theorem PV.fz_ok{F F':Nat→Prop}{g:Nat→Value}{w:World}{o:Nat}{q:PV}(hF:∀ b,F b→F' b)(hq:VR F' g w q (g o)){p:PV}{v:Value}(h:VR F g w p v):VR F' g w (p.fz o q) v:=by
 have h':VR F' g w p v:=h.mono (fun b hb=>⟨hF b hb,rfl⟩) (fun _ _=>rfl)
 unfold PV.fz
 split
 ·rename_i k
  split
  ·rename_i hk
   have hk:=Nat.eq_of_beq_eq_true hk
   subst hk
   cases h' with
   | own e=>rw[e]at hq; exact hq
  ·exact h'
 ·exact h'
theorem fzObj_ok{F F':Nat→Prop}{g:Nat→Value}{w:World}{o t:Nat}{q:PV}(hF:∀ b,F b→F' b)(hq:VR F' g w q (g o)){x:PObj}(h:ObjR F g w t x):ObjR F' g w t (fzObj o q x):=by
 cases x with
 | box l=>
  obtain⟨b,vs,ty,h1,h2,h3,h4⟩:=h
  refine⟨b,vs,ty,h1,h2,by simp[h3],fun j y v hy hv=>?_⟩
  simp only[List.getElem?_map,Option.map_eq_some_iff]at hy
  obtain⟨z,hz,rfl⟩:=hy
  exact PV.fz_ok hF hq (h4 j z v hz hv)
 | arr e s n f=>exact h.mono (fun b hb=>⟨hF b hb,rfl⟩) rfl (fun _ _=>rfl) (fun _ _=>rfl)
 | mpb n m=>exact h.mono (fun b hb=>⟨hF b hb,rfl⟩) rfl (fun _ _=>rfl) (fun _ _=>rfl)
 | mp it m ho=>exact h.mono (fun b hb=>⟨hF b hb,rfl⟩) rfl (fun _ _=>rfl) (fun _ _=>rfl)
 | bld ty e s=>exact h.mono (fun b hb=>⟨hF b hb,rfl⟩) rfl (fun _ _=>rfl) (fun _ _=>rfl)
 | arm e s n f ov=>
  rcases h with⟨h1,h2,h3⟩ | ⟨b,cap,cur,h1,h2,h3,h4,h5,hC⟩
  ·subst h3; exact .inl ⟨h1,h2,rfl⟩
  ·refine .inr ⟨b,cap,cur,h1,h2,h3,h4,h5,hC.len,fun i j x hi hx=>?_,hC.sep,hC.own,fun i j p e=>?_⟩
   ·obtain⟨v,hv,hR⟩:=hC.cell i j x hi hx
    exact⟨v,hv,hR.mono (fun b hb=>⟨hF b hb,rfl⟩) (fun _ _ _=>rfl)⟩
   ·rcases ov with _ | ⟨i',j',p'⟩
    ·cases e
    ·simp only[fzOv,Option.some.injEq,Prod.mk.injEq]at e
     obtain⟨rfl,rfl,rfl⟩:=e
     obtain⟨q1,q2,q3⟩:=hC.ov _ _ _ rfl
     exact⟨q1,q2,fun v hv=>PV.fz_ok hF hq (q3 v hv)⟩
theorem fzObj_foot{g:Nat→Value}{w:World}{o t:Nat}{q:PV}{x:PObj}{b:Nat}(h:Foot g w t (fzObj o q x) b):Foot g w t x b:=by
 cases x with
 | box l=>exact .self (h.toBlk rfl)
 | arm e s n f ov=>
  cases h with
  | self h=>exact .self h
  | arm h1 h2 h3 h4 h5 h6 h7=>exact .arm h1 h2 h3 h4 h5 h6 h7
 | _=>exact h
def gfreeze(o:Nat)(x:T)(st:St):Option St:=
 ({ fr:=st.fr.map fun e=>(e.1,e.2.fz o (.t x)),hp:=(del o st.hp).map fun e=>(e.1,fzObj o (.t x) e.2) }:St).erase o
theorem Rel.freeze{o:Nat}{x:T}{e:TypeId}{s n:Nat}{f:Nat→List T}{st':St}(hl:look st.hp o=some (.arr e s n f))(hx:x.view=some (n,f))(h:gfreeze o x st=some st'){a:Act}{w:World}(r:Rel E st a w):Rel E st' a w:=by
 obtain⟨F,g,r⟩:=r
 unfold gfreeze at h
 ·have hlm:=look_mem hl
  have hob:=r.w.hp.obj _ _ hlm
  have hq:VR (fun b=>F b∨blk (g o)=some b) g w (.t x) (g o):=.t (own_rd hob (fun b hb=>.inl hb) (fun b hb=>.inr hb) hx)
  have hF:∀ b,F b→(F b∨blk (g o)=some b):=fun b hb=>.inl hb
  have hfr:=St.erase_fr h
  have hhp:=St.erase_hp h
  refine⟨fun b=>F b∨blk (g o)=some b,g,r.nt,r.df,fun t x' hx'=>?_,⟨⟨fun k y hy=>?_,fun k y b hy hb=>?_,fun k y k' y' b hy hy' hne hb hb'=>?_⟩,fun b hb=>.inl (r.w.f0 b hb),fun b hb=>?_,r.w.ext,r.w.names,r.w.b0⟩⟩
  ·obtain⟨h1,_⟩:=hfr t x' hx'
   simp only[List.mem_map,Prod.mk.injEq]at h1
   obtain⟨⟨t',y⟩,hy,rfl,rfl⟩:=h1
   exact PV.fz_ok hF hq (r.fr t' y hy)
  ·obtain⟨x,h1,_,_,h4,_⟩:=hhp k y hy
   simp only[List.mem_map,Prod.mk.injEq]at h1
   obtain⟨⟨k',z⟩,hz,rfl,rfl⟩:=h1
   exact h4 _ _ _ (fzObj_ok hF hq (r.w.hp.obj k' z (mem_del.1 hz).1))
  ·obtain⟨x,h1,h2,_,_,h5⟩:=hhp k y hy
   simp only[List.mem_map,Prod.mk.injEq]at h1
   obtain⟨⟨k',z⟩,hz,rfl,rfl⟩:=h1
   obtain⟨hz1,hz2⟩:=mem_del.1 hz
   have hb:=fzObj_foot (h5 _ _ _ hb)
   refine⟨?_,(r.w.hp.own k' z b hz1 hb).2⟩
   rintro (h | h)
   ·exact(r.w.hp.own k' z b hz1 hb).1 h
   ·exact r.w.hp.sep k' z o _ b hz1 hlm hz2 hb (.self h)
  ·obtain⟨x,h1,_,_,_,h5⟩:=hhp k y hy
   obtain⟨x',h1',_,_,_,h5'⟩:=hhp k' y' hy'
   simp only[List.mem_map,Prod.mk.injEq]at h1 h1'
   obtain⟨⟨k2,z⟩,hz,rfl,rfl⟩:=h1
   obtain⟨⟨k2',z'⟩,hz',rfl,rfl⟩:=h1'
   exact r.w.hp.sep k2 z k2' z' b (mem_del.1 hz).1 (mem_del.1 hz').1 hne (fzObj_foot (h5 _ _ _ hb)) (fzObj_foot (h5' _ _ _ hb'))
  ·rcases hb with hb | hb
   ·exact r.w.f1 b hb
   ·have:=(r.w.hp.own o _ b hlm (.self hb)).2
    exact⟨hob.block hb,this.elim (fun h=>.inr (.inl h)) (fun h=>.inr (.inr h))⟩
def gthaw(N:List Nat)(t o:Nat)(e:TypeId)(s:Nat)(f:Nat→List T)(st:St):Option St:=
 match look st.fr t,nmem o N,st.erase o with
 | some .nil,true,some st1=>some { fr:=(t,.own o)::del t st1.fr,hp:=(o,.arr e s 0 f)::st1.hp }
 | _,_,_=>none
theorem Rel.thaw(hG:Good P E I){t o:Nat}{e:TypeId}{s:Nat}{f:Nat→List T}{st':St}(h:gthaw I.N t o e s f st=some st'){a:Act}{w:World}(r:Rel E st a w):Rel E st' a w:=by
 obtain⟨F,g,r⟩:=r
 unfold gthaw at h
 split at h
 ·rename_i st1 hl hn he
  cases h
  have hnil:a.tmps.getD t undef = .slice none 0 0:=by
   have:=r.fr _ _ (look_mem hl)
   generalize a.tmps.getD t undef=u at this
   cases this; rfl
  refine⟨F,upd g o (.slice none 0 0),r.nt,r.df,fun t' x hx=>?_,⟨HpR.change r.w.hp he (fun k hk=>upd_other g _ hk) (fun b hb=>⟨hb,rfl⟩) (fun _ h=>h) (fun _ _ _ _ _ _=>rfl) (.inl ⟨upd_same ..,rfl⟩)
   (fun b hb=>by have hb:=hb.toBlk rfl; rw[upd_same]at hb; simp[blk]at hb) (fun k y b _ _ _ hb=>by have hb:=hb.toBlk rfl; rw[upd_same]at hb; simp[blk]at hb),r.w.f0,r.w.f1,r.w.ext,fun k hk=>?_,r.w.b0⟩⟩
  ·rcases List.mem_cons.1 hx with e | hx
   ·cases e; rw[hnil]; exact .own (upd_same ..)
   ·obtain⟨h1,h2⟩:=St.erase_fr he t' x (mem_del.1 hx).1
    exact(r.fr t' x h1).mono (fun b hb=>⟨hb,rfl⟩) (fun k hk=>upd_other g _ (h2 k hk))
  ·rw[upd_other g _ (fun e:k=o=>nmem_ok hn (hG.N▸e▸hk))]
   exact r.w.names k hk
 ·cases h
theorem Rel.thawC(hG:Good P E I){b j o:Nat}{e:TypeId}{s:Nat}{f:Nat→List T}{st':St}(h:gthawC I.N b j o e s f st=some st'){a:Act}{w:World}(r:Rel E st a w):Rel E st' a w:=by
 obtain⟨F,g,r⟩:=r
 unfold gthawC at h
 split at h
 ·rename_i st1 hn hbo he
  split at h
  ·rename_i l hl
   split at h
   ·rename_i hj
    cases h
    have hbo:=Nat.ne_of_beq_eq_false hbo
    have hp:=HpR.change (x:=.arr e s 0 f) (g':=upd g o (.slice none 0 0)) r.w.hp he (fun k hk=>upd_other g _ hk) (fun b hb=>⟨hb,rfl⟩) (fun _ h=>h) (fun _ _ _ _ _ _=>rfl) (.inl ⟨upd_same ..,rfl⟩)
     (fun b hb=>by have hb:=hb.toBlk rfl; rw[upd_same]at hb; simp[blk]at hb) (fun k y b _ _ _ hb=>by have hb:=hb.toBlk rfl; rw[upd_same]at hb; simp[blk]at hb)
    have hbm:(b,PObj.box l)∈(o,PObj.arr e s 0 f)::st1.hp:=List.mem_cons_of_mem _ (look_mem hl)
    have key:∀ k u,(k,u)∈(o,PObj.arr e s 0 f)::(b,PObj.box (l.set j (.own o)))::del b st1.hp→∃ u',(k,u')∈(o,PObj.arr e s 0 f)::st1.hp∧∀ g w c,Foot g w k u c→Foot g w k u' c:=by
     intro k u hk
     rcases List.mem_cons.1 hk with e1 | hk
     ·cases e1; exact⟨_,List.mem_cons_self ..,fun _ _ _ h=>h⟩
     ·rcases List.mem_cons.1 hk with e1 | hk
      ·cases e1; exact⟨_,hbm,fun _ _ _ h=>.self (h.toBlk rfl)⟩
      ·exact⟨u,List.mem_cons_of_mem _ (mem_del.1 hk).1,fun _ _ _ h=>h⟩
    refine⟨F,upd g o (.slice none 0 0),r.nt,r.df,fun t' x hx=>?_,⟨⟨fun k u hk=>?_,fun k u b' hk hb=>?_,fun k u k' u' b' hk hk' hne hb hb'=>?_⟩,r.w.f0,r.w.f1,r.w.ext,fun k hk=>?_,r.w.b0⟩⟩
    ·obtain⟨h1,h2⟩:=St.erase_fr he t' x hx
     exact(r.fr t' x h1).mono (fun b hb=>⟨hb,rfl⟩) (fun k hk=>upd_other g _ (h2 k hk))
    ·rcases List.mem_cons.1 hk with e1 | hk
     ·cases e1; exact hp.obj _ _ (List.mem_cons_self ..)
     ·rcases List.mem_cons.1 hk with e1 | hk
      ·cases e1
       obtain⟨bb,vs,ty,e1,e2,e3,e4⟩:=hp.obj _ _ hbm
       refine⟨bb,vs,ty,e1,e2,by simp[e3],fun q y v hy hv=>?_⟩
       rw[List.getElem?_set]at hy
       split at hy
       ·rename_i hq
        subst hq
        split at hy
        ·cases hy
         have:=e4 j .nil v hj hv
         cases this
         exact .own (upd_same ..)
        ·cases hy
       ·exact e4 q y v hy hv
      ·exact hp.obj _ _ (List.mem_cons_of_mem _ (mem_del.1 hk).1)
    ·obtain⟨u',hu,hf⟩:=key k u hk; exact hp.own k u' b' hu (hf _ _ _ hb)
    ·obtain⟨v,hv,hf⟩:=key k u hk; obtain⟨v',hv',hf'⟩:=key k' u' hk'; exact hp.sep k v k' v' b' hv hv' hne (hf _ _ _ hb) (hf' _ _ _ hb')
    ·rw[upd_other g _ (fun e:k=o=>nmem_ok hn (hG.N▸e▸hk))]
     exact r.w.names k hk
   ·cases h
  ·cases h
 ·cases h
theorem Le.thawC(hG:Good P E I){b j o:Nat}{e:TypeId}{s:Nat}{f:Nat→List T}{st':St}(h:gthawC I.N b j o e s f st=some st'):Le E st st':=fun _ _ r=>r.thawC hG h
theorem Rel.slot{t:Nat}{p q:PV}(hl:look st.fr t=some p)(hpq:∀ F g w v,VR F g w p v→VR F g w q v){a:Act}{w:World}(r:Rel E st a w):Rel E { st with fr:=(t,q)::del t st.fr } a w:=by
 obtain⟨F,g,r⟩:=r
 refine⟨F,g,r.nt,r.df,fun t' x hx=>?_,r.w⟩
 rcases List.mem_cons.1 hx with e | hx
 ·cases e; exact hpq _ _ _ _ (r.fr _ _ (look_mem hl))
 ·exact r.fr t' x (mem_del.1 hx).1
theorem Rel.obj{o:Nat}{x y:PObj}(hl:look st.hp o=some x)(hxy:∀ F g w,ObjR F g w o x→ObjR F g w o y)(hft:∀ g w c,Foot g w o y c→Foot g w o x c){a:Act}{w:World}(r:Rel E st a w):Rel E { st with hp:=(o,y)::del o st.hp } a w:=by
 obtain⟨F,g,r⟩:=r
 have hlm:=look_mem hl
 have key:∀ k u,(k,u)∈(o,y)::del o st.hp→∃ u',(k,u')∈st.hp∧∀ c,Foot g w k u c→Foot g w k u' c:=by
  intro k u hk
  rcases List.mem_cons.1 hk with e | hk
  ·cases e; exact⟨x,hlm,hft g w⟩
  ·exact⟨u,(mem_del.1 hk).1,fun _ h=>h⟩
 refine⟨F,g,r.nt,r.df,r.fr,⟨⟨fun k u hk=>?_,fun k u b hk hb=>?_,fun k u k' u' b hk hk' hne hb hb'=>?_⟩,r.w.f0,r.w.f1,r.w.ext,r.w.names,r.w.b0⟩⟩
 ·rcases List.mem_cons.1 hk with e | hk
  ·cases e; exact hxy _ _ _ (r.w.hp.obj _ _ hlm)
  ·exact r.w.hp.obj _ _ (mem_del.1 hk).1
 ·obtain⟨u',h,hf⟩:=key k u hk; exact r.w.hp.own k u' b h (hf _ hb)
 ·obtain⟨v,h,hf⟩:=key k u hk; obtain⟨v',h',hf'⟩:=key k' u' hk'; exact r.w.hp.sep k v k' v' b h h' hne (hf _ hb) (hf' _ hb')
theorem ObjR.row{F:Nat→Prop}{g:Nat→Value}{w:World}{o:Nat}{e:TypeId}{s n n':Nat}{f f':Nat→List T}(hn:n=n')(hf:∀ i,i<n→f i=f' i)(h:ObjR F g w o (.arr e s n f)):ObjR F g w o (.arr e s n' f'):=by
 subst hn
 rcases h with h | ⟨b,cap,cur,h1,h2,h3,h4,h5,h6,h7⟩
 ·exact .inl h
 ·exact .inr ⟨b,cap,cur,h1,h2,h3,h4,h5,fun i hi=>by rw[←hf i hi]; exact h6 i hi,fun i j x hi hx=>h7 i j x hi (by rw[hf i hi]; exact hx)⟩
theorem Le.freeze{o:Nat}{e:TypeId}{s n:Nat}{f:Nat→List T}{st':St}(x:T)(hl:look st.hp o=some (.arr e s n f))(hx:x.view=some (n,f))(h:gfreeze o x st=some st'):Le E st st':=fun _ _ r=>r.freeze hl hx h
theorem Le.thaw(hG:Good P E I){t o:Nat}{e:TypeId}{s:Nat}{f:Nat→List T}{st':St}(h:gthaw I.N t o e s f st=some st'):Le E st st':=fun _ _ r=>r.thaw hG h
theorem Le.slot{t:Nat}{p:PV}(q:PV)(hl:look st.fr t=some p)(hpq:∀ F g w v,VR F g w p v→VR F g w q v):Le E st { st with fr:=(t,q)::del t st.fr }:=fun _ _ r=>r.slot hl hpq
theorem Le.obj{o:Nat}{x:PObj}(y:PObj)(hl:look st.hp o=some x)(hxy:∀ F g w,ObjR F g w o x→ObjR F g w o y)(hy:y.plain=true:=by rfl):Le E st { st with hp:=(o,y)::del o st.hp }:=fun _ _ r=>r.obj hl hxy (fun _ _ _ h=>.self (h.toBlk hy))
theorem Le.objF{o:Nat}{x:PObj}(y:PObj)(hl:look st.hp o=some x)(hxy:∀ F g w,ObjR F g w o x→ObjR F g w o y)(hft:∀ g w c,Foot g w o y c→Foot g w o x c):Le E st { st with hp:=(o,y)::del o st.hp }:=fun _ _ r=>r.obj hl hxy hft
end
def eL{α:Type}[Inhabited α](c:α→List T)(xs:List α):T:=.sl xs.length fun i=>c (xs.getD i default)
def eF{α:Type}[Inhabited α](c:α→List T)(xs:List α):Nat→List T:=fun i=>c (xs.getD i default)
def cInt(x:Int):List T:=[.int .i64 x]
def cU8(x:Int):List T:=[.int .u8 x]
def cStr(x:ByteArray):List T:=[.str x]
instance:Inhabited ByteArray:=⟨ByteArray.empty⟩
theorem ite_t{b:Bool}{α:Type}{A B:Option α}{y:α}(hb:b=true)(h:(if b=true then A else B)=some y):A=some y:=by rwa [if_pos hb]at h
theorem ite_f{b:Bool}{α:Type}{A B:Option α}{y:α}(hb:b=false)(h:(if b=true then A else B)=some y):B=some y:=by rwa [if_neg (by rw[hb]; simp)]at h
theorem grd{p:Prop}[Decidable p]{α:Type}{A:Option α}{y:α}(h:(if p then A else none)=some y):p∧A=some y:=by
 by_cases hp:p
 ·rw[if_pos hp]at h; exact⟨hp,h⟩
 ·rw[if_neg hp]at h; cases h
theorem bnd{α β:Type}{x:Option α}{f:α→Option β}{y:β}(h:x.bind f=some y):∃ z,x=some z∧f z=some y:=by
 cases x with
 | none=>cases h
 | some z=>exact⟨z,rfl,h⟩
def undOf:TypeDesc→U
 | .int k=>.int k
 | .bool=>.bool
 | .string=>.str
 | .slice e=>.sl e
 | .struct fs=>.st (fs.toList.map fun f=>(f.offset,f.type))
 | .array n e=>.arr n e
 | .map k e=>.mp k e
 | .pointer e=>.ptr e
 | .interface _=>.ifc
 | _=>.other
def zOf(z:Option Value):Option (List (Option PV)):=match z with | some z=>some (z.cells.toList.map constPV) | none=>none
def chkF(P:Program)(n:Nat):Nat→List Field→Bool
 | k,[]=>Nat.beq k n
 | k,f::fs=>f.name != "_" && Nat.beq f.offset k&&(match P.underlying f.type with | some (.int _)=>true | _=>false)&&chkF P n (k+1) fs
def fcode(P:Program):Nat→List Field→Option Nat
 | _,[]=>some 0
 | k,f::fs=>match f.name != "_" && Nat.beq f.offset k,P.underlying f.type,fcode P (k+1) fs with
  | true,some (.int _),some c=>some (1+4*c)
  | true,some .string,some c=>some (2+4*c)
  | true,some .bool,some c=>some (3+4*c)
  | _,_,_=>none
def eqChk(P:Program)(t:TypeId)(n:Nat):Bool:=
 match n with
 | 0=>true
 | n=>match P.underlying t with
  | some (.struct fs)=>!P.stoodInHeld t && !P.eqGuardType P.depth t&&chkF P n 0 fs.toList
  | some (.array m e)=>Nat.beq m n && !P.eqGuardType P.depth t&&(match P.underlying e with | some (.int _)=>true | _=>false)&&Nat.beq (P.cellsOf e) 1
  | _=>false
def eqfChk(P:Program)(t:TypeId)(n:Nat):Bool:=
 match n with
 | 0=>true
 | n=>match P.underlying t with
  | some (.struct fs)=>!P.stoodInHeld t && !P.eqGuardType P.depth t&&(match fcode P 0 fs.toList with | some c=>Nat.beq c n | none=>false)
  | _=>false
theorem chkF_ok{P:Program}{n d:Nat}:∀ {fs:List Field} {k:Nat},chkF P n k fs=true→∀ (xs ys:List Int) (w:World),xs.length=n→ys.length=n →
  (Op.eqFields (d+1) (xs.map (Value.int .i64)).toArray (ys.map (Value.int .i64)).toArray fs).run P w = .ok (xs.drop k==ys.drop k) w
 | [],k,h,xs,ys,w,hx,hy=>by
  simp only[chkF]at h
  have:=Nat.eq_of_beq_eq_true h
  simp[Op.eqFields,List.drop_of_length_le (show xs.length≤k by omega),List.drop_of_length_le (show ys.length≤k by omega)]
 | f::fs,k,h,xs,ys,w,hx,hy=>by
  simp only[chkF,Bool.and_eq_true,bne_iff_ne]at h
  obtain⟨⟨⟨h1,h2⟩,h3⟩,h4⟩:=h
  have h2:=Nat.eq_of_beq_eq_true h2
  split at h3
  ·rename_i kk hu
   have hk:k<n:=by
    rcases Nat.lt_or_ge k n with hlt | hge
    ·exact hlt
    ·exfalso
     have:∀ (fs:List Field) (j:Nat),chkF P n j fs=true→j≤n:=by
      intro fs
      induction fs with
      | nil=>intro j hj; exact Nat.le_of_eq (Nat.eq_of_beq_eq_true hj)
      | cons f fs ih=>intro j hj; simp only[chkF,Bool.and_eq_true]at hj; have:=ih _ hj.2; omega
     have:=this _ _ h4; omega
   have hpart:∀ zs:List Int,zs.length=n→(part f.type (zs.map (Value.int .i64)).toArray f.offset).run P w = .ok (.int .i64 (zs.getD k 0)) w:=by
    intro zs hz
    simp[part,isAgg,run_underlying hu,h2,List.getElem?_map,show zs[k]? = some zs[k] from List.getElem?_eq_getElem (by omega),List.getD_eq_getElem?_getD]
   simp only[Op.eqFields,if_pos h1,Sem.run_bind,hpart xs hx,hpart ys hy,Result.andThen_ok,run_equalIn_int w d f.type _ kk _ _ hu]
   have ex:xs.drop k=xs.getD k 0::xs.drop (k+1):=by rw[List.drop_eq_getElem_cons (by omega)]; simp[List.getD_eq_getElem?_getD,show k<xs.length by omega]
   have ey:ys.drop k=ys.getD k 0::ys.drop (k+1):=by rw[List.drop_eq_getElem_cons (by omega)]; simp[List.getD_eq_getElem?_getD,show k<ys.length by omega]
   rw[ex,ey,List.cons_beq_cons]
   cases hb:xs.getD k 0==ys.getD k 0
   ·simp
   ·simp[chkF_ok h4 xs ys w hx hy]
  ·cases h3
theorem fcode_ok{P:Program}{d:Nat}:∀ {fs:List Field} {k c:Nat},fcode P k fs=some c→∀ (l r:List T) (b:Bool) (w:World),k≤l.length→k≤r.length→flatEq (l.drop k) (r.drop k)=some b→kcode (l.drop k)=c →
  (Op.eqFields (d+1) (l.map sval).toArray (r.map sval).toArray fs).run P w = .ok b w
 | [],k,c,h,l,r,b,w,hl0,hr0,hb,hc=>by
  simp only[fcode,Option.some.injEq]at h
  subst h
  have hl:l.drop k=[]:=by
   cases hd:l.drop k with
   | nil=>rfl
   | cons x q=>
    rw[hd]at hb hc
    cases x <;> simp only[kcode]at hc <;> first | omega | (cases hr:r.drop k <;> rw[hr]at hb <;> simp[flatEq]at hb)
  rw[hl]at hb
  cases hr:r.drop k with
  | nil=>rw[hr]at hb; simp only[flatEq,Option.some.injEq]at hb; subst hb; simp[Op.eqFields]
  | cons y q=>rw[hr]at hb; simp[flatEq]at hb
 | f::fs,k,c,h,l,r,b,w,hl0,hr0,hb,hc=>by
  simp only[fcode]at h
  have part1:∀ (z:List T) (x:T) (q:List T),z.drop k=x::q→f.offset=k→(isAgg f.type).run P w = .ok false w→(part f.type (z.map sval).toArray f.offset).run P w = .ok (sval x) w:=by
   intro z x q hz ho hu
   have hk:z[k]? = some x:=by
    have:=congrArg (·[0]?) hz
    simpa using this
   simp[part,hu,ho,List.getElem?_map,hk]
  have next:∀ (z:List T) (x:T) (q:List T),z.drop k=x::q→q=z.drop (k+1)∧k+1≤z.length:=by
   intro z x q hz
   have h1:=congrArg List.tail hz
   simp only[List.tail_drop,List.tail_cons]at h1
   have h2:=congrArg List.length hz
   simp only[List.length_drop,List.length_cons]at h2
   exact⟨h1.symm,by omega⟩
  split at h
  ·rename_i kk c' h1 hu h2
   simp only[Bool.and_eq_true,bne_iff_ne]at h1
   have ho:=Nat.eq_of_beq_eq_true h1.2
   cases h
   cases hdl:l.drop k with
   | nil=>rw[hdl]at hc; simp only[kcode]at hc; omega
   | cons x q=>
    cases hdr:r.drop k with
    | nil=>rw[hdl,hdr]at hb; cases x <;> simp[flatEq]at hb
    | cons y s=>
     rw[hdl,hdr]at hb
     rw[hdl]at hc
     obtain⟨eq,el⟩:=next l x q hdl
     obtain⟨er,el'⟩:=next r y s hdr
     cases x <;> cases y <;> simp only[flatEq,kcode]at hb hc <;> first | omega | cases hb | skip
     rename_i k1 a1 k2 a2
     split at hb
     ·rename_i hkk
      subst hkk
      split at hb
      ·rename_i c2 hc2
       cases hb
       have hrec:=fcode_ok (d:=d) h2 l r c2 w el el' (by rw[←eq,←er]; exact hc2) (by rw[←eq]; omega)
       have p1:=part1 l _ q hdl ho (by simp[isAgg,run_underlying hu])
       have p2:=part1 r _ s hdr ho (by simp[isAgg,run_underlying hu])
       simp only[Op.eqFields,if_pos h1.1,Sem.run_bind,p1,p2,Result.andThen_ok,sval,run_equalIn_int w d f.type _ _ _ _ hu]
       cases hb2:a1==a2
       ·simp
       ·simp[hrec]
      ·cases hb
     ·cases hb
  ·rename_i c' h1 hu h2
   simp only[Bool.and_eq_true,bne_iff_ne]at h1
   have ho:=Nat.eq_of_beq_eq_true h1.2
   cases h
   cases hdl:l.drop k with
   | nil=>rw[hdl]at hc; simp only[kcode]at hc; omega
   | cons x q=>
    cases hdr:r.drop k with
    | nil=>rw[hdl,hdr]at hb; cases x <;> simp[flatEq]at hb
    | cons y s=>
     rw[hdl,hdr]at hb
     rw[hdl]at hc
     obtain⟨eq,el⟩:=next l x q hdl
     obtain⟨er,el'⟩:=next r y s hdr
     cases x <;> cases y <;> simp only[flatEq,kcode]at hb hc <;> first | omega | cases hb | skip
     rename_i a1 a2
     split at hb
     ·rename_i c2 hc2
      cases hb
      have hrec:=fcode_ok (d:=d) h2 l r c2 w el el' (by rw[←eq,←er]; exact hc2) (by rw[←eq]; omega)
      have p1:=part1 l _ q hdl ho (by simp[isAgg,run_underlying hu])
      have p2:=part1 r _ s hdr ho (by simp[isAgg,run_underlying hu])
      simp only[Op.eqFields,if_pos h1.1,Sem.run_bind,p1,p2,Result.andThen_ok,sval,run_equalIn_string w d f.type _ _ hu]
      cases hb2:a1.toList==a2.toList
      ·simp
      ·simp[hrec]
     ·cases hb
  ·rename_i c' h1 hu h2
   simp only[Bool.and_eq_true,bne_iff_ne]at h1
   have ho:=Nat.eq_of_beq_eq_true h1.2
   cases h
   cases hdl:l.drop k with
   | nil=>rw[hdl]at hc; simp only[kcode]at hc; omega
   | cons x q=>
    cases hdr:r.drop k with
    | nil=>rw[hdl,hdr]at hb; cases x <;> simp[flatEq]at hb
    | cons y s=>
     rw[hdl,hdr]at hb
     rw[hdl]at hc
     obtain⟨eq,el⟩:=next l x q hdl
     obtain⟨er,el'⟩:=next r y s hdr
     cases x <;> cases y <;> simp only[flatEq,kcode]at hb hc <;> first | omega | cases hb | skip
     rename_i a1 a2
     split at hb
     ·rename_i c2 hc2
      cases hb
      have hrec:=fcode_ok (d:=d) h2 l r c2 w el el' (by rw[←eq,←er]; exact hc2) (by rw[←eq]; omega)
      have p1:=part1 l _ q hdl ho (by simp[isAgg,run_underlying hu])
      have p2:=part1 r _ s hdr ho (by simp[isAgg,run_underlying hu])
      simp only[Op.eqFields,if_pos h1.1,Sem.run_bind,p1,p2,Result.andThen_ok,sval,run_equalIn_bool' w d f.type _ _ hu]
      cases hb2:a1==a2
      ·simp
      ·simp[hrec]
     ·cases hb
  ·cases h
theorem run_part_ints{P:Program}{t:TypeId}{k:IntKind}(hu:P.underlying t=some (.int k))(zs:List Int)(j:Nat)(hj:j<zs.length)(w:World):
  (part t (zs.map (Value.int .i64)).toArray j).run P w = .ok (.int .i64 (zs.getD j 0)) w:=by
 simp[part,isAgg,run_underlying hu,List.getElem?_map,show zs[j]? = some zs[j] from List.getElem?_eq_getElem hj,List.getD_eq_getElem?_getD]
theorem eqItems_ok{P:Program}{e:TypeId}{k:IntKind}(hu:P.underlying e=some (.int k)){d n:Nat}(xs ys:List Int)(w:World)(hx:xs.length=n)(hy:ys.length=n):∀ is:List Nat,(∀ i,i∈is→i<n) →
  (Op.eqItems (d+1) e 1 (xs.map (Value.int .i64)).toArray (ys.map (Value.int .i64)).toArray is).run P w = .ok (is.all fun i=>xs.getD i 0==ys.getD i 0) w
 | [],_=>by simp[Op.eqItems]
 | i::is,h=>by
  have hi:=h i (by simp)
  simp only[Op.eqItems,Nat.mul_one,Sem.run_bind,run_part_ints hu xs i (by omega),run_part_ints hu ys i (by omega),Result.andThen_ok,run_equalIn_int w d e _ k _ _ hu]
  cases hb:xs.getD i 0==ys.getD i 0
  ·simp only[Bool.not_false,if_true,Sem.run_pure,List.all_cons,hb,Bool.false_and]
  ·simp only[Bool.not_true,Bool.false_eq_true,if_false,List.all_cons,hb,Bool.true_and]
   exact eqItems_ok hu xs ys w hx hy is (fun j hj=>h j (List.mem_cons_of_mem _ hj))
theorem all_eq{n:Nat}(xs ys:List Int)(hx:xs.length=n)(hy:ys.length=n):((List.range n).all fun i=>xs.getD i 0==ys.getD i 0)=(xs==ys):=by
 rw[Bool.eq_iff_iff]
 simp only[List.all_eq_true,List.mem_range,beq_iff_eq]
 constructor
 ·intro h
  apply List.ext_getElem (by omega)
  intro i h1 h2
  have:=h i (by omega)
  simpa[List.getD_eq_getElem?_getD,h1,h2] using this
 ·rintro rfl i _; rfl
theorem run_forIn_unit{P:Program}{w:World}{α:Type}(f:α→PUnit→Sem (ForInStep PUnit)):∀ l:List α,(∀ x,x∈l→∀ u,(f x u).run P w = .ok (.yield ⟨⟩) w)→(forIn l (⟨⟩:PUnit) f).run P w = .ok ⟨⟩ w
 | [],_=>by simp
 | x::l,h=>by
  rw[List.forIn_cons,Sem.run_bind,h x (by simp)]
  simp only[Result.andThen_ok]
  exact run_forIn_unit f l (fun y hy=>h y (List.mem_cons_of_mem _ hy))
def zbChk(P:Program)(t:TypeId)(u:U):Bool:=
 match u with
 | .bool=>match P.info? t with
  | some info=>match info.zero with
   | some (.bool false)=>true
   | _=>false
  | none=>false
 | _=>true
theorem zb_of{P:Program}{t:TypeId}{u:U}(h:zbChk P t u=true):u = .bool→∃ info,P.info? t=some info∧info.zero=some (.bool false):=by
 rintro rfl
 unfold zbChk at h
 simp only at h
 split at h
 ·rename_i info hi
  split at h
  ·rename_i hz; exact⟨info,hi,hz⟩
  ·cases h
 ·cases h
theorem keyok_of{P:Program}{t:TypeId}{i:TInf}(h:eqChk P t i.eqn=true)(hu:UR P t i.und):KeyOk P t i:=by
 intro m e hm hn em xs w hx
 rw[hm]at hu
 simp only[UR]at hu
 unfold eqChk at h
 split at h
 ·rename_i h0; exact absurd h0 hn
 ·rw[hu]at h
  simp only[Bool.and_eq_true]at h
  obtain⟨⟨⟨h1,_⟩,h3⟩,h4⟩:=h
  have h1:=Nat.eq_of_beq_eq_true h1
  have h4:=Nat.eq_of_beq_eq_true h4
  split at h3
  ·rename_i k hk
   obtain⟨info,hi⟩:=info_of_underlying hk
   rw[show (10000:Nat)=9998+1+1 from rfl]
   generalize 9998=dd
   rw[intsV,Instr.checkKey]
   simp only[Sem.run_bind,run_underlying hu,Result.andThen_ok]
   simp only[Std.Legacy.Range.forIn_eq_forIn_range',Std.Legacy.Range.size,Nat.sub_zero,Nat.add_one_sub_one,Nat.div_one]
   rw[run_forIn_unit _ (List.range' 0 m)]
   ·simp
   intro j hj u
   have hj':j<xs.length:=by simp[List.mem_range']at hj; omega
   simp only[Sem.run_bind,Go.run_sizeOf w hi,Result.andThen_ok,h4,Nat.mul_one,run_part_ints hk xs j hj']
   simp[Instr.checkKey,run_underlying hk]
  ·cases h3
theorem eqok_of{P:Program}{t:TypeId}{n:Nat}(h:eqChk P t n=true):EqOk P t n:=by
 intro hn
 unfold eqChk at h
 split at h
 ·exact absurd rfl hn
 ·split at h
  ·rename_i fs hu
   simp only[Bool.and_eq_true,Bool.not_eq_true']at h
   refine⟨h.1.2,fun xs ys w hx hy=>?_⟩
   have hf:P.fieldsOf t=fs:=by simp[Program.fieldsOf,hu]
   rw[show (10000:Nat)=9999+1 from rfl,run_equalIn_agg w 9999 t _ _ (by rw[hf]; exact hu) h.1.1,hf]
   rw[show (9999:Nat)=9998+1 from rfl,chkF_ok h.2 xs ys w hx hy]
   simp
  ·rename_i m e hu
   simp only[Bool.and_eq_true,Bool.not_eq_true']at h
   obtain⟨⟨⟨h1,h2⟩,h3⟩,h4⟩:=h
   have h1:=Nat.eq_of_beq_eq_true h1
   have h4:=Nat.eq_of_beq_eq_true h4
   refine⟨h2,fun xs ys w hx hy=>?_⟩
   split at h3
   ·rename_i k hk
    obtain⟨info,hi⟩:=info_of_underlying hk
    rw[show (10000:Nat)=9999+1 from rfl,run_equalIn_array w 9999 _ _ hu hi,h4,show (9999:Nat)=9998+1 from rfl,h1,eqItems_ok hk xs ys w hx hy _ (fun i hi=>List.mem_range.1 hi),all_eq xs ys hx hy]
   ·cases h3
  ·cases h
theorem eqfok_of{P:Program}{t:TypeId}{n:Nat}(h:eqfChk P t n=true):EqFOk P t n:=by
 intro hn
 unfold eqfChk at h
 split at h
 ·exact absurd rfl hn
 ·split at h
  ·rename_i fs hu
   simp only[Bool.and_eq_true,Bool.not_eq_true']at h
   obtain⟨⟨h1,h2⟩,h3⟩:=h
   split at h3
   ·rename_i c hc
    have h3:=Nat.eq_of_beq_eq_true h3
    refine⟨h2,fun l r b w hl hlen=>?_⟩
    have hf:P.fieldsOf t=fs:=by simp[Program.fieldsOf,hu]
    rw[show (10000:Nat)=9999+1 from rfl,run_equalIn_agg w 9999 t _ _ (by rw[hf]; exact hu) h1,hf]
    rw[show (9999:Nat)=9998+1 from rfl,fcode_ok hc l r b w (Nat.zero_le _) (Nat.zero_le _) hl (by rw[h3]; exact hlen)]
   ·cases h3
  ·cases h
theorem tok_of{P:Program}{t:TypeId}{i:TInf}(h1:(P.info? t).map (fun x=>(x.size,x.bytes,zOf x.zero))=some (i.size,i.bytes,some (i.zero.map some)))
  (h2:(P.underlying t).map undOf=some i.und)(h34:(eqChk P t i.eqn&&eqfChk P t i.eqf&&zbChk P t i.und)=true):TOk P t i where
 zb:=zb_of (by simp only[Bool.and_eq_true]at h34; exact h34.2)
 eqv:=eqok_of (by simp only[Bool.and_eq_true]at h34; exact h34.1.1)
 eqf:=eqfok_of (by simp only[Bool.and_eq_true]at h34; exact h34.1.2)
 keyv:=keyok_of (by simp only[Bool.and_eq_true]at h34; exact h34.1.1) (by
  cases hu:P.underlying t with
  | none=>rw[hu]at h2; cases h2
  | some d=>
   rw[hu]at h2
   simp only[Option.map_some,Option.some.injEq]at h2
   rw[←h2]
   cases d <;> first | exact hu | exact⟨_,hu,rfl⟩ | exact⟨_,hu⟩)
 info:=by
  cases hi:P.info? t with
  | none=>rw[hi]at h1; cases h1
  | some info=>
   rw[hi]at h1
   simp only[Option.map_some,Option.some.injEq,Prod.mk.injEq]at h1
   obtain⟨a,b,c⟩:=h1
   unfold zOf at c
   split at c
   ·rename_i z hz; exact⟨info,rfl,a,b,z,hz,by injection c⟩
   ·cases c
 und:=by
  cases hu:P.underlying t with
  | none=>rw[hu]at h2; cases h2
  | some d=>
   rw[hu]at h2
   simp only[Option.map_some,Option.some.injEq]at h2
   rw[←h2]
   cases d <;> first | exact hu | exact⟨_,hu,rfl⟩ | exact⟨_,hu⟩
theorem tiok_nil{P:Program}:∀ e,e∈([]:List (Nat×TInf))→TOk P e.1 e.2:=by simp
theorem tiok_cons{P:Program}{t:Nat}{i:TInf}{l:List (Nat×TInf)}(h:TOk P t i)(hl:∀ e,e∈l→TOk P e.1 e.2):∀ e,e∈(t,i)::l→TOk P e.1 e.2:=by
 intro e he
 rcases List.mem_cons.1 he with rfl | he
 ·exact h
 ·exact hl e he
theorem tiok_of{P:Program}{l:List (Nat×TInf)}(h:∀ e,e∈l→TOk P e.1 e.2):TIok P (look l):=fun t i hi=>h (t,i) (look_mem hi)
theorem callable_of{P:Program}{k:FuncId}{fn:Func}(h:P.funcs[k]? = some fn)(h2:(fn.body.isNone,fn.name == "runtime.NumGoroutine")=(false,false)):Callable P k:=
 ⟨fn,h,congrArg Prod.fst h2,congrArg Prod.snd h2⟩
def Ret(x:PV):PV→Hp→Prop:=fun r _=>r=x
section
variable {P:Program} {E:Env} {I:Inf} {Q:Post} {st:St}
def Fall(E:Env)(st1:St):Post:=fun e s=>e = .normal∧Le E s st1
theorem pwp_join{A:Code}{st1:St}(h1:pwp P E A (Fall E st1) st)(h2:Q .normal st1):pwp P E A Q st:=by
 intro a w r
 refine wp_mono (h1 a w r) fun e a' w' ⟨s,⟨he,hle⟩,hr⟩=>?_
 subst he
 exact⟨st1,h2,hle _ _ hr⟩
end
theorem le_nil{x:T}{f:Nat→List T}(h:x.view=some (0,f)):∀ F g w v,VR F g w .nil v→VR F g w (.t x) v:=by
 intro F g w v hv; cases hv; exact .t (.nil h)
theorem le_sl{n n':Nat}{f f':Nat→List T}{x:T}(hx:x.view=some (n',f'))(hn:n'=n)(hf:∀ i,i<n→f i=f' i):
  ∀ F g w v,VR F g w (.t (.sl n f)) v→VR F g w (.t x) v:=by
 intro F g w v hv
 subst hn
 cases hv with
 | t r=>
  cases r with
  | nil h=>
   have:n'=0:=by simp[T.view]at h; exact h.1
   subst this
   exact .t (.nil hx)
  | sl a cap size vs h hc hF hs hc' hr=>
   simp only[T.view,Option.some.injEq,Prod.mk.injEq]at h
   obtain⟨rfl,rfl⟩:=h
   exact .t (.sl a cap size vs hx hc hF (fun i hi=>by rw[←hf i hi]; exact hs i hi) hc' fun i j y hi hy=>hr i j y hi (by rw[hf i hi]; exact hy))
theorem le_slice{α:Type}[Inhabited α]{c:α→List T}{xs:List α}{l h:Int}{x:T}(hc:0≤l∧l≤h∧h≤(xs.length:Int))
  (hx:x.view=some (((xs.drop l.toNat).take (h-l).toNat).length,eF c ((xs.drop l.toNat).take (h-l).toNat))):
  ∀ F g w v,VR F g w (.t (.sl (h-l).toNat fun k=>eF c xs (l.toNat+k))) v→VR F g w (.t x) v:=by
 refine le_sl hx (by simp; omega) fun i hi=>?_
 simp only[eF,List.getD_eq_getElem?_getD,List.getElem?_take,List.getElem?_drop,if_pos hi]
inductive CellsR:List PV→List T→Prop
 | nil:CellsR [] []
 | same {x:T} {l:List PV} {r:List T} (h:CellsR l r):CellsR (.t x::l) (x::r)
 | empty {x:T} {f:Nat→List T} {l:List PV} {r:List T} (hx:x.view=some (0,f)) (h:CellsR l r):CellsR (.nil::l) (x::r)
 | imp {p:PV} {x:T} {l:List PV} {r:List T} (hp:∀ F g w v,VR F g w p v→VR F g w (.t x) v) (h:CellsR l r):CellsR (p::l) (x::r)
theorem CellsR.get{l:List PV}{r:List T}(h:CellsR l r):r.length=l.length∧∀ (j:Nat) p x,l[j]? = some p→r[j]? = some x→∀ F g w v,VR F g w p v→VR F g w (.t x) v:=by
 induction h with
 | nil=>simp
 | same _ ih=>
  refine⟨by simp[ih.1],fun j p x hp hx=>?_⟩
  cases j with
  | zero=>simp at hp hx; subst hp; subst hx; exact fun _ _ _ _ h=>h
  | succ j=>exact ih.2 j p x (by simpa using hp) (by simpa using hx)
 | empty hv _ ih=>
  refine⟨by simp[ih.1],fun j p x hp hx=>?_⟩
  cases j with
  | zero=>simp at hp hx; subst hp; subst hx; exact le_nil hv
  | succ j=>exact ih.2 j p x (by simpa using hp) (by simpa using hx)
 | imp hv _ ih=>
  refine⟨by simp[ih.1],fun j p x hp hx=>?_⟩
  cases j with
  | zero=>simp at hp hx; subst hp; subst hx; exact hv
  | succ j=>exact ih.2 j p x (by simpa using hp) (by simpa using hx)
theorem le_agg{l:List PV}{r:List T}(h:CellsR l r):∀ F g w v,VR F g w (.agg l) v→VR F g w (.t (.agg r)) v:=by
 intro F g w v hv
 cases hv with
 | @agg _ vs hs hr=>
  refine .t (.agg (by rw[hs,h.get.1]) fun j x u hx hu=>?_)
  have hj:j<l.length:=by rw[←h.get.1]; exact(List.getElem?_eq_some_iff.1 hx).1
  exact(h.get.2 j l[j] x (by simp[hj]) hx _ _ _ _ (hr j l[j] u (by simp[hj]) hu)).cells_t rfl
theorem le_box{F:Nat→Prop}{g:Nat→Value}{w:World}{o:Nat}{l:List PV}{r:List T}(h:CellsR l r)(hb:ObjR F g w o (.box l)):ObjR F g w o (.box (r.map PV.t)):=by
 obtain⟨b,vs,ty,h1,h2,h3,h4⟩:=hb
 refine⟨b,vs,ty,h1,h2,by simp[h3,h.get.1],fun j x v hx hv=>?_⟩
 simp only[List.getElem?_map,Option.map_eq_some_iff]at hx
 obtain⟨y,hy,rfl⟩:=hx
 have hj:j<l.length:=by rw[←h.get.1]; exact(List.getElem?_eq_some_iff.1 hy).1
 exact h.get.2 j l[j] y (by simp[hj]) hy _ _ _ _ (h4 j l[j] v (by simp[hj]) hv)
theorem row_app{α:Type}[Inhabited α](c:α→List T)(xs ys:List α):∀ i,i<xs.length+ys.length→appF xs.length (eF c xs) (eF c ys) i=eF c (xs++ys) i:=by
 intro i hi
 unfold appF eF
 split
 ·rename_i h; simp[List.getD_eq_getElem?_getD,List.getElem?_append_left h]
 ·rename_i h; simp[List.getD_eq_getElem?_getD,List.getElem?_append_right (Nat.le_of_not_lt h)]
section
variable {P:Program} {E:Env} {I:Inf} {Q:Post} {st:St}
theorem pops_bool{ops l:List Oper}{t:Nat}{b:Bool}(hl:look st.fr t=some (.t (.bool b)))(h1:b=true→pops P E ops Q l { st with fr:=(t,.t (.bool true))::del t st.fr })
  (h0:b=false→pops P E ops Q l { st with fr:=(t,.t (.bool false))::del t st.fr }):pops P E ops Q l st:=by
 cases hb:b with
 | true=>subst hb; exact pops_weak (fun _ _=>Rel.slot hl (fun _ _ _ _ h=>h)) (h1 rfl)
 | false=>subst hb; exact pops_weak (fun _ _=>Rel.slot hl (fun _ _ _ _ h=>h)) (h0 rfl)
end
structure Ann where
 lits:List (Nat×(Bool×Bool))
 calls:List (Nat×(Nat×List PV×PV))
 conds:List (Nat×List Prop)
 frz:List (Nat×Bool)
def condsAt(an:Ann)(i:Nat):List Prop:=match look an.conds i with | some l=>l | none=>[]
def asSt(l:List PV):St:=⟨initFr l 0,[]⟩
def callD(I:Inf)(ops:List Oper)(o:Oper)(st:St)(k:Nat)(args:List PV)(r:PV):Option (St×List Prop×List (St×St)):=
 match wantedP ops o st,o.op,o.dst with
 | some true,.call c,some d=>match c.callee with
  | .value f=>match ev st f,evList st c.args.toList,Nat.blt d I.nt with
   | some (.fn (.func k') 0 []),some as,true=>match Nat.beq k' k with
    | true=>some (st.put d r,[],[(asSt as,asSt args)])
    | false=>none
   | _,_,_=>none
  | _=>none
 | _,_,_=>none
def stepD0(I:Inf)(ops:List Oper)(an:Ann)(i:Nat)(o:Oper)(st:St):Option (St×List Prop×List (St×St)):=
 match look an.calls i with
 | some (k,args,r)=>callD I ops o st k args r
 | none=>match step1 I ops o st with | some (st',C)=>some (st',C,[]) | none=>none
def litD(an:Ann)(i:Nat)(o:Oper)(st':St):Option (St×List (St×St)):=
 match look an.lits i with
 | none=>some (st',[])
 | some (b,v)=>match o.dst with
  | some d=>match look st'.fr d with
   | some p=>some ({ st' with fr:=(d,.t (.bool v))::del d st'.fr },[(⟨[(0,p)],[]⟩,⟨[(0,.t (.bool b))],[]⟩)])
   | none=>none
  | none=>none
def frzD(an:Ann)(i:Nat)(o:Oper)(st:St):Option St:=
 match look an.frz i with
 | none=>some st
 | some _=>match o.dst with
  | some d=>match look st.hp d with
   | some (.arr _ _ n f)=>gfreeze d (.sl n f) st
   | _=>none
  | none=>none
def canonL{α:Type}(l:List (Nat×α)):List Nat→List (Nat×α)
 | []=>[]
 | t::ts=>match look l t with | some x=>(t,x)::canonL l ts | none=>canonL l ts
theorem canonL_mem{α:Type}{l:List (Nat×α)}:∀ {ts:List Nat} e,e∈canonL l ts→e∈l
 | [],e,h=>by simp[canonL]at h
 | t::ts,e,h=>by
  simp only[canonL]at h
  split at h
  ·rename_i x hx
   rcases List.mem_cons.1 h with rfl | h
   ·exact look_mem hx
   ·exact canonL_mem e h
  ·exact canonL_mem e h
def St.canon(ts os:List Nat)(st:St):St:=⟨canonL st.fr ts,canonL st.hp os⟩
def stepD(I:Inf)(ops:List Oper)(an:Ann)(ts os:List Nat)(i:Nat)(st:St):Option (St×List Prop×List (St×St)):=
 match ops[i]? with
 | none=>none
 | some o=>match stepD0 I ops an i o st with
  | none=>none
  | some (st0,C,prs)=>match frzD an i o st0 with
   | none=>none
   | some st'=>match litD an i o st' with
    | none=>none
    | some (st'',prs')=>some (st''.canon ts os,C,prs++prs')
def depOn(o:Oper):List Nat:=(o.after.toList.filter (Region.binds .any)).map (·.on)
def getB:List Bool→Nat→Bool→Bool
 | [],_,d=>d
 | b::_,0,_=>b
 | _::l,i+1,d=>getB l i d
theorem getB_eq(l:List Bool)(i:Nat)(d:Bool):getB l i d=l.getD i d:=by
 induction l generalizing i with
 | nil=>simp[getB]
 | cons b l ih=>cases i <;> simp[getB,ih]
def setB:List Bool→Nat→List Bool
 | [],_=>[]
 | _::l,0=>true::l
 | b::l,i+1=>b::setB l i
theorem setB_eq(l:List Bool)(i:Nat):setB l i=l.set i true:=by
 induction l generalizing i with
 | nil=>simp[setB]
 | cons b l ih=>cases i <;> simp[setB,ih]
def rdyB(ops:List Oper)(m:List Bool)(i:Nat):Bool:=
 match getB m i true with
 | true=>false
 | false=>match ops[i]? with
  | none=>false
  | some o=>(depOn o).all fun j=>getB m j false
inductive LitOk:List (Nat×(Bool×Bool))→Prop
 | nil:LitOk []
 | cons {i:Nat} {b v:Bool} {l:List (Nat×(Bool×Bool))} (h:b=v) (t:LitOk l):LitOk ((i,b,v)::l)
theorem LitOk.mem{l:List (Nat×(Bool×Bool))}(h:LitOk l):∀ e,e∈l→e.2.1=e.2.2:=by
 induction h with
 | nil=>simp
 | cons h _ ih=>
  intro e he
  rcases List.mem_cons.1 he with rfl | he
  ·exact h
  ·exact ih e he
inductive CondOk:List (Nat×List Prop)→Prop
 | nil:CondOk []
 | cons {i:Nat} {C:List Prop} {l:List (Nat×List Prop)} (h:All C) (t:CondOk l):CondOk ((i,C)::l)
theorem CondOk.mem{l:List (Nat×List Prop)}(h:CondOk l):∀ e,e∈l→All e.2:=by
 induction h with
 | nil=>simp
 | cons h _ ih=>
  intro e he
  rcases List.mem_cons.1 he with rfl | he
  ·exact h
  ·exact ih e he
theorem CondOk.at{an:Ann}(h:CondOk an.conds)(i:Nat):All (condsAt an i):=by
 unfold condsAt
 split
 ·rename_i l hl; exact h.mem _ (look_mem hl)
 ·trivial
section
variable {P:Program} {E:Env} {I:Inf} {Q:Post} {st st':St}
theorem rdyB_of{ops:List Oper}{m:List Bool}{i:Nat}(h:i∈Region.ready .any ops.toArray m.toArray):rdyB ops m i=true∧i<ops.length:=by
 obtain⟨h1,o,ho,h2⟩:=mem_ready.1 h
 have ho':ops[i]? = some o:=by simpa using ho
 refine⟨?_,(List.getElem?_eq_some_iff.1 ho').1⟩
 unfold rdyB
 have h1':getB m i true=false:=by rw[getB_eq]; simpa[Array.getD_eq_getD_getElem?,List.getD_eq_getElem?_getD] using h1
 rw[h1',ho']
 simp only[depOn,List.all_map,List.all_eq_true,List.mem_filter,Function.comp]
 rintro e ⟨he1,he2⟩
 have:=h2 e (by simpa using he1) he2
 rw[getB_eq]
 simpa[Array.getD_eq_getD_getElem?,List.getD_eq_getElem?_getD] using this
theorem Rel.same{a:Act}{w w':World}(r:Rel E st a w)(hh:w'.heap=w.heap)(ho:w'.os=w.os)(ht:w'.tape=w.tape)(hu:w'.output=w.output):Rel E st a w':=by
 obtain⟨F,g,r⟩:=r
 have hb:∀ b:Nat,w'.heap[b]? = w.heap[b]?:=fun b=>by rw[hh]
 have hf:∀ {o x b},Foot g w' o x b→Foot g w o x b:=fun h=>h.mono rfl (fun _ _=>rfl) (fun c _=>hb c)
 refine⟨F,g,r.nt,r.df,fun t x hx=>(r.fr t x hx).mono (fun b h=>⟨h,hb b⟩) (fun _ _=>rfl),⟨⟨fun o x hx=>?_,fun o x b hx h=>r.w.hp.own o x b hx (hf h),fun o x o' y b hx hy hne h h'=>r.w.hp.sep o x o' y b hx hy hne (hf h) (hf h')⟩,r.w.f0,fun b h=>?_,?_,r.w.names,r.w.b0⟩⟩
 ·exact(r.w.hp.obj o x hx).mono (fun b h=>⟨h,hb b⟩) rfl (fun _ _=>rfl) (fun b _=>hb b)
 ·rw[hh]; exact r.w.f1 b h
 ·exact r.w.ext.trans ho ht hu (by rw[hh]; exact Nat.le_refl _) (fun b _ _=>hb b)
theorem Rel.drew{a:Act}{w:World}(r:Rel E st a w):Rel E st a { w with drawn:=w.drawn+1 }:=r.same rfl rfl rfl rfl
end
def inN:Nat→List Nat→Bool
 | _,[]=>false
 | o,k::l=>match Nat.beq o k with | true=>true | false=>inN o l
theorem inN_ok{o:Nat}:∀ {l:List Nat},inN o l=true↔o∈l
 | []=>by simp[inN]
 | k::l=>by
  simp only[inN]
  split
  ·rename_i h; simp[Nat.eq_of_beq_eq_true h]
  ·rename_i h; rw[inN_ok (l:=l)]; simp[Nat.ne_of_beq_eq_false h]
def restH(hp:Hp)(L:List Nat):Hp:=hp.filter fun e=>!(inN e.1 L)
theorem mem_restH{hp:Hp}{L:List Nat}{e:Nat×PObj}(h:e∈restH hp L):e∈hp∧e.1∉L:=by
 simp only[restH,List.mem_filter,Bool.not_eq_true']at h
 exact⟨h.1,fun hm=>by rw[inN_ok.2 hm]at h; cases h.2⟩
def noneIn(ns l:List Nat):Bool:=ns.all fun o=>!(inN o l)
theorem noneIn_ok{ns l:List Nat}(h:noneIn ns l=true):∀ o,o∈ns→o∉l:=by
 intro o ho hm
 have:=List.all_eq_true.1 h o ho
 rw[inN_ok.2 hm]at this; cases this
def allIn(ns l:List Nat):Bool:=ns.all fun o=>inN o l
theorem allIn_ok{ns l:List Nat}(h:allIn ns l=true):∀ o,o∈ns→o∈l:=fun o ho=>inN_ok.1 (List.all_eq_true.1 h o ho)
def freshIn(st:St)(L N nw:List Nat):Bool:=(st.fr.all fun e=>noneIn e.2.names nw)&&((restH st.hp L).all fun e=>(!(inN e.1 nw))&&noneIn e.2.names nw)&&noneIn N nw
def backIn(r:PV)(H:Hp)(l:List Nat):Bool:=allIn r.names l&&H.all fun e=>inN e.1 l&&allIn e.2.names l
section
variable {P:Program} {E:Env} {I:Inf} {Q:Post} {st:St}
theorem call_opH(hG:Good P E I){ops:List Oper}{o:Oper}{c:Call}{f:Operand}{k d nf:Nat}{caps aps bps:List PV}{Qc:PV→Hp→Prop}{Hs:Hp}(L N nw:List Nat)
  (hop:o.op = .call c)(hcal:c.callee = .value f)(hd:o.dst=some d)(hw:wantedP ops o st=some true)(hnt:Nat.blt d I.nt=true)
  (hf:ev st f=some (.fn (.func k) nf caps))(hargs:evList st c.args.toList=some aps)(hk:Callable P k)(has:ArgsR st [] (caps.take nf++aps++caps.drop nf) bps)
  (hpick:pickH st.hp L=some Hs)(hfresh:freshIn st L I.N nw=true)(hcall:PCall P k bps Hs N Qc)
  {K:Act→World→Prop}{Q':Exit→Act→World→Prop}{a:Act}{w:World}(r:Rel E st a w)
  (hres:∀ r H',Qc r H'→backIn r H' (N++nw)=true∧∀ a' w',Rel E (({ fr:=st.fr,hp:=H'++restH st.hp L }:St).put d r) a' w'→K a' w'):
  if Region.wanted o (yielded ops.toArray a.tmps) then o.wp P a w K Q' else K (a.put o.dst undef) w:=by
 obtain⟨F,g,r⟩:=r
 have hwt:=wantedP_ok (ops:=ops.toArray) r (by simpa using hw)
 obtain⟨hl1,hr1⟩:=evList_ok r _ _ hargs
 have hfv:=ev_ok r hf
 obtain⟨fv,hfe⟩:∃ u,a.eval f=u:=⟨_,rfl⟩
 rw[hfe]at hfv
 have hHs:=pickH_ok hpick
 cases hfv with
 | @fn _ _ _ us vs hn hs hr=>
  subst hn
  rw[if_pos hwt]
  unfold Oper.wp
  have hrun:(execOp a.eval o).run P w = .ok (.enter k (us++(c.args.map a.eval)++vs)) w:=by
   unfold execOp
   simp[hop,resolve,hcal,hfe,Deferred.ofValue,invoke,run_callFunc hk]
  rw[hrun]
  have hcallW:=hcall F g w (us++c.args.map a.eval++vs) (by
    have:=has.get.1
    simp only[List.length_append,List.length_take,List.length_drop]at this
    have h2:c.args.size=aps.length:=by simpa using hl1.symm
    simp only[Array.size_append]at hs
    simp only[Array.size_append,Array.size_map]; omega) (fun j q v hq hv=>by
    obtain⟨p,hp,hpq⟩:=has.get.2 j q hq
    have hpv:VR F g w p v:=by
     have h2:c.args.size=aps.length:=by simpa using hl1.symm
     have hus:us.size≤caps.length:=by simp at hs; omega
     have htk:(caps.take us.size).length=us.size:=by simp; omega
     by_cases hi:j<us.size
     ·rw[List.append_assoc,List.getElem?_append_left (by omega),List.getElem?_take_of_lt hi]at hp
      rw[Array.append_assoc,Array.getElem?_append_left hi]at hv
      exact hr j p v hp (by rw[Array.getElem?_append_left hi]; exact hv)
     rw[List.append_assoc,List.getElem?_append_right (by omega),htk]at hp
     rw[Array.append_assoc,Array.getElem?_append_right (by omega)]at hv
     by_cases hj:j-us.size<aps.length
     ·rw[List.getElem?_append_left hj]at hp
      rw[Array.getElem?_append_left (by simp; omega)]at hv
      exact hr1 _ p v hp (by simpa using hv)
     ·rw[List.getElem?_append_right (by omega),List.getElem?_drop]at hp
      rw[Array.getElem?_append_right (by simp; omega)]at hv
      refine hr (us.size+(j-us.size-aps.length)) p v hp ?_
      rw[Array.getElem?_append_right (by omega)]
      simpa[h2] using hv
    cases hpq with
    | same=>exact hpv
    | nil hx=>cases hpv; exact .t (.nil hx)
    | imp h=>exact h _ _ _ _ hpv
    | lend ho=>simp at ho)
   ⟨fun o x hx=>r.w.hp.obj o x (hHs _ hx).1,fun o x b hx hb=>⟨(r.w.hp.own o x b (hHs _ hx).1 hb).1,trivial⟩,
    fun o x o' y b hx hy=>r.w.hp.sep o x o' y b (hHs _ hx).1 (hHs _ hy).1⟩ (fun b hb=>(r.w.f1 b hb).1) (hG.glw r.w)
  simp only[Oper.upon]
  refine hcallW.mono ?_
  rintro e w' ⟨v,res,H',F',g',rfl,hQ,hv,hW⟩
  obtain⟨hback,hgo⟩:=hres res H' hQ
  refine hgo _ _ ?_
  rw[hd]
  have hext:=hW.ext
  simp only[freshIn,Bool.and_eq_true,List.all_eq_true,Bool.not_eq_true']at hfresh
  obtain⟨⟨hfr,hrest⟩,hN⟩:=hfresh
  simp only[backIn,Bool.and_eq_true,List.all_eq_true]at hback
  obtain⟨hbr,hbH⟩:=hback
  let g2:Nat→Value:=fun o=>if inN o nw=true then g' o else g o
  have hold:∀ o,o∉nw→g2 o=g o:=fun o ho=>if_neg (fun h=>ho (inN_ok.1 h))
  have hnew:∀ o,o∈N++nw→g2 o=g' o:=by
   intro o ho
   show (if inN o nw=true then g' o else g o)=g' o
   split
   ·rfl
   ·rename_i h
    rcases List.mem_append.1 ho with ho | ho
    ·exact(hW.names o ho).symm
    ·exact absurd (inN_ok.2 ho) h
  have hown:∀ b,Own g w Hs b→b<w.heap.size∧¬ F b:=by
   rintro b ⟨o,x,hx,hb⟩
   exact⟨hb.block (r.w.hp.obj o x (hHs _ hx).1),(r.w.hp.own o x b (hHs _ hx).1 hb).1⟩
  have hblk:∀ b,b<w.heap.size→¬ Own g w Hs b→w'.heap[b]? = w.heap[b]?:=fun b hb hB=>hext.block b hb hB
  have hFF:∀ b,F b→F' b∧w'.heap[b]? = w.heap[b]?:=fun b hb=>⟨hW.f0 b hb,hblk b (r.w.f1 b hb).1 (fun h=>(hown b h).2 hb)⟩
  have hnotown:∀ o x b,(o,x)∈restH st.hp L→Foot g w o x b→¬ Own g w Hs b:=by
   rintro o x b hx hb ⟨o',x',hx',hb'⟩
   obtain⟨h1,h2⟩:=mem_restH hx
   exact r.w.hp.sep o x o' x' b h1 (hHs _ hx').1 (fun e=>h2 (e▸(hHs _ hx').2)) hb hb'
  have hrn:∀ o x,(o,x)∈restH st.hp L→o∉nw:=fun o x hx hm=>by
   have:=(hrest _ hx).1
   rw[inN_ok.2 hm]at this; cases this
  have hd':d<E.nt:=by rw[hG.nt]; simpa[Nat.blt_eq] using hnt
  have ftH:∀ o x b,(o,x)∈H'→Foot g2 w' o x b→Foot g' w' o x b:=fun o x b hx hb=>by
   have hh:=hbH _ hx
   exact hb.mono (hnew o (inN_ok.1 hh.1)) (fun o' ho'=>hnew o' (allIn_ok hh.2 o' ho')) (fun _ _=>rfl)
  have ftR:∀ o x b,(o,x)∈restH st.hp L→Foot g2 w' o x b→Foot g w o x b:=fun o x b hx hb=>
   hb.mono (hold o (hrn o x hx)) (fun o' ho'=>hold o' (noneIn_ok (hrest _ hx).2 o' ho'))
    (fun c hc=>hblk c ((r.w.hp.obj o x (mem_restH hx).1).block hc) (hnotown o x c hx (.self hc)))
  refine⟨F',g2,r.putW (st':={ fr:=st.fr,hp:=H'++restH st.hp L }) hd' hFF (fun t y hy=>⟨hy,fun o ho=>hold o (noneIn_ok (hfr _ hy) o ho)⟩) ?_
   (hv.mono (fun b hb=>⟨hb,rfl⟩) (fun o ho=>hnew o (allIn_ok hbr o ho)))⟩
  refine⟨⟨fun o x hx=>?_,fun o x b hx hb=>?_,fun o x o' y b hx hy hne hb hb'=>?_⟩,fun b hb=>(hFF b (r.w.f0 b hb)).1,fun b hb=>⟨(hW.f1 b hb).1,?_⟩,?_,fun o ho=>?_,r.w.b0⟩
  ·rcases List.mem_append.1 hx with hx | hx
   ·have hh:=hbH _ hx
    exact(hW.hp.obj o x hx).mono (fun b hb=>⟨hb,rfl⟩) (hnew o (inN_ok.1 hh.1)) (fun o' ho'=>hnew o' (allIn_ok hh.2 o' ho')) (fun _ _=>rfl)
   ·exact(r.w.hp.obj o x (mem_restH hx).1).mono hFF (hold o (hrn o x hx)) (fun o' ho'=>hold o' (noneIn_ok (hrest _ hx).2 o' ho'))
     (fun b hb=>hblk b (hb.block (r.w.hp.obj o x (mem_restH hx).1)) (hnotown o x b hx hb))
  ·rcases List.mem_append.1 hx with hx | hx
   ·have hb:=ftH o x b hx hb
    refine⟨(hW.hp.own o x b hx hb).1,?_⟩
    rcases (hW.hp.own o x b hx hb).2 with⟨o',x',hx',hb'⟩ | h
    ·exact(r.w.hp.own o' x' b (hHs _ hx').1 hb').2
    ·exact .inr (Nat.le_trans r.w.ext.size h)
   ·have hb:=ftR o x b hx hb
    have hlt:=hb.block (r.w.hp.obj o x (mem_restH hx).1)
    have hh:=r.w.hp.own o x b (mem_restH hx).1 hb
    refine⟨fun hF'=>?_,hh.2⟩
    rcases (hW.f1 b hF').2 with h | h | h
    ·exact hh.1 h
    ·exact hnotown o x b hx hb h
    ·exact absurd hlt (Nat.not_lt.2 h)
  ·have key:∀ o x o' y b,(o,x)∈H'→(o',y)∈restH st.hp L→Foot g2 w' o x b→Foot g2 w' o' y b→False:=by
    intro o x o' y b hx hy hb hb'
    have hb:=ftH o x b hx hb
    have hb':=ftR o' y b hy hb'
    rcases (hW.hp.own o x b hx hb).2 with h | h
    ·exact hnotown o' y b hy hb' h
    ·exact absurd (hb'.block (r.w.hp.obj o' y (mem_restH hy).1)) (Nat.not_lt.2 h)
   rcases List.mem_append.1 hx with hx | hx
   ·rcases List.mem_append.1 hy with hy | hy
    ·exact hW.hp.sep o x o' y b hx hy hne (ftH o x b hx hb) (ftH o' y b hy hb')
    ·exact key o x o' y b hx hy hb hb'
   ·rcases List.mem_append.1 hy with hy | hy
    ·exact key o' y o x b hy hx hb' hb
    ·exact r.w.hp.sep o x o' y b (mem_restH hx).1 (mem_restH hy).1 hne (ftR o x b hx hb) (ftR o' y b hy hb')
  ·rcases (hW.f1 b hb).2 with h | h | h
   ·exact(r.w.f1 b h).2
   ·obtain⟨o',x',hx',hb'⟩:=h
    rcases (r.w.hp.own o' x' b (hHs _ hx').1 hb').2 with h | h
    ·exact .inr (.inl h)
    ·exact .inr (.inr h)
   ·exact .inr (.inr (Nat.le_trans r.w.ext.size h))
  ·refine r.w.ext.trans hext.os hext.tape hext.output hext.size (fun b hb hB=>hblk b (by have:=r.w.ext.size; omega) ?_)
   rintro⟨o',x',hx',hb'⟩
   rcases (r.w.hp.own o' x' b (hHs _ hx').1 hb').2 with h | h
   ·exact hB h
   ·exact absurd hb (Nat.not_lt.2 h)
  ·rw[hold o (fun hm=>noneIn_ok hN o (by rw[←hG.N]; exact ho) hm)]
   exact r.w.names o ho
theorem pops_callH(hG:Good P E I){ops l:List Oper}{o:Oper}{rest:List Oper}{c:Call}{f:Operand}{k d nf:Nat}{caps aps bps:List PV}{Qc:PV→Hp→Prop}{Hs:Hp}(L N nw:List Nat)
  (hl:l=o::rest)(hop:o.op = .call c)(hcal:c.callee = .value f)(hd:o.dst=some d)(hw:wantedP ops o st=some true)(hnt:Nat.blt d I.nt=true)
  (hf:ev st f=some (.fn (.func k) nf caps))(hargs:evList st c.args.toList=some aps)(hk:Callable P k)(has:ArgsR st [] (caps.take nf++aps++caps.drop nf) bps)
  (hpick:pickH st.hp L=some Hs)(hfresh:freshIn st L I.N nw=true)(hcall:PCall P k bps Hs N Qc)
  (hres:∀ r H',Qc r H'→backIn r H' (N++nw)=true∧pops P E ops Q rest (({ fr:=st.fr,hp:=H'++restH st.hp L }:St).put d r)):pops P E ops Q l st:=by
 subst hl
 intro a w r
 refine wpList_step fun K hK=>call_opH hG L N nw hop hcal hd hw hnt hf hargs hk has hpick hfresh hcall r fun r H' hq=>⟨(hres r H' hq).1,fun a' w' r'=>hK _ _ ((hres r H' hq).2 a' w' r')⟩
end
def RetH(p:PV)(H:Hp):PV→Hp→Prop:=fun r H'=>r=p∧H'=H
def rn1(o o' k:Nat):Nat:=match Nat.beq k o with | true=>o' | false=>k
def PV.rn(o o':Nat):PV→PV
 | .ptr k off=>.ptr (rn1 o o' k) off
 | .own k=>.own (rn1 o o' k)
 | .aptr k s i off=>.aptr (rn1 o o' k) s i off
 | .map k=>.map (rn1 o o' k)
 | .fn f n cs=>.fn f n (go cs)
 | .tup l=>.tup (go l)
 | .agg l=>.agg (go l)
 | p=>p
where go:List PV→List PV
 | []=>[]
 | x::l=>x.rn o o'::go l
theorem rn_go{o o':Nat}{l:List PV}:PV.rn.go o o' l=l.map (PV.rn o o'):=by
 induction l with
 | nil=>rfl
 | cons x l ih=>simp[PV.rn.go,ih]
def rnIt(o o':Nat):Option Iter→Option Iter
 | none=>none
 | some i=>some ⟨rn1 o o' i.o,i.rem,i.cur⟩
def rnHo(o o':Nat):Option (T×Option PV)→Option (T×Option PV)
 | some (k,some p)=>some (k,some (p.rn o o'))
 | x=>x
def rnOv(o o':Nat):Option (Nat×Nat×PV)→Option (Nat×Nat×PV)
 | some (i,j,p)=>some (i,j,p.rn o o')
 | none=>none
def PObj.rn(o o':Nat):PObj→PObj
 | .box l=>.box (PV.rn.go o o' l)
 | .arm e s n f ov=>.arm e s n f (rnOv o o' ov)
 | .mp it m ho=>.mp (rnIt o o' it) m (rnHo o o' ho)
 | x=>x
def rnSt(o o':Nat)(st:St):St:=⟨st.fr.map fun e=>(e.1,e.2.rn o o'),st.hp.map fun e=>(rn1 o o' e.1,e.2.rn o o')⟩
def grn(N:List Nat)(o o':Nat)(st:St):Option St:=
 match nmem o' N,st.erase o' with
 | true,some st1=>some (rnSt o o' st1)
 | _,_=>none
theorem rn1_upd(g:Nat→Value)(o o' k:Nat)(h:k≠o'):upd g o' (g o) (rn1 o o' k)=g k:=by
 unfold rn1
 split
 ·rename_i hk; rw[upd_same,Nat.eq_of_beq_eq_true hk]
 ·exact upd_other g _ h
theorem VR.rn{F:Nat→Prop}{g:Nat→Value}{w:World}{o o':Nat}{p:PV}{v:Value}(h:VR F g w p v)(hn:∀ k,k∈p.names→k≠o'):VR F (upd g o' (g o)) w (p.rn o o') v:=by
 induction h with
 | t r=>exact .t r
 | ptr e=>exact .ptr (by rw[rn1_upd _ _ _ _ (hn _ (by simp[PV.names]))]; exact e)
 | eptr a hF e=>exact .eptr a hF e
 | own e=>exact .own (by rw[rn1_upd _ _ _ _ (hn _ (by simp[PV.names]))]; exact e)
 | aptr e=>exact .aptr (by rw[rn1_upd _ _ _ _ (hn _ (by simp[PV.names]))]; exact e)
 | map e=>exact .map (by rw[rn1_upd _ _ _ _ (hn _ (by simp[PV.names]))]; exact e)
 | nil=>exact .nil
 | np=>exact .np
 | any h=>exact .any h
 | lit h=>exact .lit h
 | fn hfn hs hr ih=>
  refine .fn hfn (by rw[rn_go]; simpa using hs) fun j x v hx hv=>?_
  rw[rn_go,List.getElem?_map]at hx
  simp only[Option.map_eq_some_iff]at hx
  obtain⟨y,hy,rfl⟩:=hx
  exact ih j y v hy hv fun k hk=>hn k (by simp only[PV.names]; exact PV.names_go_mem hy hk)
 | tup hs hr ih=>
  refine .tup (by rw[rn_go]; simpa using hs) fun j x v hx hv=>?_
  rw[rn_go,List.getElem?_map]at hx
  simp only[Option.map_eq_some_iff]at hx
  obtain⟨y,hy,rfl⟩:=hx
  exact ih j y v hy hv fun k hk=>hn k (by simp only[PV.names]; exact PV.names_go_mem hy hk)
 | agg hs hr ih=>
  refine .agg (by rw[rn_go]; simpa using hs) fun j x v hx hv=>?_
  rw[rn_go,List.getElem?_map]at hx
  simp only[Option.map_eq_some_iff]at hx
  obtain⟨y,hy,rfl⟩:=hx
  exact ih j y v hy hv fun k hk=>hn k (by simp only[PV.names]; exact PV.names_go_mem hy hk)
theorem ObjR.rn{F:Nat→Prop}{g:Nat→Value}{w:World}{o o' k:Nat}{x:PObj}(h:ObjR F g w k x)(hk:k≠o')(hn:∀ k,k∈x.names→k≠o'):ObjR F (upd g o' (g o)) w (rn1 o o' k) (x.rn o o'):=by
 cases x with
 | box l=>
  obtain⟨b,vs,ty,h1,h2,h3,h4⟩:=h
  refine⟨b,vs,ty,by rw[rn1_upd _ _ _ _ hk]; exact h1,h2,by rw[rn_go]; simpa using h3,fun j x v hx hv=>?_⟩
  rw[rn_go,List.getElem?_map]at hx
  simp only[Option.map_eq_some_iff]at hx
  obtain⟨y,hy,rfl⟩:=hx
  exact(h4 j y v hy hv).rn fun k hk=>hn k (by simp only[PObj.names]; exact PV.names_go_mem hy hk)
 | arr e s n f=>
  simp only[PObj.rn]
  rcases h with⟨h1,h2⟩ | ⟨b,cap,cur,h1,h⟩
  ·exact .inl ⟨by rw[rn1_upd _ _ _ _ hk]; exact h1,h2⟩
  ·exact .inr ⟨b,cap,cur,by rw[rn1_upd _ _ _ _ hk]; exact h1,h⟩
 | mpb n m=>
  obtain⟨b,es,cl,h1,h⟩:=h
  exact⟨b,es,cl,by rw[rn1_upd _ _ _ _ hk]; exact h1,h⟩
 | bld ty e s=>
  obtain⟨b,p,v,h1,h⟩:=h
  exact⟨b,p,v,by rw[rn1_upd _ _ _ _ hk]; exact h1,h⟩
 | arm e s n f ov=>
  simp only[PObj.rn]
  rcases h with⟨h1,h2,h3⟩ | ⟨b,cap,cur,h1,h2,h3,h4,h5,hC⟩
  ·subst h3; exact .inl ⟨by rw[rn1_upd _ _ _ _ hk]; exact h1,h2,rfl⟩
  ·refine .inr ⟨b,cap,cur,by rw[rn1_upd _ _ _ _ hk]; exact h1,h2,h3,h4,h5,hC.len,hC.cell,hC.sep,hC.own,fun i j p e=>?_⟩
   rcases ov with _ | ⟨i',j',p'⟩
   ·cases e
   ·simp only[rnOv,Option.some.injEq,Prod.mk.injEq]at e
    obtain⟨rfl,rfl,rfl⟩:=e
    obtain⟨q1,q2,q3⟩:=hC.ov _ _ _ rfl
    exact⟨q1,q2,fun v hv=>(q3 v hv).rn fun q hq=>hn q (by simp[PObj.names,ovN,hq])⟩
 | mp it m ho=>
  obtain⟨b,es,cl,h1,h2,l,r,hM⟩:=h
  refine⟨b,es,cl,by rw[rn1_upd _ _ _ _ hk]; exact h1,h2,l,r,hM.perm,hM.ent,?_,?_,hM.born,hM.old,hM.sep,?_⟩
  ·rcases ho with _ | ⟨k',_ | p⟩
   ·exact hM.hole
   ·exact hM.hole
   ·obtain⟨e,e1,e2,e3⟩:=hM.hole
    exact⟨e,e1,e2,e3.rn fun q hq=>hn q (by simp[PObj.names,hoN,hq])⟩
  ·have:hoK (rnHo o o' ho)=hoK ho:=by rcases ho with _ | ⟨k',_ | p⟩ <;> rfl
   rw[this]; exact hM.keys
  ·cases it with
   | none=>exact True.intro
   | some i=>
    obtain⟨r',since,seen,c0,e1,e⟩:=hM.it
    exact⟨r',since,seen,c0,by simp only; rw[rn1_upd _ _ _ _ (hn i.o (by simp[PObj.names,itN]))]; exact e1,e⟩
theorem Foot.rn{g:Nat→Value}{w:World}{o o' k:Nat}{x:PObj}{b:Nat}(h:Foot (upd g o' (g o)) w (rn1 o o' k) (x.rn o o') b)(hk:k≠o')(hn:∀ k,k∈x.names→k≠o'):Foot g w k x b:=by
 have hs:=rn1_upd g o o' k hk
 cases x with
 | box l=>exact .self (by have:=h.toBlk rfl; rwa [hs]at this)
 | arr e s n f=>exact .self (by have:=h.toBlk rfl; rwa [hs]at this)
 | mpb n m=>exact .self (by have:=h.toBlk rfl; rwa [hs]at this)
 | bld ty e s=>
  simp only[PObj.rn]at h
  cases h with
  | self h=>rw[hs]at h; exact .self h
  | bld h1 h2 h3=>rw[hs]at h1; exact .bld h1 h2 h3
 | arm e s n f ov=>
  simp only[PObj.rn]at h
  cases h with
  | self h=>rw[hs]at h; exact .self h
  | arm h1 h2 h3 h4 h5 h6 h7=>rw[hs]at h1; exact .arm h1 h2 h3 h4 h5 h6 h7
 | mp it m ho=>
  simp only[PObj.rn]at h
  generalize hit:rnIt o o' it=it' at h
  cases h with
  | self h=>rw[hs]at h; exact .self h
  | iter h=>
   cases it with
   | none=>cases hit
   | some i=>
    simp only[rnIt,Option.some.injEq]at hit
    subst hit
    rw[rn1_upd _ _ _ _ (hn i.o (by simp[PObj.names,itN]))]at h
    exact .iter h
  | mem h1 h2 h3 h4 h5 h6 h7=>rw[hs]at h1; exact .mem h1 h2 h3 h4 h5 h6 h7
theorem Le.rn{P:Program}{E:Env}{I:Inf}{st st':St}(hG:Good P E I){o o':Nat}(h:grn I.N o o' st=some st'):Le E st st':=by
 rintro a w ⟨F,g,r⟩
 unfold grn at h
 split at h
 ·rename_i st1 hn he
  cases h
  have hfr:=St.erase_fr he
  have hhp:=St.erase_hp he
  refine⟨F,upd g o' (g o),r.nt,r.df,fun t x hx=>?_,⟨⟨fun k x hx=>?_,fun k x b hx hb=>?_,fun k x k' y b hx hy hne hb hb'=>?_⟩,r.w.f0,r.w.f1,r.w.ext,fun k hk=>?_,r.w.b0⟩⟩
  ·simp only[rnSt,List.mem_map,Prod.mk.injEq]at hx
   obtain⟨⟨t',y⟩,hy,rfl,rfl⟩:=hx
   obtain⟨h1,h2⟩:=hfr _ _ hy
   exact(r.fr _ _ h1).rn h2
  ·simp only[rnSt,List.mem_map,Prod.mk.injEq]at hx
   obtain⟨⟨k',y⟩,hy,rfl,rfl⟩:=hx
   obtain⟨z,h1,h2,h3,h4,_⟩:=hhp _ _ hy
   exact(h4 _ _ _ (r.w.hp.obj _ _ h1)).rn h2 h3
  ·simp only[rnSt,List.mem_map,Prod.mk.injEq]at hx
   obtain⟨⟨k',y⟩,hy,rfl,rfl⟩:=hx
   obtain⟨z,h1,h2,h3,h4,h5⟩:=hhp _ _ hy
   exact r.w.hp.own _ _ b h1 (h5 _ _ _ (hb.rn h2 h3))
  ·simp only[rnSt,List.mem_map,Prod.mk.injEq]at hx hy
   obtain⟨⟨k1,y1⟩,hy1,rfl,rfl⟩:=hx
   obtain⟨⟨k2,y2⟩,hy2,rfl,rfl⟩:=hy
   obtain⟨z1,h1,h2,h3,h4,h5⟩:=hhp _ _ hy1
   obtain⟨z2,h1',h2',h3',h4',h5'⟩:=hhp _ _ hy2
   exact r.w.hp.sep _ _ _ _ b h1 h1' (fun e=>hne (by rw[e])) (h5 _ _ _ (hb.rn h2 h3)) (h5' _ _ _ (hb'.rn h2' h3'))
  ·rw[upd_other g _ (fun e:k=o'=>nmem_ok hn (by rw[←e,←hG.N]; exact hk))]
   exact r.w.names k hk
 ·cases h
def keysL{α:Type}:List (Nat×α)→List Nat
 | []=>[]
 | e::l=>e.1::keysL l
theorem keysL_mem{α:Type}{l:List (Nat×α)}{o:Nat}:o∈keysL l↔∃ x,(o,x)∈l:=by
 induction l with
 | nil=>simp[keysL]
 | cons e l ih=>
  obtain⟨k,y⟩:=e
  simp only[keysL,List.mem_cons,ih,Prod.mk.injEq]
  constructor
  ·rintro (rfl | ⟨x,h⟩)
   ·exact⟨y,.inl ⟨rfl,rfl⟩⟩
   ·exact⟨x,.inr h⟩
  ·rintro⟨x,⟨rfl,_⟩ | h⟩
   ·exact .inl rfl
   ·exact .inr ⟨x,h⟩
def chgH(Hs:Hp):Option (Nat×PObj)→Hp
 | none=>Hs
 | some c=>Hs.map fun e=>match Nat.beq e.1 c.1 with | true=>(e.1,c.2) | false=>e
def mdC:Option (Nat×PObj)→Option (Nat×PObj×Option Nat)
 | none=>none
 | some (o,x)=>some (o,x,none)
structure CallOkH (P:Program)(k:Nat)(args:List PV)(r:PV)(Hs:Hp)(ch:Option (Nat×PObj)):Prop where
 c:Callable P k
 h:(Hs=[]∧ch=none∧∃ bps,(∀ st,ArgsR st [] args bps)∧PCall P k bps [] [] (Ret r))∨∃ bps N,(∀ st,ArgsR st [] args bps)∧PCall P k bps Hs N (RetH r (chgH Hs ch))∧backIn r (chgH Hs ch) N=true∧∀ c,ch=some c→c.1∈keysL Hs
 p:r.pure=true
def lkN:Nat:=1000000007
def cN:Nat:=1000000000
def LookOk(P:Program)(t:TypeId)(args:List PV)(r:PV)(Hs:Hp):Prop:=
 ∀ (F:Nat→Prop) (g:Nat→Value) (w:World) (u kv:Value) (x y:PV),args=[x,y]→VR F g w x u→VR F g w y kv→(∀ e,e∈Hs→ObjR F g w e.1 e.2)→∃ z,(Instr.lookup t u kv false).run P w = .ok z w∧VR F g w r z
def isOwn:PV→Option Nat
 | .own d=>some d
 | .map d=>some d
 | _=>none
inductive CallOkX (P:Program)(k:Nat)(args:List PV)(r:PV)(Hs:Hp)(ch:Option (Nat×PObj)):Prop where
 | call (hk:Nat.blt k cN=true) (hr:isOwn r=none) (h:CallOkH P k args r Hs ch)
 | look (hk:Nat.blt k lkN=false) (h:LookOk P (k-lkN) args r Hs)
 | new (hk:Nat.blt k cN=true) {d e s n:Nat} {f:Nat→List T} (hr:r = .own d) (hH:Hs=[]) (hc:ch=some (d,.arr e s n f)) (c:Callable P k) {bps:List PV} (ha:∀ st,ArgsR st [] args bps)
   (h:PCall P k bps [] [] (RetH (.own d) [(d,.arr e s n f)]))
 | newH (hk:Nat.blt k cN=true) {d:Nat} {y:PObj} (hr:r = .map d) (hc:ch=some (d,y)) (c:Callable P k) {bps:List PV} {N:List Nat} (ha:∀ st,ArgsR st [] args bps)
   (h:PCall P k bps Hs N (RetH (.map d) ((d,y)::Hs))) (hb:backIn (.map d) ((d,y)::Hs) (N++[d])=true)
theorem cN_lk{k:Nat}(h:Nat.blt k cN=true)(h':Nat.blt k lkN=false):False:=by
 rw[Nat.blt_eq]at h
 have:Nat.blt k lkN=true:=by rw[Nat.blt_eq]; unfold lkN; unfold cN at h; omega
 rw[h']at this; cases this
theorem CallOkX.l{P:Program}{k:Nat}{args:List PV}{r:PV}{Hs:Hp}{ch:Option (Nat×PObj)}(h:CallOkX P k args r Hs ch)(hk:Nat.blt k lkN=false):LookOk P (k-lkN) args r Hs:=by
 cases h with
 | look _ h=>exact h
 | call hk' _ h=>exact(cN_lk hk' hk).elim
 | new hk'=>exact(cN_lk hk' hk).elim
 | newH hk'=>exact(cN_lk hk' hk).elim
theorem PCall.renNew{P:Program}{k:Nat}{bps:List PV}{o e s n:Nat}{f:Nat→List T}(d:Nat)(h:PCall P k bps [] [] (RetH (.own o) [(o,.arr e s n f)])):PCall P k bps [] [] (RetH (.own d) [(d,.arr e s n f)]):=by
 intro F g w vs hs hv hH hF hgl
 refine(h F g w vs hs hv hH hF hgl).mono ?_
 rintro ex w' ⟨v,r,H',F',g',he,⟨rfl,rfl⟩,hvr,hw⟩
 refine⟨v,_,_,F',fun q=>if q=d then g' o else g' q,he,⟨rfl,rfl⟩,?_,⟨⟨?_,?_,?_⟩,hw.f0,hw.f1,hw.ext,(fun q hq=>by cases hq),hw.b0⟩⟩
 ·cases hvr with
  | own h=>exact .own (by simp[h])
 ·intro q x hx
  obtain⟨rfl,rfl⟩:=Prod.mk.inj (List.mem_singleton.1 hx)
  have:=hw.hp.obj o _ (List.mem_singleton.2 rfl)
  have this:ArrV F' w' (g' o) e s n f:=this
  show ArrV F' w' _ e s n f
  simpa using this
 ·intro q x b hx hb
  obtain⟨rfl,rfl⟩:=Prod.mk.inj (List.mem_singleton.1 hx)
  cases hb with
  | self hb=>exact hw.hp.own o _ b (List.mem_singleton.2 rfl) (.self (by simpa using hb))
 ·intro q x q' y b hx hy hne
  obtain⟨rfl,rfl⟩:=Prod.mk.inj (List.mem_singleton.1 hx)
  obtain⟨rfl,rfl⟩:=Prod.mk.inj (List.mem_singleton.1 hy)
  exact absurd rfl hne
theorem PCall.renMap{P:Program}{k:Nat}{bps:List PV}{Hs:Hp}{N:List Nat}{o:Nat}{m:List (T×Mem)}(d:Nat)(hd:d∉keysL Hs)(ho:o∉keysL Hs)(hn:∀ e,e∈Hs→∀ q,q∈e.2.names→q≠d)(hN:d∉N)
  (h:PCall P k bps Hs N (RetH (.map o) (Hs++[(o,.mp none m none)]))):PCall P k bps Hs N (RetH (.map d) ((d,.mp none m none)::Hs)):=by
 intro F g w vs hs hv hH hF hgl
 refine(h F g w vs hs hv hH hF hgl).mono ?_
 rintro ex w' ⟨v,r,H',F',g',he,⟨rfl,rfl⟩,hvr,hw⟩
 have hk:∀ {q:Nat} {x:PObj},(q,x)∈Hs→q≠d:=fun hx e=>hd (keysL_mem.2 ⟨_,e▸hx⟩)
 have hko:∀ {q:Nat} {x:PObj},(q,x)∈Hs→q≠o:=fun hx e=>ho (keysL_mem.2 ⟨_,e▸hx⟩)
 have old:∀ {q:Nat} {x:PObj} {b:Nat},(q,x)∈Hs→Foot (fun q=>if q=d then g' o else g' q) w' q x b→Foot g' w' q x b:=fun hx hf=>
  hf.mono (by simp[hk hx]) (fun z hz=>by simp[hn _ hx z hz]) (fun _ _=>rfl)
 have new:∀ {b:Nat},Foot (fun q=>if q=d then g' o else g' q) w' d (.mp none m none) b→Foot g' w' o (.mp none m none) b:=fun hf=>by
  cases hf with
  | self h=>exact .self (by simpa using h)
  | mem h1 h2 h3 h4 h5 h6 h7=>exact .mem (by simpa using h1) h2 h3 h4 h5 h6 h7
 refine⟨v,_,_,F',fun q=>if q=d then g' o else g' q,he,⟨rfl,rfl⟩,?_,⟨⟨?_,?_,?_⟩,hw.f0,hw.f1,hw.ext,fun q hq=>?_,hw.b0⟩⟩
 ·cases hvr with
  | map h=>exact .map (by simp[h])
 ·intro q x hx
  rcases List.mem_cons.1 hx with e | hx
  ·cases e
   obtain⟨b,es,cl,h1,h2,l,r,hM⟩:=hw.hp.obj o _ (List.mem_append_right _ (List.mem_singleton.2 rfl))
   exact⟨b,es,cl,by simp[h1],h2,l,r,hM.perm,hM.ent,hM.hole,hM.keys,hM.born,hM.old,hM.sep,True.intro⟩
  ·exact(hw.hp.obj q x (List.mem_append_left _ hx)).monoF (fun b hb=>⟨hb,rfl⟩) (by simp[hk hx]) (fun z hz=>by simp[hn _ hx z hz]) (fun _ _=>rfl)
 ·intro q x b hx hb
  rcases List.mem_cons.1 hx with e | hx
  ·cases e
   exact hw.hp.own o _ b (List.mem_append_right _ (List.mem_singleton.2 rfl)) (new hb)
  ·exact hw.hp.own q x b (List.mem_append_left _ hx) (old hx hb)
 ·intro q x q' y b hx hy hne h1 h2
  rcases List.mem_cons.1 hx with e | hx
  ·cases e
   rcases List.mem_cons.1 hy with e | hy
   ·cases e; exact hne rfl
   ·exact hw.hp.sep o _ q' y b (List.mem_append_right _ (List.mem_singleton.2 rfl)) (List.mem_append_left _ hy) (fun e=>hko hy e.symm) (new h1) (old hy h2)
  ·rcases List.mem_cons.1 hy with e | hy
   ·cases e
    exact hw.hp.sep q x o _ b (List.mem_append_left _ hx) (List.mem_append_right _ (List.mem_singleton.2 rfl)) (hko hx) (old hx h1) (new h2)
   ·exact hw.hp.sep q x q' y b (List.mem_append_left _ hx) (List.mem_append_left _ hy) hne (old hx h1) (old hy h2)
 ·have:q≠d:=fun e=>hN (e▸hq)
  simp only[this,if_false]
  exact hw.names q hq
def fzN:Nat:=1000000001
def CallOkY(P:Program)(k:Nat)(args:List PV)(r:PV)(Hs:Hp)(ch:Option (Nat×PObj)):Prop:=
 (Nat.beq k fzN=true∧∃ n f x,args=[.t (.sl n f)]∧r = .t x∧∀ F g w v,VR F g w (.t (.sl n f)) v→VR F g w (.t x) v)∨CallOkX P k args r Hs ch
inductive AnnH (P:Program):List (Nat×(Nat×List PV×PV×Hp×Option (Nat×PObj)))→Prop
 | nil:AnnH P []
 | cons {i k:Nat} {args:List PV} {r:PV} {Hs:Hp} {ch:Option (Nat×PObj)} {l:List (Nat×(Nat×List PV×PV×Hp×Option (Nat×PObj)))} (h:CallOkY P k args r Hs ch) (t:AnnH P l):AnnH P ((i,k,args,r,Hs,ch)::l)
theorem AnnH.mem{P:Program}{l:List (Nat×(Nat×List PV×PV×Hp×Option (Nat×PObj)))}(h:AnnH P l):∀ e,e∈l→CallOkY P e.2.1 e.2.2.1 e.2.2.2.1 e.2.2.2.2.1 e.2.2.2.2.2:=by
 induction h with
 | nil=>simp
 | cons h _ ih=>
  intro e he
  rcases List.mem_cons.1 he with rfl | he
  ·exact h
  ·exact ih e he
theorem look_none{α:Type}{l:List (Nat×α)}{o:Nat}(h:look l o=none)(x:α):(o,x)∉l:=by
 induction l with
 | nil=>simp
 | cons e l ih=>
  obtain⟨k,y⟩:=e
  unfold look at h
  split at h
  ·cases h
  ·rename_i hb
   intro hm
   rcases List.mem_cons.1 hm with he | hm
   ·cases he; rw[Nat.beq_refl]at hb; cases hb
   ·exact ih h hm
theorem pickH_app{hp hp':Hp}{Hs:Hp}:∀ {Ks:Hp},pickH hp (keysL Ks)=some Ks→(∀ e,e∈Ks→e∈Hs)→(∀ e,e∈Hs→look hp e.1=some e.2)→pickH (Hs++hp') (keysL Ks)=some Ks
 | [],_,_,_=>rfl
 | (o,x)::Ks,h,hs,hh=>by
  simp only[keysL,pickH]at h ⊢
  split at h
  ·rename_i y r hy hr
   injection h with h
   injection h with h1 h2
   injection h1 with h3 h4
   subst h4; subst h2
   rw[pickH_app hr (fun e he=>hs e (List.mem_cons_of_mem _ he)) hh]
   have hl:∀ {l:Hp},(∀ e,e∈l→look hp e.1=some e.2)→(o,y)∈l→look (l++hp') o=some y:=by
    intro l
    induction l with
    | nil=>intro _ h; cases h
    | cons e l ih=>
     intro hl hm
     obtain⟨k,z⟩:=e
     simp only[List.cons_append,look]
     split
     ·rename_i hb
      have hb:=Nat.eq_of_beq_eq_true hb
      subst hb
      have:=hl _ (List.mem_cons_self ..)
      simp only at this
      rw[hy]at this
      exact this.symm
     ·rename_i hb
      rcases List.mem_cons.1 hm with he | hm
      ·cases he; rw[Nat.beq_refl]at hb; cases hb
      ·exact ih (fun e he=>hl e (List.mem_cons_of_mem _ he)) hm
   rw[hl hh (hs _ (List.mem_cons_self ..))]
  ·cases h
structure LOp where
 val:Option PV
 md:Option (Nat×PObj×Option Nat)
 fs:List (Nat→Bool)
instance:Inhabited LOp:=⟨⟨none,none,[]⟩⟩
theorem look_app{α:Type}{l r:List (Nat×α)}{t:Nat}{x:α}(h:look l t=some x):look (l++r) t=some x:=by
 induction l with
 | nil=>simp[look]at h
 | cons e l ih=>
  obtain⟨k,u⟩:=e
  simp only[List.cons_append]
  unfold look at h ⊢
  split
  ·rename_i hk; rw[hk]at h; exact h
  ·rename_i hk; rw[hk]at h; exact ih h
theorem ev_app{st:St}{fr:Fr}{hp:Hp}{x:Operand}{p:PV}(h:ev st x=some p):ev ⟨st.fr++fr,hp⟩ x=some p:=by
 cases x with
 | tmp t=>exact look_app h
 | const v=>exact h
 | func f=>exact h
 | global _=>simp[ev]at h
theorem evList_app{st:St}{fr:Fr}{hp:Hp}:∀ {l:List Operand} {ps:List PV},evList st l=some ps→evList ⟨st.fr++fr,hp⟩ l=some ps
 | [],ps,h=>h
 | x::l,ps,h=>by
  simp only[evList]at h ⊢
  split at h
  ·rename_i p q hp' hq
   cases h
   rw[ev_app hp',evList_app hq]
  ·cases h
theorem evParts_app{st:St}{fr:Fr}{hp:Hp}:∀ {l:List (Nat×Operand)} {ps:List (Nat×PV)},evParts st l=some ps→evParts ⟨st.fr++fr,hp⟩ l=some ps
 | [],ps,h=>h
 | (i,x)::l,ps,h=>by
  simp only[evParts]at h ⊢
  split at h
  ·rename_i p q hp' hq
   cases h
   rw[ev_app hp',evParts_app hq]
  ·cases h
theorem wantedP_app{st:St}{fr:Fr}{hp:Hp}{ops:List Oper}{o:Oper}{b:Bool}(h:wantedP ops o st=some b):wantedP ops o ⟨st.fr++fr,hp⟩=some b:=by
 unfold wantedP at h ⊢
 cases hg:o.guard with
 | none=>rw[hg]at h; exact h
 | some g=>
  obtain⟨j,want⟩:=g
  rw[hg]at h
  simp only at h ⊢
  cases hj:ops[j]? with
  | none=>rw[hj]at h; cases h
  | some oj=>
   rw[hj]at h
   simp only at h ⊢
   cases hd:oj.dst with
   | none=>rw[hd]at h; cases h
   | some d=>
    rw[hd]at h
    simp only at h ⊢
    cases hl:look st.fr d with
    | none=>rw[hl]at h; simp at h
    | some p=>rw[look_app hl]; rw[hl]at h; exact h
abbrev Eff:=Option PV×Option (Nat×PObj×Option Nat)×List Prop×(List PV×Option Hp)×List (Nat→Bool)
def noA:List PV×Option Hp:=([],some [])
def rowLen(ops:List Oper):Operand→Option Nat
 | .tmp t=>match ops.find? (fun o=>match o.dst with | some d=>Nat.beq d t | none=>false) with
  | some o=>match o.op with | .buildSlice _ len _=>some len | _=>none
  | none=>none
 | _=>none
def okRow(ops:List Oper)(x:Operand)(m s:Nat)(f:Nat→List T):Bool×List (Nat→Bool):=match rowLen ops x with
 | some n=>(Nat.beq n m&&(List.range n).all fun i=>okCells s (f i),[])
 | none=>(true,[fun i=>okCells s (f i)])
def appEff(I:Inf)(ops:List Oper)(st:St)(args:List Operand)(ats:List Nat)(d:Nat):Option Eff:=
 match args,ats with
 | [s,x],[t,t']=>match Nat.beq t t',I.ti t,ev st s,ev st x with
  | true,some i,some p,some q=>match i.und,appArg st q with
   | .sl e,some (m,f2,none)=>match I.ti e with
    | some j=>match Nat.ble 1 j.size&&(Nat.ble 1 j.bytes&&(Nat.beq j.zero.length j.size&&(okRow ops x m j.size f2).1)),Nat.blt d I.nt,nmem d I.N with
     | true,true,true=>match p with
      | .nil=>some (some (.own d),some (d,.arr e j.size m f2,none),[(0+m)*j.bytes≤140737488355328],noA,(okRow ops x m j.size f2).2)
      | .own o=>match look st.hp o with
       | some (.arr e' s' n f1)=>match Nat.beq e e'&&Nat.beq s' j.size with
        | true=>match rowLen ops s with
         | some 0=>match Nat.beq n 0 with
          | true=>some (some (.own d),some (d,.arr e j.size m f2,some o),[(0+m)*j.bytes≤140737488355328],noA,(okRow ops x m j.size f2).2)
          | false=>none
         | _=>some (some (.own d),some (d,.arr e j.size (n+m) (appF n f1 f2),some o),[(n+m)*j.bytes≤140737488355328],noA,(okRow ops x m j.size f2).2)
        | false=>none
       | _=>none
      | _=>none
     | _,_,_=>none
    | none=>none
   | _,_=>none
  | _,_,_,_=>none
 | _,_=>none
def effO0(I:Inf)(ops:List Oper)(ca:Option (Nat×List PV×PV×Hp×Option (Nat×PObj)))(o:Oper)(st:St):Option Eff:=
 match wantedP ops o st with
 | none=>none
 | some false=>match o.dst with
  | some d=>match Nat.blt d I.nt with | true=>some (some (.tup []),none,[],noA,[]) | false=>none
  | none=>some (none,none,[],noA,[])
 | some true=>match ca with
  | some (k,_,r,Hs,ch)=>match o.op,o.dst with
   | .call c,some d=>match c.callee with
    | .value f=>match ev st f,evList st c.args.toList,Nat.blt d I.nt with
     | some (.fn (.func k') 0 []),some as,true=>match Nat.beq k' k,Nat.blt k cN,(match isOwn r with | some q=>Nat.beq q d&&nmem d I.N | none=>true) with
      | true,true,true=>some (some r,mdC ch,[],(as,pickH st.hp (keysL Hs)),[])
      | _,_,_=>none
     | _,_,_=>none
    | _=>none
   | .lookup t x kx false,some d=>match ev st x,ev st kx,Nat.blt d I.nt,Nat.beq k (lkN+t) with
    | some (.map ob),some (.t kp),true,true=>some (some r,none,[],([.map ob,.t kp],pickH st.hp (keysL Hs)),[])
    | _,_,_,_=>none
   | _,_=>none
  | none=>match o.op,o.dst with
   | .alloc e,some d=>match I.ti e,Nat.blt d I.nt,nmem d I.N with
    | some i,true,true=>some (some (.ptr d 0),some (d,.box i.zero,none),[],noA,[])
    | _,_,_=>none
   | .store t a x,none=>match I.ti t,ev st a,ev st x with
    | some i,some (.ptr b off),some q=>match look st.hp b with
     | some (.box l)=>match Nat.beq q.cells.length i.size,Nat.ble (off+i.size) l.length,q.cells.all PV.one with
      | true,true,true=>some (none,some (b,.box (l.take off++q.cells++l.drop (off+i.size)),none),[],noA,[])
      | _,_,_=>none
     | _=>none
    | some i,some (.aptr b s k off),some q=>match look st.hp b,allT q.cells with
     | some (.arr e s' n f),some c=>match Nat.beq s' s,Nat.beq c.length i.size,Nat.ble (off+i.size) s,q.cells.all PV.one with
      | true,true,true,true=>some (none,some (b,.arr e s' n (updF f k (setC s' (f k) off c)),none),[k<n],noA,[])
      | _,_,_,_=>none
     | some (.arm e s' n f ov),_=>match Nat.beq s' s,Nat.beq i.size 1,Nat.ble (off+1) s,q.one,armSet ov f k off q with
      | true,true,true,true,some (f',ov')=>some (none,some (b,.arm e s' n f' ov',none),[k<n],noA,[])
      | _,_,_,_,_=>none
     | _,_=>none
    | _,_,_=>none
   | .buildSlice t 0 ⟨[]⟩,some d=>match I.ti t with
    | some i=>match i.und with
     | .sl e=>match I.ti e with
      | some j=>match Nat.ble 1 j.size,Nat.beq j.zero.length j.size,Nat.blt d I.nt,nmem d I.N with
       | true,true,true,true=>some (some (.own d),some (d,.arr e j.size 0 (arrOf [] j.size),none),[],noA,[])
       | _,_,_,_=>none
      | none=>none
     | _=>none
    | none=>none
   | .buildSlice t len parts,some d=>match I.ti t,evParts st parts.toList with
    | some i,some ps=>match i.und with
     | .sl e=>match I.ti e with
      | some j=>match Nat.ble (len*j.size) 16777216,Nat.ble 1 j.size,Nat.beq j.zero.length j.size,fillP (fun i=>some (i*j.size,j.size)) (zeroAt j (len*j.size)) ps with
       | true,true,true,some c=>match allT c,Nat.beq c.length (len*j.size),Nat.blt d I.nt with
        | some ts,true,true=>some (some (.t (.sl len (arrOf ts j.size))),none,[],noA,[])
        | _,_,_=>none
       | _,_,_,_=>none
      | none=>none
     | _=>none
    | _,_=>none
   | .box ..,_=>none
   | .buildSlice ..,_=>none
   | .makeMap ..,_=>none
   | .mapUpdate ..,_=>none
   | .store ..,_=>none
   | .call { callee:=.builtin .append,args:=args,argTypes:=ats },some d=>appEff I ops st args.toList ats.toList d
   | op,some d=>match pev I st op,Nat.blt d I.nt with
    | some (x,C),true=>some (some x,none,condOf (isC st op) C,noA,[])
    | _,_=>none
   | _,none=>none
def isAlloc(o:Oper):Option Nat:=match o.op,o.dst with
 | .alloc _,some d=>some d
 | .buildSlice _ 0 ⟨[]⟩,some d=>some d
 | .call { callee:=.builtin .append,.. },some d=>some d
 | .call { callee:=.value _,.. },some d=>some d
 | _,_=>none
def fzEff(I:Inf)(ops:List Oper)(o:Oper)(st:St)(r:PV)(x:Option Eff):Option Eff:=match isAlloc o,o.dst,x,wantedP ops o st with
 | some d,some d1,some (some (.own d2),some (d3,.arr e s n f,k),C,_,fs),some true=>match Nat.beq d1 d,Nat.beq d2 d,Nat.beq d3 d,nmem d I.N with
  | true,true,true,true=>some (some r,some (d,.arr e s 0 f,k),C,([.t (.sl n f)],some []),fs)
  | _,_,_,_=>none
 | _,_,_,_=>none
def effO(I:Inf)(ops:List Oper)(ca:Option (Nat×List PV×PV×Hp×Option (Nat×PObj)))(o:Oper)(st:St):Option Eff:=
 match ca with
 | some (k,a,r,Hs,ch)=>match Nat.beq k fzN with
  | true=>fzEff I ops o st r (effO0 I ops none o st)
  | false=>effO0 I ops (some (k,a,r,Hs,ch)) o st
 | none=>effO0 I ops none o st
def delK:Option Nat→Hp→Hp
 | some k,l=>del k l
 | none,l=>l
def appE(S:St)(d:Option Nat)(v:Option PV)(md:Option (Nat×PObj×Option Nat)):St:=
 ⟨match d,v with | some d,some x=>(d,x)::del d S.fr | _,_=>S.fr,match md with | some (o,c,k)=>(o,c)::del o (delK k S.hp) | none=>S.hp⟩
section
variable {P:Program} {E:Env} {I:Inf} {Q:Post}
theorem erHp_clean{d:Nat}:∀ {l:Hp},(∀ e,e∈l→Nat.beq e.1 d=false∧e.2.mentions d=false)→erHp d l=some l
 | [],_=>rfl
 | (k,x)::l,h=>by
  have h1:=h _ (List.mem_cons_self ..)
  have hx:x.er d=some x:=by
   cases x with
   | box c=>
    have hc:∀ (c:List PV),(∀ k,k∈PV.names.go c→k≠d)→erCells d c=some c:=by
     intro c
     induction c with
     | nil=>intro _; rfl
     | cons y c ih=>
      intro hh
      have hy:y.mentions d=false:=by
       unfold PV.mentions
       rw[List.any_eq_false]
       intro k hk hb
       exact hh k (by simp[PV.names.go,hk]) (Nat.eq_of_beq_eq_true hb)
      have:=ih fun k hk=>hh k (by simp[PV.names.go,hk])
      simp only[erCells,PV.er,hy,this]
    simp only[PObj.er]
    rw[hc c (fun k hk=>PObj.not_mentions h1.2 k (by simpa[PObj.names] using hk))]
   | arr=>rfl
   | mpb=>rfl
   | bld=>rfl
   | arm e s n f ov=>
    have hn:=PObj.not_mentions h1.2
    have e1:erOv d ov=ov:=by
     rcases ov with _ | ⟨i,j,p⟩
     ·rfl
     ·have hp:p.mentions d=false:=by
       unfold PV.mentions
       rw[List.any_eq_false]
       intro k hk hb
       exact hn k (by simp[PObj.names,ovN,hk]) (Nat.eq_of_beq_eq_true hb)
      simp only[erOv,hp]
    simp only[PObj.er,e1]
   | mp it m ho=>
    have hn:=PObj.not_mentions h1.2
    have e1:erIt d it=it:=by
     cases it with
     | none=>rfl
     | some i=>
      have:=hn i.o (by simp[PObj.names,itN])
      simp only[erIt]
      split
      ·rename_i hb; exact absurd (Nat.eq_of_beq_eq_true hb) this
      ·rfl
    have e2:erHo d ho=ho:=by
     rcases ho with _ | ⟨k',_ | p⟩
     ·rfl
     ·rfl
     ·have hp:p.mentions d=false:=by
       unfold PV.mentions
       rw[List.any_eq_false]
       intro k hk hb
       exact hn k (by simp[PObj.names,hoN,hk]) (Nat.eq_of_beq_eq_true hb)
      simp only[erHo,hp]
    simp only[PObj.er,e1,e2]
  simp only[erHp,h1.1,hx,erHp_clean fun e he=>h e (List.mem_cons_of_mem _ he)]
theorem erase_clean{d:Nat}{S:St}(h1:∀ e,e∈S.fr→e.2.mentions d=false)(h2:∀ e,e∈S.hp→Nat.beq e.1 d=false∧e.2.mentions d=false):S.erase d=some S:=by
 unfold St.erase
 rw[erHp_clean h2]
 have:S.fr.filter (fun e=>!(e.2.mentions d))=S.fr:=List.filter_eq_self.2 fun e he=>by simp[h1 e he]
 simp[this]
theorem RelG.sub{F:Nat→Prop}{g:Nat→Value}{st st':St}{a:Act}{w:World}(r:RelG E F g st a w)(hf:∀ e,e∈st'.fr→e∈st.fr)(hh:∀ e,e∈st'.hp→e∈st.hp):RelG E F g st' a w:=
 ⟨r.nt,r.df,fun t x hx=>r.fr t x (hf _ hx),⟨r.w.hp.sub hh,r.w.f0,r.w.f1,r.w.ext,r.w.names,r.w.b0⟩⟩
theorem none1{l:List Nat}{d:Nat}(h:∀ k,k∈l→k≠d):noneIn l [d]=true:=by
 unfold noneIn
 rw[List.all_eq_true]
 intro k hk
 cases hb:inN k [d] with
 | false=>rfl
 | true=>exact absurd (List.mem_singleton.1 (inN_ok.1 hb)) (h k hk)
theorem pure_notown{p:PV}(h:p.pure=true):isOwn p=none:=by
 cases p <;> first | rfl | (simp[PV.pure,PV.names]at h)
theorem mem_del'{α:Type}{o:Nat}{l:List (Nat×α)}{x:Nat×α}(h:x∈del o l):x∈l:=by
 obtain⟨k,y⟩:=x
 exact(mem_del.1 h).1
theorem mem_delK{o:Nat}{k:Option Nat}{l:Hp}{x:Nat×PObj}(h:x∈del o (delK k l)):x∈l:=by
 have h1:=mem_del' h
 cases k with
 | none=>exact h1
 | some k=>exact mem_del' h1
theorem Rel.fzRow{d e s n:Nat}{f:Nat→List T}{fr:Fr}{hp:Hp}(hN:I.N=E.N)(hd:nmem d I.N=true)(h1:∀ x,x∈fr→x.2.mentions d=false)(h2:∀ x,x∈hp→Nat.beq x.1 d=false∧x.2.mentions d=false){a:Act}{w:World}
  (r:Rel E ⟨(d,.own d)::fr,(d,.arr e s n f)::hp⟩ a w):Rel E ⟨(d,.t (.sl n f))::fr,(d,.arr e s 0 f)::hp⟩ a w:=by
 obtain⟨F,g,r⟩:=r
 have hob:=r.w.hp.obj d (.arr e s n f) List.mem_cons_self
 have hrd:Rd (fun b=>F b∨blk (g d)=some b) w (.sl n f) (g d):=own_rd hob (fun b hb=>.inl hb) (fun b hb=>.inr hb) rfl
 have hne:∀ x,x∈hp→x.1≠d:=fun x hx e=>by have:=(h2 x hx).1; rw[e,Nat.beq_refl]at this; cases this
 have hfoot:∀ k y b,(k,y)∈hp→Foot (upd g d (.slice none 0 0)) w k y b→Foot g w k y b:=fun k y b hy hb=>
  hb.mono (upd_other g _ (hne _ hy)) (fun q hq=>upd_other g _ (PObj.not_mentions (h2 _ hy).2 q hq)) (fun _ _=>rfl)
 have hno:∀ b,¬ Foot (upd g d (.slice none 0 0)) w d (.arr e s 0 f) b:=fun b hb=>by have hb:=hb.toBlk rfl; rw[upd_same]at hb; simp[blk]at hb
 refine⟨fun b=>F b∨blk (g d)=some b,upd g d (.slice none 0 0),r.nt,r.df,fun t x hx=>?_,⟨⟨fun k y hy=>?_,fun k y b hy hb=>?_,fun k y k' y' b hy hy' hkk hb hb'=>?_⟩,fun b hb=>.inl (r.w.f0 b hb),fun b hb=>?_,r.w.ext,fun k hk=>?_,r.w.b0⟩⟩
 ·rcases List.mem_cons.1 hx with hx | hx
  ·cases hx
   have:=r.fr d (.own d) List.mem_cons_self
   generalize a.tmps.getD d undef=u at this
   have he:u=g d:=by cases this with | own hg=>exact hg.symm
   rw[he]
   exact .t hrd
  ·exact(r.fr t x (List.mem_cons_of_mem _ hx)).mono (fun b hb=>⟨.inl hb,rfl⟩) (fun q hq=>upd_other g _ (PV.not_mentions (h1 _ hx) q hq))
 ·rcases List.mem_cons.1 hy with hy | hy
  ·cases hy; exact .inl ⟨upd_same ..,rfl⟩
  ·exact(r.w.hp.obj k y (List.mem_cons_of_mem _ hy)).mono (fun b hb=>⟨.inl hb,rfl⟩) (upd_other g _ (hne _ hy)) (fun q hq=>upd_other g _ (PObj.not_mentions (h2 _ hy).2 q hq)) (fun _ _=>rfl)
 ·rcases List.mem_cons.1 hy with hy | hy
  ·cases hy; exact absurd hb (hno b)
  ·have hb:=hfoot k y b hy hb
   have:=r.w.hp.own k y b (List.mem_cons_of_mem _ hy) hb
   refine⟨?_,this.2⟩
   rintro (h | h)
   ·exact this.1 h
   ·exact r.w.hp.sep k y d _ b (List.mem_cons_of_mem _ hy) List.mem_cons_self (hne _ hy) hb (.self h)
 ·rcases List.mem_cons.1 hy with hy | hy
  ·cases hy; exact absurd hb (hno b)
  ·rcases List.mem_cons.1 hy' with hy' | hy'
   ·cases hy'; exact absurd hb' (hno b)
   ·exact r.w.hp.sep k y k' y' b (List.mem_cons_of_mem _ hy) (List.mem_cons_of_mem _ hy') hkk (hfoot k y b hy hb) (hfoot k' y' b hy' hb')
 ·rcases hb with hb | hb
  ·exact r.w.f1 b hb
  ·have:=(r.w.hp.own d _ b List.mem_cons_self (.self hb)).2
   exact⟨hob.block hb,this.elim (fun h=>.inr (.inl h)) (fun h=>.inr (.inr h))⟩
 ·rw[upd_other g _ (fun e:k=d=>nmem_ok hd (hN▸e▸hk))]
  exact r.w.names k hk
theorem eff_ok0(hG:Good P E I){ops:List Oper}{o:Oper}{S st:St}{ca:Option (Nat×List PV×PV×Hp×Option (Nat×PObj))}(hca:∀ k args r Hs ch,ca=some (k,args,r,Hs,ch)→CallOkX P k args r Hs ch)(hfr:∀ e,e∈st.fr→e∈S.fr)
  (hhp:∀ e,e∈st.hp→e∈S.hp){v:Option PV}{md:Option (Nat×PObj×Option Nat)}{Cs:List Prop}{as:List PV×Option Hp}{fs:List (Nat→Bool)}(huq:∀ k x y,(k,x)∈S.hp→(k,y)∈S.hp→x=y)(h:effO0 I ops ca o st=some (v,md,Cs,as,fs))(hC:All Cs)(hfs:∀ f,f∈fs→∀ i,f i=true)
  (has:∀ k args r Hs ch,ca=some (k,args,r,Hs,ch)→wantedP ops o st=some true→as=(args,some Hs))(hclean:∀ d,isAlloc o=some d→(∀ e,e∈S.fr→e.2.mentions d=false)∧∀ e,e∈S.hp→Nat.beq e.1 d=false∧e.2.mentions d=false){a:Act}{w:World}(r:Rel E S a w)
  {K:Act→World→Prop}{Q':Exit→Act→World→Prop}(hk:∀ a' w',Rel E (appE S o.dst v md) a' w'→K a' w'):
  if Region.wanted o (yielded ops.toArray a.tmps) then o.wp P a w K Q' else K (a.put o.dst undef) w:=by
 obtain⟨F,g,r⟩:=r
 have ri:=r.sub hfr hhp
 unfold effO0 at h
 split at h
 ·cases h
 ·
  rename_i hw
  rw[if_neg (by rw[wantedP_ok (ops:=ops.toArray) ri (by simpa using hw)]; simp)]
  split at h
  ·rename_i d hd
   split at h
   ·rename_i hlt
    cases h
    refine hk _ _ ?_
    rw[hd]
    exact⟨F,g,r.put (by rw[hG.nt]; simpa[Nat.blt_eq] using hlt) (.tup rfl (fun j x v hx=>by simp at hx))⟩
   ·cases h
  ·rename_i hd
   cases h
   refine hk _ _ ?_
   rw[hd]
   exact⟨F,g,r⟩
 ·rename_i hw
  have hwt:=wantedP_ok (ops:=ops.toArray) ri (by simpa using hw)
  split at h
  ·
   rename_i k args res Hs ch
   have hok:=hca _ _ _ _ _ rfl
   have has':=has _ _ _ _ _ rfl hw
   split at h
   ·rename_i c d hop hd
    split at h
    ·rename_i f hcal
     split at h
     ·rename_i k' as' hf hargs hnt
      split at h
      ·rename_i hkk hkl hno
       have hkk:=Nat.eq_of_beq_eq_true hkk
       subst hkk
       cases h
       injection has' with has1 has2
       subst has1
       cases hok with
       | look hk' _=>exact(cN_lk hkl hk').elim
       | @new _ d' e s n f hr hH hch hcc bps hb1 hb2=>
        subst hr hH hch
        simp only[isOwn,Bool.and_eq_true]at hno
        obtain⟨hno1,hno2⟩:=hno
        have hno1:=Nat.eq_of_beq_eq_true hno1
        subst hno1
        obtain⟨hcl1,hcl2⟩:=hclean _ (by unfold isAlloc; rw[hop,hd]; obtain⟨cc,ca,ct⟩:=c; simp only at hcal; subst hcal; rfl)
        have r2:Rel E ⟨st.fr++S.fr,S.hp⟩ a w:=⟨F,g,r.sub (fun e he=>by
         rcases List.mem_append.1 he with he | he
         ·exact hfr e he
         ·exact he) (fun e he=>he)⟩
        refine call_opH hG [] [] [d'] (bps:=bps) hop hcal hd (wantedP_app hw) hnt (ev_app hf) (evList_app hargs) hcc (by simpa using hb1 _) rfl ?_ hb2 r2 (fun r' H' hr=>?_)
        ·simp only[freshIn,restH,Bool.and_eq_true,List.all_eq_true]
         refine⟨⟨fun e he=>?_,fun e he=>?_⟩,?_⟩
         ·have:=hcl1 e (by rcases List.mem_append.1 he with he | he
                           ·exact hfr e he
                           ·exact he)
          exact none1 (PV.not_mentions this)
         ·obtain⟨h1,h2⟩:=hcl2 e (List.mem_filter.1 he).1
          refine⟨?_,none1 (PObj.not_mentions h2)⟩
          rw[Bool.not_eq_true']
          cases hb:inN e.1 [d'] with
          | false=>rfl
          | true=>rw[List.mem_singleton.1 (inN_ok.1 hb),Nat.beq_refl]at h1; cases h1
         ·exact none1 fun k hk e=>nmem_ok hno2 (e▸hk)
        ·unfold RetH at hr
         obtain⟨rfl,rfl⟩:=hr
         refine⟨by simp[backIn,allIn,PV.names,PObj.names,inN],fun a' w' r'=>hk a' w' ?_⟩
         refine r'.sub (fun e he=>?_) (fun e he=>?_)
         ·simp only[appE,hd]at he
          simp only[St.put]
          rcases List.mem_cons.1 he with rfl | he
          ·exact List.mem_cons_self ..
          ·refine List.mem_cons_of_mem _ ?_
           obtain⟨k,y⟩:=e
           obtain⟨h1,h2⟩:=mem_del.1 he
           exact mem_del.2 ⟨List.mem_append_right _ h1,h2⟩
         ·simp only[appE,mdC,delK]at he
          simp only[St.put,List.mem_append]
          rcases List.mem_cons.1 he with rfl | he
          ·exact .inl (List.mem_singleton.2 rfl)
          ·obtain⟨k,y⟩:=e
           obtain⟨h1,h2⟩:=mem_del.1 he
           exact .inr (List.mem_filter.2 ⟨h1,by simp[inN]⟩)
       | @newH _ d' y hr hch hcc bps N hb1 hb2 hb3=>
        subst hr hch
        simp only[isOwn,Bool.and_eq_true]at hno
        obtain⟨hno1,hno2⟩:=hno
        have hno1:=Nat.eq_of_beq_eq_true hno1
        subst hno1
        obtain⟨hcl1,hcl2⟩:=hclean _ (by unfold isAlloc; rw[hop,hd]; obtain⟨cc,ca,ct⟩:=c; simp only at hcal; subst hcal; rfl)
        have hin:∀ e,e∈Hs→e∈st.hp:=fun e he=>(pickH_ok has2 e he).1
        have r2:Rel E ⟨st.fr++S.fr,Hs++S.hp⟩ a w:=⟨F,g,r.sub (fun e he=>by
         rcases List.mem_append.1 he with he | he
         ·exact hfr e he
         ·exact he) (fun e he=>by
         rcases List.mem_append.1 he with he | he
         ·exact hhp e (hin e he)
         ·exact he)⟩
        have hlk:∀ e,e∈Hs→look st.hp e.1=some e.2:=by
         intro e he
         have hm:=hin e he
         obtain⟨x,hx⟩:∃ x,look st.hp e.1=some x:=by
          cases hl:look st.hp e.1 with
          | some x=>exact⟨x,rfl⟩
          | none=>exact absurd hm (look_none hl e.2)
         rw[hx,huq e.1 x e.2 (hhp _ (look_mem hx)) (hhp _ hm)]
        refine call_opH hG (keysL Hs) N [d'] (bps:=bps) hop hcal hd (wantedP_app hw) hnt (ev_app hf) (evList_app hargs) hcc (by simpa using hb1 _) (pickH_app has2 (fun e he=>he) hlk) ?_ hb2 r2 (fun r' H' hr=>?_)
        ·simp only[freshIn,Bool.and_eq_true,List.all_eq_true]
         refine⟨⟨fun e he=>?_,fun e he=>?_⟩,?_⟩
         ·have:=hcl1 e (by rcases List.mem_append.1 he with he | he
                           ·exact hfr e he
                           ·exact he)
          exact none1 (PV.not_mentions this)
         ·have he2:e∈S.hp:=by
           rcases List.mem_append.1 (mem_restH he).1 with h | h
           ·exact hhp _ (hin _ h)
           ·exact h
          obtain⟨h1,h2⟩:=hcl2 e he2
          refine⟨?_,none1 (PObj.not_mentions h2)⟩
          rw[Bool.not_eq_true']
          cases hb:inN e.1 [d'] with
          | false=>rfl
          | true=>rw[List.mem_singleton.1 (inN_ok.1 hb),Nat.beq_refl]at h1; cases h1
         ·exact none1 fun k hk e=>nmem_ok hno2 (e▸hk)
        ·unfold RetH at hr
         obtain⟨rfl,rfl⟩:=hr
         refine⟨hb3,fun a' w' r'=>hk a' w' ?_⟩
         refine r'.sub (fun e he=>?_) (fun e he=>?_)
         ·simp only[appE,hd]at he
          simp only[St.put]
          rcases List.mem_cons.1 he with rfl | he
          ·exact List.mem_cons_self ..
          ·refine List.mem_cons_of_mem _ ?_
           obtain⟨k,y⟩:=e
           obtain⟨h1,h2⟩:=mem_del.1 he
           exact mem_del.2 ⟨List.mem_append_right _ h1,h2⟩
         ·simp only[appE,mdC,delK]at he
          simp only[St.put,List.mem_append]
          rcases List.mem_cons.1 he with rfl | he
          ·exact .inl (List.mem_cons_self ..)
          ·obtain⟨k,y⟩:=e
           obtain⟨h1,h2⟩:=mem_del.1 he
           by_cases hke:k∈keysL Hs
           ·obtain⟨z,hz⟩:=keysL_mem.1 hke
            have:=huq k z y (hhp _ (hin _ hz)) h1
            subst this
            exact .inl (List.mem_cons_of_mem _ hz)
           ·refine .inr (List.mem_filter.2 ⟨List.mem_append_right _ h1,?_⟩)
            cases hb:inN k (keysL Hs) with
            | false=>rfl
            | true=>exact absurd (inN_ok.1 hb) hke
       | call _ _ hok=>
       rcases hok.h with⟨-,hch,bps,hb1,hb2⟩ | ⟨bps,N,hb1,hb2,hb3,hb4⟩
       ·have r2:Rel E ⟨st.fr++S.fr,S.hp⟩ a w:=⟨F,g,r.sub (fun e he=>by
         rcases List.mem_append.1 he with he | he
         ·exact hfr e he
         ·exact he) (fun e he=>he)⟩
        refine call_op hG [] (bps:=bps) hop hcal hd (wantedP_app hw) hnt (ev_app hf) (evList_app hargs) hok.c (by simpa using hb1 _) hb2 r2 (fun r' H' hr=>?_)
        unfold Ret at hr
        subst hr
        refine⟨hok.p,fun a' w' r'=>hk a' w' ?_⟩
        subst hch
        refine r'.sub (fun e he=>?_) (fun e he=>he)
        simp only[appE,hd]at he
        simp only[St.put]
        rcases List.mem_cons.1 he with rfl | he
        ·exact List.mem_cons_self ..
        ·refine List.mem_cons_of_mem _ ?_
         obtain⟨k,y⟩:=e
         obtain⟨h1,h2⟩:=mem_del.1 he
         exact mem_del.2 ⟨List.mem_append_right _ h1,h2⟩
       ·have hin:∀ e,e∈Hs→e∈st.hp:=fun e he=>(pickH_ok has2 e he).1
        have r2:Rel E ⟨st.fr++S.fr,Hs++S.hp⟩ a w:=⟨F,g,r.sub (fun e he=>by
         rcases List.mem_append.1 he with he | he
         ·exact hfr e he
         ·exact he) (fun e he=>by
         rcases List.mem_append.1 he with he | he
         ·exact hhp e (hin e he)
         ·exact he)⟩
        have hlk:∀ e,e∈Hs→look st.hp e.1=some e.2:=by
         intro e he
         have hm:=hin e he
         obtain⟨x,hx⟩:∃ x,look st.hp e.1=some x:=by
          cases hl:look st.hp e.1 with
          | some x=>exact⟨x,rfl⟩
          | none=>exact absurd hm (look_none hl e.2)
         rw[hx,huq e.1 x e.2 (hhp _ (look_mem hx)) (hhp _ hm)]
        refine call_opH hG (keysL Hs) N [] (bps:=bps) hop hcal hd (wantedP_app hw) hnt (ev_app hf) (evList_app hargs) hok.c (by simpa using hb1 _) (pickH_app has2 (fun e he=>he) hlk) (by simp[freshIn,noneIn,inN]) hb2 r2 (fun r' H' hr=>?_)
        unfold RetH at hr
        obtain⟨rfl,rfl⟩:=hr
        refine⟨by simpa using hb3,fun a' w' r'=>hk a' w' ?_⟩
        refine r'.sub (fun e he=>?_) (fun e he=>?_)
        ·simp only[appE,hd]at he
         simp only[St.put]
         rcases List.mem_cons.1 he with rfl | he
         ·exact List.mem_cons_self ..
         ·refine List.mem_cons_of_mem _ ?_
          obtain⟨k,y⟩:=e
          obtain⟨h1,h2⟩:=mem_del.1 he
          exact mem_del.2 ⟨List.mem_append_right _ h1,h2⟩
        ·simp only[St.put,List.mem_append]
         cases hch:ch with
         | none=>
          rw[hch]at he
          simp only[appE,mdC]at he
          by_cases hke:e.1∈keysL Hs
          ·obtain⟨x,hx⟩:=keysL_mem.1 hke
           have:=huq e.1 x e.2 (hhp _ (hin _ hx)) he
           subst this
           exact .inl hx
          ·refine .inr (List.mem_filter.2 ⟨List.mem_append_right _ he,?_⟩)
           cases hb:inN e.1 (keysL Hs) with
           | false=>rfl
           | true=>exact absurd (inN_ok.1 hb) hke
         | some c=>
          have hk1:=hb4 c hch
          rw[hch]at he
          obtain⟨o',x'⟩:=c
          simp only[appE,mdC,delK]at he
          rcases List.mem_cons.1 he with rfl | he
          ·obtain⟨z,hz⟩:=keysL_mem.1 hk1
           refine .inl (List.mem_map.2 ⟨_,hz,?_⟩)
           simp only[Nat.beq_refl]
          ·obtain⟨k,y⟩:=e
           obtain⟨h1,h2⟩:=mem_del.1 he
           by_cases hke:k∈keysL Hs
           ·obtain⟨z,hz⟩:=keysL_mem.1 hke
            have:=huq k z y (hhp _ (hin _ hz)) h1
            subst this
            refine .inl (List.mem_map.2 ⟨_,hz,?_⟩)
            have hb:Nat.beq k o'=false:=by
             cases hb:Nat.beq k o' with
             | false=>rfl
             | true=>exact absurd (Nat.eq_of_beq_eq_true hb) h2
            simp only[hb]
           ·refine .inr (List.mem_filter.2 ⟨List.mem_append_right _ h1,?_⟩)
            cases hb:inN k (keysL Hs) with
            | false=>rfl
            | true=>exact absurd (inN_ok.1 hb) hke
      ·cases h
     ·cases h
    ·cases h
   ·
    rename_i t x kx d hop hd
    split at h
    ·rename_i ob kp hx hkx hnt hkt
     have hkt:=Nat.eq_of_beq_eq_true hkt
     subst hkt
     have hl:=hok.l (by cases hb:Nat.blt (lkN+t) lkN with | false=>rfl | true=>rw[Nat.blt_eq]at hb; omega)
     rw[Nat.add_sub_cancel_left]at hl
     cases h
     injection has' with has1 has2
     obtain⟨z,h1,h2⟩:=hl F g w _ _ _ _ has1.symm (ev_ok ri hx) (ev_ok ri hkx) (fun e he=>r.w.hp.obj _ _ (hhp _ (pickH_ok has2 e he).1))
     rw[if_pos hwt]
     unfold Oper.wp
     have hex:(execOp a.eval o).run P w = .ok (.value z) w:=by unfold execOp; simp[hop,h1]
     rw[hex]
     refine hk _ _ ?_
     rw[hd]
     exact⟨F,g,r.put (by rw[hG.nt]; simpa[Nat.blt_eq] using hnt) h2⟩
    ·cases h
   ·cases h
  ·split at h
   ·
    rename_i e d hop hd
    split at h
    ·rename_i i hi hnt hN
     cases h
     have he:S.erase d=some S:=erase_clean (hclean d (by unfold isAlloc; rw[hop,hd])).1 (hclean d (by unfold isAlloc; rw[hop,hd])).2
     obtain⟨v,w',h1,h2⟩:=alloc_ok hG.ti hG.N hG.nt r hi (st':=_) (by unfold newP; rw[hnt,hN,he])
     rw[if_pos hwt]
     unfold Oper.wp
     have hex:(execOp a.eval o).run P w = .ok (.value v) w':=by unfold execOp; simp[hop,h1]
     rw[hex]
     simp only[Oper.upon]
     refine hk _ _ ?_
     rw[hd]
     refine h2.sub (fun e he=>he) (fun e he=>?_)
     simp only[appE]at he
     rcases List.mem_cons.1 he with rfl | he
     ·exact List.mem_cons_self ..
     ·exact List.mem_cons_of_mem _ (mem_del.1 he).1
    ·cases h
   ·
    rename_i t x y hop hd
    split at h
    ·rename_i i b off q hi hx hy
     split at h
     ·rename_i l hl
      split at h
      ·rename_i c1 c2 c3
       cases h
       have hmem:(b,PObj.box l)∈S.hp:=hhp _ (look_mem hl)
       have r1:RelG E F g ⟨S.fr,(b,.box l)::S.hp⟩ a w:=r.sub (fun e he=>he) (fun e he=>by
        rcases List.mem_cons.1 he with rfl | he
        ·exact hmem
        ·exact he)
       obtain⟨-,w',h1,h2⟩:=storeP_ok (P:=P) r1 (hG.ti _ _ hi) (d:=none) (p:=.ptr b off) (x:=q) (C:=True)
        (by unfold storeP; simp only[look,Nat.beq_refl,c1,c2,c3]; rfl) trivial (ev_ok ri hx) (ev_ok ri hy)
       rw[if_pos hwt]
       unfold Oper.wp
       have hex:(execOp a.eval o).run P w = .ok .skip w':=by unfold execOp; simp[hop,h1]
       rw[hex]
       simp only[Oper.upon]
       refine hk _ _ ?_
       rw[hd]
       refine⟨F,g,h2.sub (fun e he=>he) (fun e he=>?_)⟩
       simp only[appE]at he
       rcases List.mem_cons.1 he with rfl | he
       ·exact List.mem_cons_self ..
       ·refine List.mem_cons_of_mem _ ?_
        obtain⟨k,y⟩:=e
        obtain⟨h3,h4⟩:=mem_del.1 he
        exact mem_del.2 ⟨List.mem_cons_of_mem _ h3,h4⟩
      ·cases h
     ·cases h
    ·rename_i i b ss kk off q hi hx hy
     split at h
     ·rename_i e s' n f c hl hc
      split at h
      ·rename_i c1 c2 c3 c4
       cases h
       have hmem:(b,PObj.arr e s' n f)∈S.hp:=hhp _ (look_mem hl)
       have r1:RelG E F g ⟨S.fr,(b,.arr e s' n f)::S.hp⟩ a w:=r.sub (fun e he=>he) (fun e he=>by
        rcases List.mem_cons.1 he with rfl | he
        ·exact hmem
        ·exact he)
       obtain⟨-,w',h1,h2⟩:=storeP_ok (P:=P) r1 (hG.ti _ _ hi) (d:=none) (p:=.aptr b ss kk off) (x:=q) (C:=kk<n)
        (by unfold storeP; simp only[look,Nat.beq_refl,hc,c1,c2,c3,c4]; rfl) hC (ev_ok ri hx) (ev_ok ri hy)
       rw[if_pos hwt]
       unfold Oper.wp
       have hex:(execOp a.eval o).run P w = .ok .skip w':=by unfold execOp; simp[hop,h1]
       rw[hex]
       simp only[Oper.upon]
       refine hk _ _ ?_
       rw[hd]
       refine⟨F,g,h2.sub (fun e he=>he) (fun e he=>?_)⟩
       simp only[appE]at he
       rcases List.mem_cons.1 he with rfl | he
       ·exact List.mem_cons_self ..
       ·refine List.mem_cons_of_mem _ ?_
        obtain⟨k,y⟩:=e
        obtain⟨h3,h4⟩:=mem_del.1 he
        exact mem_del.2 ⟨List.mem_cons_of_mem _ h3,h4⟩
      ·cases h
     ·rename_i e s' n f ov hl
      split at h
      ·rename_i f' ov' c1 c2 c3 c4 c5
       cases h
       have hmem:(b,PObj.arm e s' n f ov)∈S.hp:=hhp _ (look_mem hl)
       have r1:RelG E F g ⟨S.fr,(b,.arm e s' n f ov)::S.hp⟩ a w:=r.sub (fun e he=>he) (fun e he=>by
        rcases List.mem_cons.1 he with rfl | he
        ·exact hmem
        ·exact he)
       obtain⟨-,w',h1,h2⟩:=storeP_ok (P:=P) r1 (hG.ti _ _ hi) (d:=none) (p:=.aptr b ss kk off) (x:=q) (C:=kk<n)
        (by unfold storeP; simp only[look,Nat.beq_refl,c1,c2,c3,c4,c5]; rfl) hC (ev_ok ri hx) (ev_ok ri hy)
       rw[if_pos hwt]
       unfold Oper.wp
       have hex:(execOp a.eval o).run P w = .ok .skip w':=by unfold execOp; simp[hop,h1]
       rw[hex]
       simp only[Oper.upon]
       refine hk _ _ ?_
       rw[hd]
       refine⟨F,g,h2.sub (fun e he=>he) (fun e he=>?_)⟩
       simp only[appE]at he
       rcases List.mem_cons.1 he with rfl | he
       ·exact List.mem_cons_self ..
       ·refine List.mem_cons_of_mem _ ?_
        obtain⟨k,y⟩:=e
        obtain⟨h3,h4⟩:=mem_del.1 he
        exact mem_del.2 ⟨List.mem_cons_of_mem _ h3,h4⟩
      ·cases h
     ·cases h
    ·cases h
   ·
    rename_i t d hop hd
    split at h
    case h_2=>cases h
    rename_i i hi
    split at h
    case h_2=>cases h
    rename_i e hu
    split at h
    case h_2=>cases h
    rename_i j hj
    split at h
    case h_2=>cases h
    rename_i c1 c2 c3 c4
    cases h
    have hte:=(hG.ti _ _ hi).und
    rw[hu]at hte
    obtain⟨k1,k2⟩:=hclean d (by unfold isAlloc; rw[hop,hd]; rfl)
    have he:S.erase d=some S:=erase_clean k1 k2
    obtain⟨u,w',h1,h2⟩:=buildSlice_ok (P:=P) (d:=d) (len:=0) (parts:=#[]) (ps:=[]) (c:=[]) (ts:=[]) (st':=_) hG.N hG.nt r hte (hG.ti _ _ hj) rfl (by omega) (Nat.le_of_ble_eq_true c1) (Nat.eq_of_beq_eq_true c2)
     (by simp[fillP,zeroAt]) ⟨rfl,fun j p x hp=>by simp at hp⟩ (by simp) (by unfold newP; rw[c3,c4,he])
    rw[if_pos hwt]
    unfold Oper.wp
    have hex:(execOp a.eval o).run P w = .ok (.value u) w':=by simp at h1; unfold execOp; simp[hop,h1]
    rw[hex]
    simp only[Oper.upon]
    refine hk _ _ ?_
    rw[hd]
    refine h2.sub (fun e he=>he) (fun e he=>?_)
    simp only[appE,delK]at he
    rcases List.mem_cons.1 he with rfl | he
    ·exact List.mem_cons_self ..
    ·exact List.mem_cons_of_mem _ (mem_del.1 he).1
   ·
    rename_i t len parts d _ hop hd
    split at h
    case h_2=>cases h
    rename_i i ps hi hps
    split at h
    case h_2=>cases h
    rename_i e hu
    split at h
    case h_2=>cases h
    rename_i j hj
    split at h
    case h_2=>cases h
    rename_i c c1 c2 c3 hc
    split at h
    case h_2=>cases h
    rename_i ts hts c4 c5
    cases h
    have hte:=(hG.ti _ _ hi).und
    rw[hu]at hte
    have r2:RelG E F g ⟨st.fr++S.fr,S.hp⟩ a w:=r.sub (fun e he=>by
     rcases List.mem_append.1 he with he | he
     ·exact hfr e he
     ·exact he) (fun e he=>he)
    obtain⟨u,w',F',h1,h2⟩:=buildSlice_data (P:=P) (d:=d) hG.nt r2 hte (hG.ti _ _ hj) (evParts_app hps) (Nat.le_of_ble_eq_true c1) (Nat.le_of_ble_eq_true c2) (Nat.eq_of_beq_eq_true c3) hc (.of hts) (Nat.eq_of_beq_eq_true c4) (by simpa[Nat.blt_eq] using c5)
    rw[if_pos hwt]
    unfold Oper.wp
    have hex:(execOp a.eval o).run P w = .ok (.value u) w':=by unfold execOp; simp[hop,h1]
    rw[hex]
    simp only[Oper.upon]
    refine hk _ _ ?_
    rw[hd]
    refine⟨F',g,h2.sub (fun e he=>?_) (fun e he=>he)⟩
    simp only[appE]at he
    simp only[St.put]
    rcases List.mem_cons.1 he with rfl | he
    ·exact List.mem_cons_self ..
    ·refine List.mem_cons_of_mem _ ?_
     obtain⟨k,y⟩:=e
     obtain⟨h3,h4⟩:=mem_del.1 he
     exact mem_del.2 ⟨List.mem_append_right _ h3,h4⟩
   all_goals try (cases h; done)
   ·
    rename_i args ats d hop hd
    obtain⟨k1,k2⟩:=hclean d (by unfold isAlloc; rw[hop,hd])
    unfold appEff at h
    split at h
    case h_2=>cases h
    rename_i s x t t' ha ht
    have ha':args=#[s,x]:=by rw[←Array.toArray_toList (xs:=args),ha]
    have ht':ats=#[t,t']:=by rw[←Array.toArray_toList (xs:=ats),ht]
    subst ha'; subst ht'
    split at h
    case h_2=>cases h
    rename_i i p q c1 hi hp hq
    have c1:=Nat.eq_of_beq_eq_true c1
    subst c1
    split at h
    case h_2=>cases h
    rename_i e m f2 hu hq'
    have hte:=(hG.ti _ _ hi).und
    rw[hu]at hte
    split at h
    case h_2=>cases h
    rename_i j hj
    split at h
    case h_2=>cases h
    rename_i c2 c3 c4
    simp only[Bool.and_eq_true]at c2
    obtain⟨c2,c5,c6,c7⟩:=c2
    have c2:=Nat.le_of_ble_eq_true c2
    have c5:=Nat.le_of_ble_eq_true c5
    have c6:=Nat.eq_of_beq_eq_true c6
    have src:(∀ f,f∈(okRow ops x m j.size f2).2→∀ i,f i=true)→∃ news,Src F w j.size m f2 (a.eval x) news:=by
     intro hfs
     refine appArg_ok ri (ev_ok ri hq) hq' c2 rfl fun i hi=>?_
     unfold okRow at c7 hfs
     split at c7
     ·rename_i n hn
      simp only[Bool.and_eq_true,List.all_eq_true,List.mem_range]at c7
      exact c7.2 i (by rw[Nat.eq_of_beq_eq_true c7.1]; exact hi)
     ·rename_i hn
      rw[hn]at hfs
      exact hfs (fun i=>okCells j.size (f2 i)) (by simp) i
    have fin:∀ (pv:PObj) (ko:Option Nat) (u:Value) (w':World) (S':St),(Builtin.append_ #[t,t] o.type #[a.eval s,a.eval x]).run P w = .ok u w'→Rel E S' (a.put (some d) u) w' →
      (∀ e,e∈(d,PV.own d)::del d S.fr→e∈S'.fr)→(∀ e,e∈(d,pv)::del d (delK ko S.hp)→e∈S'.hp)→v=some (.own d)→md=some (d,pv,ko) →
      if Region.wanted o (yielded ops.toArray a.tmps) then o.wp P a w K Q' else K (a.put o.dst undef) w:=by
     intro pv ko u w' S' h1 h2 h3 h4 hv hm
     subst hv hm
     rw[if_pos hwt]
     unfold Oper.wp
     have hex:(execOp a.eval o).run P w = .ok (.value u) w':=by unfold execOp; simp[hop,resolve,invoke,builtin,h1]
     rw[hex]
     simp only[Oper.upon]
     refine hk _ _ ?_
     rw[hd]
     exact h2.sub (fun e he=>h3 e he) (fun e he=>h4 e he)
    have hpv:=ev_ok ri hp
    split at h
    case h_3=>cases h
    ·
     cases h
     obtain⟨news,hs⟩:=src hfs
     have he:S.erase d=some S:=erase_clean k1 k2
     obtain⟨v0,hv0⟩:∃ u,a.eval s=u:=⟨_,rfl⟩
     rw[hv0]at hpv
     cases hpv with
     | nil=>
      obtain⟨u,w',h1,h2⟩:=append_nil_ok (P:=P) hG.N hG.nt r hte (hG.ti _ _ hj) o.type c5 c6 hs (by have h:(0+m)*j.bytes≤140737488355328:=hC; simpa using h) (st':=_) (by unfold newP; rw[c3,c4,he])
      refine fin _ none u w' _ (by rw[hv0]; exact h1) h2 (fun e he=>he) (fun e he=>?_) rfl rfl
      rcases List.mem_cons.1 he with rfl | he
      ·exact List.mem_cons_self ..
      ·exact List.mem_cons_of_mem _ (mem_del.1 he).1
    ·rename_i o'
     split at h
     case h_2=>cases h
     rename_i e' s' n f1 hl
     split at h
     case h_2=>cases h
     rename_i c8
     simp only[Bool.and_eq_true]at c8
     have c9:=Nat.eq_of_beq_eq_true c8.1
     have c10:=Nat.eq_of_beq_eq_true c8.2
     subst c9; subst c10
     have r0:RelG E F g ⟨S.fr,(o',.arr e j.size n f1)::del o' S.hp⟩ a w:=r.sub (fun e he=>he) (fun e he=>by
      rcases List.mem_cons.1 he with rfl | he
      ·exact hhp _ (look_mem hl)
      ·exact(mem_del.1 he).1)
     have less:Less o' ⟨S.fr,(o',.arr e j.size n f1)::del o' S.hp⟩ ⟨S.fr,del o' S.hp⟩:=⟨fun t y h=>h,fun t y h=>⟨y,List.mem_cons_of_mem _ h,(mem_del.1 h).2,fun _ _ _ h=>h,fun _ _ _ h=>h⟩⟩
     have he:(⟨S.fr,del o' S.hp⟩:St).erase d=some ⟨S.fr,del o' S.hp⟩:=erase_clean k1 fun e he=>k2 e (by obtain⟨k,y⟩:=e; exact(mem_del.1 he).1)
     have run:∀ {f},f=appF n f1 f2→(∀ f,f∈(okRow ops x m j.size f2).2→∀ i,f i=true)→(n+m)*j.bytes≤140737488355328→∃ u w',(Builtin.append_ #[t,t] o.type #[a.eval s,a.eval x]).run P w = .ok u w'∧Rel E (({ fr:=S.fr,hp:=(d,.arr e j.size (n+m) f)::del o' S.hp }:St).put d (.own d)) (a.put (some d) u) w':=by
      rintro f rfl hfs hc
      obtain⟨news,hs⟩:=src hfs
      exact append_own_ok (P:=P) (n:=n) (f1:=f1) (f:=f2) hG.N hG.nt r0 hte (hG.ti _ _ hj) o.type c5 c6 hpv hs hc (by simp[look]) less (by unfold newP; rw[c3,c4,he])
     have sb:∀ (pv:PObj) e,e∈(d,pv)::del d (delK (some o') S.hp)→e∈(d,pv)::del o' S.hp:=by
      intro pv e he
      rcases List.mem_cons.1 he with rfl | he
      ·exact List.mem_cons_self ..
      ·exact List.mem_cons_of_mem _ (mem_del.1 he).1
     split at h
     ·split at h
      case h_2=>cases h
      rename_i c11
      have c11:=Nat.eq_of_beq_eq_true c11
      subst c11
      cases h
      obtain⟨u,w',h1,h2⟩:=run (f:=f2) (by funext i; simp[appF]) hfs (by have h:(0+m)*j.bytes≤140737488355328:=hC; exact h)
      rw[Nat.zero_add]at h2
      exact fin _ (some o') u w' _ h1 h2 (fun e he=>he) (sb _) rfl rfl
     ·cases h
      obtain⟨u,w',h1,h2⟩:=run rfl hfs (by have h:(n+m)*j.bytes≤140737488355328:=hC; exact h)
      exact fin _ (some o') u w' _ h1 h2 (fun e he=>he) (sb _) rfl rfl
   rename_i hd _ _ _ _ _ _ _ _
   split at h
   ·rename_i x C hp hlt
    cases h
    have hcc:C:=by
     cases hc:isC st o.op with
     | false=>exact isC_ok hp hc
     | true=>rw[hc]at hC; exact hC
    obtain⟨v,h1,h2⟩:=pev_ok hG.ti ri o hp hcc
    rw[if_pos hwt]
    unfold Oper.wp
    rw[h1]
    refine hk _ _ ?_
    rw[hd]
    exact⟨F,g,r.put (by rw[hG.nt]; simpa[Nat.blt_eq] using hlt) h2⟩
   ·cases h
theorem eff_ok(hG:Good P E I){ops:List Oper}{o:Oper}{S st:St}{ca:Option (Nat×List PV×PV×Hp×Option (Nat×PObj))}(hca:∀ k args r Hs ch,ca=some (k,args,r,Hs,ch)→CallOkY P k args r Hs ch)(hfr:∀ e,e∈st.fr→e∈S.fr)
  (hhp:∀ e,e∈st.hp→e∈S.hp){v:Option PV}{md:Option (Nat×PObj×Option Nat)}{Cs:List Prop}{as:List PV×Option Hp}{fs:List (Nat→Bool)}(huq:∀ k x y,(k,x)∈S.hp→(k,y)∈S.hp→x=y)(h:effO I ops ca o st=some (v,md,Cs,as,fs))(hC:All Cs)(hfs:∀ f,f∈fs→∀ i,f i=true)
  (has:∀ k args r Hs ch,ca=some (k,args,r,Hs,ch)→wantedP ops o st=some true→as=(args,some Hs))(hclean:∀ d,isAlloc o=some d→(∀ e,e∈S.fr→e.2.mentions d=false)∧∀ e,e∈S.hp→Nat.beq e.1 d=false∧e.2.mentions d=false){a:Act}{w:World}(r:Rel E S a w)
  {K:Act→World→Prop}{Q':Exit→Act→World→Prop}(hk:∀ a' w',Rel E (appE S o.dst v md) a' w'→K a' w'):
  if Region.wanted o (yielded ops.toArray a.tmps) then o.wp P a w K Q' else K (a.put o.dst undef) w:=by
 unfold effO at h
 split at h
 ·rename_i k args res Hs ch
  split at h
  ·rename_i hfz
   unfold fzEff at h
   split at h
   ·rename_i d d1 d2 d3 e s n f k' C as0 fs0 hal hd he hwt
    split at h
    ·rename_i b1 b2 b3 b4
     have b1:=Nat.eq_of_beq_eq_true b1
     have b2:=Nat.eq_of_beq_eq_true b2
     have b3:=Nat.eq_of_beq_eq_true b3
     subst b1 b2 b3
     cases h
     obtain⟨c1,c2⟩:=hclean _ hal
     rcases hca _ _ _ _ _ rfl with⟨_,n',f',x,ha,hr,himp⟩ | hx
     ·have:=has _ _ _ _ _ rfl hwt
      injection this with h1 h2
      subst hr
      rw[ha]at h1
      cases h1
      refine eff_ok0 hG (ca:=none) (fun _ _ _ _ _ h=>by cases h) hfr hhp huq he hC hfs (fun _ _ _ _ _ h=>by cases h) hclean r (fun a' w' r'=>hk a' w' ?_)
      rw[hd]at r' ⊢
      simp only[appE]at r' ⊢
      obtain⟨F,g,q⟩:=Rel.fzRow hG.N.symm b4 (fun x hx=>c1 x (mem_del' hx)) (fun x hx=>c2 x (mem_delK hx)) r'
      exact⟨F,g,q.nt,q.df,fun t z hz=>by
       rcases List.mem_cons.1 hz with hz | hz
       ·cases hz; exact himp _ _ _ _ (q.fr _ _ List.mem_cons_self)
       ·exact q.fr _ _ (List.mem_cons_of_mem _ hz),q.w⟩
     ·have hfz':=Nat.eq_of_beq_eq_true hfz
      subst hfz'
      cases hx with
      | call hk'=>exact absurd hk' (by decide)
      | new hk'=>exact absurd hk' (by decide)
      | newH hk'=>exact absurd hk' (by decide)
      | look hk'=>exact absurd hk' (by decide)
    ·cases h
   ·cases h
  ·rename_i hfz
   refine eff_ok0 hG (fun k' a' r' H' c' hc=>?_) hfr hhp huq h hC hfs has hclean r hk
   rcases hca k' a' r' H' c' hc with⟨h1,_⟩ | h1
   ·cases hc; rw[hfz]at h1; cases h1
   ·exact h1
 ·exact eff_ok0 hG (ca:=none) (fun _ _ _ _ _ h=>by cases h) hfr hhp huq h hC hfs has hclean r hk
def deps(ops:List Oper):List (List Nat):=ops.map depOn
def addN(l r:List Nat):List Nat:=match l with | []=>r | x::l=>match inN x r with | true=>addN l r | false=>addN l (x::r)
def preG:List (List Nat)→List (List Nat)→List (List Nat)
 | [],acc=>acc
 | d::l,acc=>preG l (acc++[addN (d.flatMap fun j=>acc.getD j []) d])
def facF(p:Nat→Bool):Nat→List Oper→List LOp→Fr
 | _,[],_=>[]
 | i,_::os,[]=>facF p (i+1) os []
 | i,o::os,l::ls=>match p i,o.dst,l.val with
  | true,some d,some x=>(d,x)::facF p (i+1) os ls
  | _,_,_=>facF p (i+1) os ls
def mdOf(lo:List LOp)(o j:Nat):Option PObj:=match lo.getD j default with | ⟨_,some (o',c,_),_⟩=>(match Nat.beq o' o with | true=>some c | false=>none) | _=>none
def contO(lo:List LOp)(p:Nat→Bool)(o:Nat)(c:Option PObj):List Nat→Option PObj
 | []=>c
 | j::js=>match p j with
  | true=>contO lo p o (mdOf lo o j) js
  | false=>contO lo p o c js
abbrev OL:=List (Nat×Bool×List Nat)
def ini(hp:Hp)(o:Nat)(new:Bool):Option PObj:=match new with | true=>none | false=>look hp o
def facH(hp:Hp)(lo:List LOp)(p:Nat→Bool):OL→Hp
 | []=>[]
 | (o,new,js)::l=>match contO lo p o (ini hp o new) js with
  | some x=>(o,x)::facH hp lo p l
  | none=>facH hp lo p l
def wrB(p:Nat→Bool)(t:Nat):Nat→List Oper→Bool
 | _,[]=>false
 | i,o::os=>match (match o.dst with | some d=>Nat.beq d t&&p i | none=>false) with | true=>true | false=>wrB p t (i+1) os
theorem wrB_iff{p:Nat→Bool}{t:Nat}:∀ {i:Nat} {os:List Oper},wrB p t i os=true↔∃ k o,os[k]? = some o∧o.dst=some t∧p (i+k)=true
 | i,[]=>by simp[wrB]
 | i,o::os=>by
  simp only[wrB]
  constructor
  ·intro h
   split at h
   ·rename_i h1
    split at h1
    ·rename_i d hd
     simp only[Bool.and_eq_true]at h1
     exact⟨0,o,rfl,by rw[hd,Nat.eq_of_beq_eq_true h1.1],by simpa using h1.2⟩
    ·cases h1
   ·obtain⟨k,o',h1,h2,h3⟩:=wrB_iff.1 h
    exact⟨k+1,o',by simpa using h1,h2,by rw[←Nat.add_assoc,Nat.add_right_comm]; exact h3⟩
  ·rintro⟨k,o',h1,h2,h3⟩
   split
   ·rfl
   ·rename_i hn
    cases k with
    | zero=>
     simp at h1; subst h1
     rw[h2]at hn
     simp only[Nat.beq_refl,Bool.true_and]at hn
     rw[Nat.add_zero]at h3
     rw[h3]at hn; cases hn
    | succ k=>exact wrB_iff.2 ⟨k,o',by simpa using h1,h2,by rw[Nat.add_assoc,Nat.add_comm 1 k]; exact h3⟩
def frP(p:Nat→Bool)(ops:List Oper)(fr0:Fr):Fr:=fr0.filter fun e=>!(wrB p e.1 0 ops)
theorem mem_frP{p:Nat→Bool}{ops:List Oper}{fr0:Fr}{e:Nat×PV}:e∈frP p ops fr0↔e∈fr0∧∀ k o,ops[k]? = some o→o.dst=some e.1→p k=false:=by
 simp only[frP,List.mem_filter,Bool.not_eq_true']
 refine and_congr_right fun _=>?_
 constructor
 ·intro h k o h1 h2
  cases hp:p k with
  | false=>rfl
  | true=>rw[wrB_iff.2 ⟨k,o,h1,h2,by rw[Nat.zero_add]; exact hp⟩]at h; cases h
 ·intro h
  cases hw:wrB p e.1 0 ops with
  | false=>rfl
  | true=>
   obtain⟨k,o,h1,h2,h3⟩:=wrB_iff.1 hw
   rw[Nat.zero_add]at h3
   rw[h k o h1 h2]at h3; cases h3
def stP(st:St)(fr0:Fr)(ops:List Oper)(lo:List LOp)(ol:OL)(p:Nat→Bool):St:=⟨frP p ops fr0++facF p 0 ops lo,facH st.hp lo p ol⟩
def knw(pre:List (List Nat))(i:Nat)(ol:OL):OL:=ol.filter fun e=>e.2.2.all fun j=>Nat.beq j i || inN j (pre.getD i []) || inN i (pre.getD j [])
def stI(st:St)(fr0:Fr)(ops:List Oper)(lo:List LOp)(ol:OL)(pre:List (List Nat))(i:Nat):St:=
 ⟨frP (fun j=>!(Nat.beq j i || inN i (pre.getD j []))) ops fr0++facF (fun j=>inN j (pre.getD i [])) 0 ops lo,facH st.hp lo (fun j=>inN j (pre.getD i [])) (knw pre i ol)⟩
def runL(I:Inf)(ops:List Oper)(calls:List (Nat×(Nat×List PV×PV×Hp×Option (Nat×PObj))))(lits:List (Nat×(Bool×Bool)))(st:St)(fr0:Fr)(ol:OL)(pre:List (List Nat)):Nat→List Oper→List LOp→List LOp
 | _,[],lo=>lo
 | i,o::os,lo=>runL I ops calls lits st fr0 ol pre (i+1) os (lo++[match effO I ops (look calls i) o (stI st fr0 ops lo ol pre i) with
  | some (v,md,_,_,fs)=>⟨match look lits i with | some (_,b)=>some (.t (.bool b)) | none=>v,md,fs⟩
  | none=>⟨none,none,[]⟩])
def effL(I:Inf)(ops:List Oper)(calls:List (Nat×(Nat×List PV×PV×Hp×Option (Nat×PObj))))(st:St)(fr0:Fr)(lo:List LOp)(ol:OL)(pre:List (List Nat)):Nat→List Oper→List (Option Eff)
 | _,[]=>[]
 | i,o::os=>effO I ops (look calls i) o (stI st fr0 ops lo ol pre i)::effL I ops calls st fr0 lo ol pre (i+1) os
def expO(ops:List Oper)(calls:List (Nat×(Nat×List PV×PV×Hp×Option (Nat×PObj))))(lits:List (Nat×(Bool×Bool)))(conds:List (Nat×List Prop))(st:St)(lo:List LOp)(i:Nat)(o:Oper):Option Eff:=
 some (match look lits i with | some (b,_)=>some (.t (.bool b)) | none=>(lo.getD i default).val,(lo.getD i default).md,match look conds i with | some l=>l | none=>[],
  match look calls i,wantedP ops o st with | some (_,as,_,Hs,_),some true=>(as,some Hs) | _,_=>noA,(lo.getD i default).fs.map fun _ _=>true)
def expL(ops:List Oper)(calls:List (Nat×(Nat×List PV×PV×Hp×Option (Nat×PObj))))(lits:List (Nat×(Bool×Bool)))(conds:List (Nat×List Prop))(st:St)(fr0:Fr)(lo:List LOp)(ol:OL)(pre:List (List Nat)):Nat→List Oper→List (Option Eff)
 | _,[]=>[]
 | i,o::os=>expO ops calls lits conds (stI st fr0 ops lo ol pre i) lo i o::expL ops calls lits conds st fr0 lo ol pre (i+1) os
def noKey(d:Nat):List Nat→Bool
 | []=>true
 | k::l=>!(Nat.beq k d)&&noKey d l
def nodupB:List Nat→Bool
 | []=>true
 | k::l=>noKey k l&&nodupB l
def dsts(ops:List Oper):List Nat:=ops.filterMap (·.dst)
def cleanF(pre:List (List Nat))(i d:Nat):Nat→List LOp→Bool
 | _,[]=>true
 | j,l::ls=>(match l.val with | some x=>!(x.mentions d) || inN i (pre.getD j []) || Nat.beq j i | none=>true) &&
   (match l.md with | some (_,c,_)=>!(c.mentions d) || inN i (pre.getD j []) || Nat.beq j i | none=>true)&&cleanF pre i d (j+1) ls
def cleanO(hp:Hp)(d:Nat):OL→Bool
 | []=>true
 | (o,new,_)::l=>(match Nat.beq o d with | true=>new | false=>true)&&(match ini hp o new with | some c=>!(c.mentions d) | none=>true)&&cleanO hp d l
def allocsB(pre:List (List Nat))(st:St)(fr0:Fr)(lo:List LOp)(ol:OL):Nat→List Oper→Bool
 | _,[]=>true
 | i,o::os=>(match isAlloc o with
   | some d=>cleanF pre i d 0 lo&&cleanO st.hp d ol&&fr0.all (fun e=>!(e.2.mentions d))&&ol.all (fun e=>!(Nat.beq e.1 d) || e.2.2.all fun j=>Nat.beq j i || inN i (pre.getD j []))
   | none=>true)&&allocsB pre st fr0 lo ol (i+1) os
def modsB(ol:OL):Nat→List LOp→Bool
 | _,[]=>true
 | i,l::ls=>(match l.md with
   | some (o,_,k)=>ol.any (fun e=>Nat.beq e.1 o&&inN i e.2.2)&&(match k with
    | none=>ol.all (fun e=>Nat.beq e.1 o || !(inN i e.2.2))
    | some k=>ol.all fun e=>Nat.beq e.1 o || (match Nat.beq e.1 k with | true=>inN i e.2.2 | false=>!(inN i e.2.2)))
   | none=>ol.all fun e=>!(inN i e.2.2))&&modsB ol (i+1) ls
def chainB(pre:List (List Nat)):List Nat→Bool
 | []=>true
 | j::js=>js.all (fun k=>inN j (pre.getD k []))&&chainB pre js
def preB(ops:List Oper)(pre:List (List Nat)):Nat→List Oper→Bool
 | _,[]=>true
 | i,o::os=>(depOn o).all (fun j=>Nat.blt j i)&&(pre.getD i []).all (fun k=>Nat.blt k i&&(inN k (depOn o) || (depOn o).any fun j=>inN k (pre.getD j [])))&&preB ops pre (i+1) os
def silO(o:Oper):Bool:=match o.guard,o.op with
 | none,.move _=>true
 | none,.assign _=>true
 | none,.extract _ _=>true
 | _,_=>false
def onlyB(L:List Oper)(j:Nat):Bool:=(List.range L.length).all fun i=>Nat.ble i j || (match L[i]? with | some o=>(depOn o).any fun k=>Nat.ble j k | none=>true)
def maskL(L:List Oper)(j:Nat):List Bool:=(List.range L.length).map fun k=>Nat.blt k j
def silB(L:List Oper):List Oper→Nat→Bool
 | [],_=>true
 | o::t,j=>silO o&&Region.free .any L.toArray (maskL L j).toArray j&&silB L t (j+1)
def chT(L:List Oper):Nat→List Oper→Bool
 | _,[]=>true
 | j,o::t=>(Region.noSelect L.toArray&&silB L (o::t) j) || (onlyB L j&&chT L (j+1) t)
def tlB(L:List Oper)(pre:List (List Nat))(n:Nat):List Oper→Bool
 | []=>true
 | o::l=>((List.range n).all fun k=>inN k (depOn o) || (depOn o).any fun j=>inN k (pre.getD j []))&&(onlyB L n&&chT L (n+1) l)
theorem onlyB_ok{L:List Oper}{j i:Nat}{o:Oper}(h:onlyB L j=true)(hi:L[i]? = some o)(hji:j<i):∃ k,k∈depOn o∧j≤k:=by
 have hL:i<L.length:=(List.getElem?_eq_some_iff.1 hi).1
 have:=List.all_eq_true.1 h i (List.mem_range.2 hL)
 rw[hi]at this
 simp only[Bool.or_eq_true,List.any_eq_true]at this
 rcases this with h | ⟨k,h1,h2⟩
 ·have:=Nat.le_of_ble_eq_true h; omega
 ·exact⟨k,h1,Nat.le_of_ble_eq_true h2⟩
theorem Oper.wp_monoQ{P:Program}{o:Oper}{a:Act}{w:World}{K K':Act→World→Prop}{Q Q':Exit→Act→World→Prop}(h:∀ a w,K a w→K' a w)(hQ:∀ e a w,Q e a w→Q' e a w)
  (hh:o.wp P a w K Q):o.wp P a w K' Q':=by
 have hl:LetsOut Q→LetsOut Q':=fun⟨a,w,h⟩=>⟨a,w,hQ _ _ _ h⟩
 unfold Oper.wp at *
 generalize (execOp a.eval o).run P w=r at *
 cases r with
 | ok n w'=>
  cases n <;> simp only[Oper.upon]at hh ⊢ <;>
   first
    | exact h _ _ hh
    | exact Calls.mono hh (fun e w'' he=>by cases e <;> first | exact h _ _ he | exact hQ _ _ _ he | exact hl he)
    | exact Rows.mono hh (fun _ _ he=>h _ _ he)
 | halt x w'=>cases x <;> simp only[Oper.upon]at hh ⊢ <;> first | exact hQ _ _ _ hh | exact hh
theorem wpAny_monoQ{P:Program}{md:Region.Mode}{ops:Array Oper}{Q Q':Exit→Act→World→Prop}(hQ:∀ e a w,Q e a w→Q' e a w):∀ (fuel:Nat) (m:Array Bool) (a:Act) (w:World),wpAny P md ops Q fuel m a w→wpAny P md ops Q' fuel m a w
 | 0,_,_,_,h=>⟨h.1,hQ _ _ _ h.2⟩
 | fuel+1,m,a,w,h=>⟨fun h0=>hQ _ _ _ (h.1 h0),fun i hi=>by
   have h1:=h.2 i hi
   unfold wpOp at h1 ⊢
   split
   ·rename_i hn
    rw[hn]at h1
    exact wpAny_monoQ hQ fuel _ _ _ h1
   ·rename_i o ho
    rw[ho]at h1
    simp only at h1
    split
    ·rename_i hw
     rw[if_pos hw]at h1
     rcases h1 with h1 | ⟨h1,a',w',h2⟩
     ·exact .inl (Oper.wp_monoQ (fun a w h=>wpAny_monoQ hQ fuel _ _ _ h) hQ h1)
     ·exact .inr ⟨h1,a',w',hQ _ _ _ h2⟩
    ·rename_i hw
     rw[if_neg hw]at h1
     exact wpAny_monoQ hQ fuel _ _ _ h1⟩
theorem sil_val{P:Program}{o:Oper}(hs:silO o=true){a:Act}{w:World}{K:Act→World→Prop}{Q:Exit→Act→World→Prop}(hq:o.wp P a w K Q∨(o.asks P a w∧LetsOut Q)):
  ∃ v,(∀ w',(execOp a.eval o).run P w' = .ok (.value v) w')∧K (a.put o.dst v) w:=by
 have fin:∀ v,execOp a.eval o=pure (.value v)→∃ v,(∀ w',(execOp a.eval o).run P w' = .ok (.value v) w')∧K (a.put o.dst v) w:=fun v he=>by
  refine⟨v,fun w'=>by rw[he]; rfl,?_⟩
  rcases hq with hq | ⟨hq,_⟩
  ·unfold Oper.wp at hq
   rw[he]at hq; exact hq
  ·have h1:=hq.1
   rw[he]at h1
   exact absurd h1 (Array.not_mem_empty _)
 have bad:∀ msg,execOp a.eval o=stuck msg→False:=fun msg he=>by
  rcases hq with hq | ⟨hq,_⟩
  ·unfold Oper.wp at hq
   rw[he]at hq; exact hq
  ·have h1:=hq.1
   rw[he]at h1
   exact absurd h1 (Array.not_mem_empty _)
 unfold silO at hs
 split at hs
 ·rename_i hop; exact fin _ (by unfold execOp; rw[hop])
 ·rename_i hop; exact fin _ (by unfold execOp; rw[hop])
 ·rename_i x i _ hop
  have he:execOp a.eval o=(do pure (.value (←Instr.extract (a.eval x) i))):=by unfold execOp; rw[hop]
  unfold Instr.extract at he
  split at he
  ·split at he
   ·exact fin _ he
   ·exact(bad _ he).elim
  ·exact(bad _ he).elim
 ·cases hs
theorem sil_guard{o:Oper}(hs:silO o=true):o.guard=none:=by
 unfold silO at hs
 split at hs <;> first | assumption | cases hs
def noP(Q:Exit→Act→World→Prop):Exit→Act→World→Prop:=fun e a w=>Q e a w∧∀ c,e ≠ .panic c
def wfL(L l tl:List Oper)(pre:List (List Nat))(st:St)(_ts:List Nat)(fr0:Fr)(lo:List LOp)(ol:OL):Bool:=
 preB L pre 0 L&&nodupB (dsts L)&&nodupB (ol.map (·.1))&&modsB ol 0 lo&&ol.all (fun e=>chainB pre e.2.2)&&allocsB pre st fr0 lo ol 0 l &&
  Nat.beq lo.length l.length&&tlB L pre l.length tl
theorem wpAny_end{P:Program}{L:Array Oper}{Q:Exit→Act→World→Prop}{m:Array Bool}{a:Act}{w:World}(h:Region.ready .any L m=[])(hq:Q .normal a w):∀ fuel,wpAny P .any L Q fuel m a w
 | 0=>⟨h,hq⟩
 | _+1=>⟨fun _=>hq,fun i hi=>by rw[h]at hi; cases hi⟩
def litsB(lits:List (Nat×(Bool×Bool)))(lo:List LOp):Bool:=lits.all fun e=>match (lo.getD e.1 default).val,e.2.2 with
 | some (.t (.bool true)),true=>true
 | some (.t (.bool false)),false=>true
 | _,_=>false
theorem mem_facF{p:Nat→Bool}:∀ {i:Nat} {os:List Oper} {ls:List LOp} {e:Nat×PV},e∈facF p i os ls→∃ k o l,os[k]? = some o∧ls[k]? = some l∧p (i+k)=true∧o.dst=some e.1∧l.val=some e.2
 | _,[],_,e,h=>by simp[facF]at h
 | i,_::os,[],e,h=>by
  simp only[facF]at h
  obtain⟨k,o,l,h1,h2,_⟩:=mem_facF h
  simp at h2
 | i,o::os,l::ls,e,h=>by
  have tail:e∈facF p (i+1) os ls→∃ k o' l',(o::os)[k]? = some o'∧(l::ls)[k]? = some l'∧p (i+k)=true∧o'.dst=some e.1∧l'.val=some e.2:=by
   intro h
   obtain⟨k,o',l',h1,h2,h3,h4⟩:=mem_facF h
   exact⟨k+1,o',l',by simpa using h1,by simpa using h2,by rw[←Nat.add_assoc,Nat.add_right_comm]; exact h3,h4⟩
  simp only[facF]at h
  split at h
  ·rename_i d x hp hd hv
   rcases List.mem_cons.1 h with rfl | h
   ·exact⟨0,o,l,by simp,by simp,by simpa using hp,hd,hv⟩
   ·exact tail h
  ·exact tail h
theorem facF_mem{p:Nat→Bool}{d:Nat}{x:PV}:∀ {i k:Nat} {os:List Oper} {ls:List LOp} {o:Oper} {l:LOp},os[k]? = some o→ls[k]? = some l→p (i+k)=true→o.dst=some d→l.val=some x→(d,x)∈facF p i os ls
 | _,_,[],_,_,_,h,_,_,_,_=>by simp at h
 | _,_,_::_,[],_,_,_,h,_,_,_=>by simp at h
 | i,0,o::os,l::ls,o',l',h1,h2,h3,h4,h5=>by
  simp at h1 h2; subst h1 h2
  simp only[Nat.add_zero]at h3
  simp[facF,h3,h4,h5]
 | i,k+1,o::os,l::ls,o',l',h1,h2,h3,h4,h5=>by
  have:=facF_mem (i:=i+1) (k:=k) (os:=os) (ls:=ls) (by simpa using h1) (by simpa using h2) (by rw[Nat.add_assoc,Nat.add_comm 1 k]; exact h3) h4 h5
  simp only[facF]
  split
  ·exact List.mem_cons_of_mem _ this
  ·exact this
theorem contO_congr{lo:List LOp}{p q:Nat→Bool}{o:Nat}:∀ {js:List Nat} {c:Option PObj},(∀ j,j∈js→p j=q j)→contO lo p o c js=contO lo q o c js
 | [],_,_=>rfl
 | j::js,c,h=>by
  simp only[contO,h j (by simp)]
  split
  ·exact contO_congr fun k hk=>h k (List.mem_cons_of_mem _ hk)
  ·exact contO_congr fun k hk=>h k (List.mem_cons_of_mem _ hk)
theorem contO_off{lo:List LOp}{q:Nat→Bool}{o:Nat}:∀ {js:List Nat} {c:Option PObj},(∀ j,j∈js→q j=false)→contO lo q o c js=c
 | [],_,_=>rfl
 | j::js,c,h=>by simp only[contO,h j (by simp)]; exact contO_off fun k hk=>h k (List.mem_cons_of_mem _ hk)
theorem contO_set{lo:List LOp}{pre:List (List Nat)}{q:Nat→Bool}{i o:Nat}(hi:q i=true):∀ {js:List Nat} {c:Option PObj},chainB pre js=true→i∈js→(∀ j,j∈js→i∈pre.getD j []→q j=false) →
  contO lo q o c js=mdOf lo o i
 | [],_,_,h,_=>by simp at h
 | j::js,c,hc,h,hq=>by
  simp only[chainB,Bool.and_eq_true,List.all_eq_true]at hc
  by_cases hj:j=i
  ·subst hj
   simp only[contO,hi]
   exact contO_off fun k hk=>hq k (List.mem_cons_of_mem _ hk) (inN_ok.1 (hc.1 k hk))
  ·have hm:i∈js:=by
    rcases List.mem_cons.1 h with rfl | h
    ·exact absurd rfl hj
    ·exact h
   simp only[contO]
   split
   ·exact contO_set hi hc.2 hm fun k hk=>hq k (List.mem_cons_of_mem _ hk)
   ·exact contO_set hi hc.2 hm fun k hk=>hq k (List.mem_cons_of_mem _ hk)
theorem contO_src{lo:List LOp}{p:Nat→Bool}{o:Nat}{x:PObj}:∀ {js:List Nat} {c:Option PObj},contO lo p o c js=some x→c=some x∨∃ j,j∈js∧p j=true∧mdOf lo o j=some x
 | [],_,h=>.inl h
 | j::js,c,h=>by
  simp only[contO]at h
  split at h
  ·rename_i hp
   rcases contO_src h with h | ⟨k,h1,h2,h3⟩
   ·exact .inr ⟨j,by simp,hp,h⟩
   ·exact .inr ⟨k,List.mem_cons_of_mem _ h1,h2,h3⟩
  ·rcases contO_src h with h | ⟨k,h1,h2,h3⟩
   ·exact .inl h
   ·exact .inr ⟨k,List.mem_cons_of_mem _ h1,h2,h3⟩
theorem mem_facH{hp:Hp}{lo:List LOp}{p:Nat→Bool}:∀ {ol:OL} {e:Nat×PObj},e∈facH hp lo p ol→∃ new js,(e.1,new,js)∈ol∧contO lo p e.1 (ini hp e.1 new) js=some e.2
 | [],e,h=>by simp[facH]at h
 | (o,new,js)::l,e,h=>by
  have tail:e∈facH hp lo p l→∃ new' js',(e.1,new',js')∈(o,new,js)::l∧contO lo p e.1 (ini hp e.1 new') js'=some e.2:=by
   intro h
   obtain⟨n',j',h1,h2⟩:=mem_facH h
   exact⟨n',j',List.mem_cons_of_mem _ h1,h2⟩
  simp only[facH]at h
  split at h
  ·rename_i x hx
   rcases List.mem_cons.1 h with rfl | h
   ·exact⟨new,js,by simp,hx⟩
   ·exact tail h
  ·exact tail h
theorem facH_mem{hp:Hp}{lo:List LOp}{p:Nat→Bool}{o:Nat}{new:Bool}{js:List Nat}{x:PObj}:∀ {ol:OL},(o,new,js)∈ol→contO lo p o (ini hp o new) js=some x→(o,x)∈facH hp lo p ol
 | [],h,_=>by simp at h
 | (o',n',j')::l,h,hx=>by
  simp only[facH]
  rcases List.mem_cons.1 h with e | h
  ·cases e; rw[hx]; simp
  ·split
   ·exact List.mem_cons_of_mem _ (facH_mem h hx)
   ·exact facH_mem h hx
theorem noKey_ok{d:Nat}:∀ {l:List Nat},noKey d l=true→d∉l
 | [],_=>by simp
 | k::l,h=>by
  simp only[noKey,Bool.and_eq_true,Bool.not_eq_true']at h
  simp only[List.mem_cons,not_or]
  exact⟨fun e=>Nat.ne_of_beq_eq_false h.1 e.symm,noKey_ok h.2⟩
theorem dsts_ne{ops:List Oper}:nodupB (dsts ops)=true→∀ {i k:Nat} {o o':Oper} {d:Nat},ops[i]? = some o→ops[k]? = some o'→o.dst=some d→o'.dst=some d→i=k:=by
 induction ops with
 | nil=>intro _ i k o o' d h; simp at h
 | cons x ops ih=>
  intro hn i k o o' d h1 h2 h3 h4
  have hin:∀ {k:Nat} {o':Oper},ops[k]? = some o'→o'.dst=some d→d∈dsts ops:=by
   intro k o' hk hd
   exact List.mem_filterMap.2 ⟨o',List.mem_of_getElem? hk,hd⟩
  have hn':nodupB (dsts ops)=true∧∀ d',x.dst=some d'→d'∉dsts ops:=by
   unfold dsts at hn ⊢
   simp only[List.filterMap_cons]at hn
   split at hn
   ·rename_i hx; exact⟨hn,fun d' hd=>by rw[hx]at hd; cases hd⟩
   ·rename_i d0 hx
    simp only[nodupB,Bool.and_eq_true]at hn
    exact⟨hn.2,fun d' hd=>by rw[hx]at hd; cases hd; exact noKey_ok hn.1⟩
  cases i with
  | zero=>
   cases k with
   | zero=>rfl
   | succ k=>
    simp at h1 h2; subst h1
    exact absurd (hin h2 h4) (hn'.2 d h3)
  | succ i=>
   cases k with
   | zero=>
    simp at h1 h2; subst h2
    exact absurd (hin h1 h3) (hn'.2 d h4)
   | succ k=>
    simp at h1 h2
    rw[ih hn'.1 h1 h2 h3 h4]
theorem preB_ok{ops:List Oper}{pre:List (List Nat)}:∀ {os:List Oper} {i0:Nat},preB ops pre i0 os=true→∀ {k:Nat} {o:Oper},os[k]? = some o →
  (∀ j,j∈depOn o→j<i0+k)∧∀ x,x∈pre.getD (i0+k) []→x<i0+k∧(x∈depOn o∨∃ j,j∈depOn o∧x∈pre.getD j [])
 | [],_,_,k,o,h=>by simp at h
 | y::os,i0,hp,k,o,h=>by
  simp only[preB,Bool.and_eq_true,List.all_eq_true]at hp
  obtain⟨⟨h1,h2⟩,h3⟩:=hp
  cases k with
  | zero=>
   simp at h; subst h
   refine⟨fun j hj=>by simpa[Nat.blt_eq] using h1 j hj,fun x hx=>?_⟩
   have:=h2 x hx
   simp only[Bool.or_eq_true,List.any_eq_true]at this
   refine⟨by simpa[Nat.blt_eq] using this.1,?_⟩
   rcases this.2 with h | ⟨j,hj,h⟩
   ·exact .inl (inN_ok.1 h)
   ·exact .inr ⟨j,hj,inN_ok.1 h⟩
  | succ k=>
   have:=preB_ok (i0:=i0+1) h3 (k:=k) (o:=o) (by simpa using h)
   rw[show i0+(k+1)=i0+1+k by omega]
   exact this
theorem allocsB_ok{pre:List (List Nat)}{st:St}{fr0:Fr}{lo:List LOp}{ol:OL}:∀ {os:List Oper} {i0:Nat},allocsB pre st fr0 lo ol i0 os=true→∀ {k:Nat} {o:Oper} {d:Nat},os[k]? = some o→isAlloc o=some d →
  cleanF pre (i0+k) d 0 lo=true∧cleanO st.hp d ol=true∧(∀ e,e∈fr0→e.2.mentions d=false)∧∀ e,e∈ol→e.1=d→∀ j,j∈e.2.2→j=i0+k∨(i0+k)∈pre.getD j []
 | [],_,_,k,o,d,h,_=>by simp at h
 | y::os,i0,hp,k,o,d,h,ha=>by
  simp only[allocsB,Bool.and_eq_true]at hp
  cases k with
  | zero=>
   simp at h; subst h
   rw[ha]at hp
   simp only[Bool.and_eq_true,List.all_eq_true,Bool.not_eq_true',Bool.or_eq_true]at hp
   obtain⟨⟨⟨⟨h1,h2⟩,h3⟩,h4⟩,_⟩:=hp
   refine⟨h1,h2,h3,fun e he hed j hj=>?_⟩
   rcases h4 e he with h | h
   ·exact absurd hed (Nat.ne_of_beq_eq_false h)
   ·rcases h j hj with h | h
    ·exact .inl (Nat.eq_of_beq_eq_true h)
    ·exact .inr (inN_ok.1 h)
  | succ k=>
   have:=allocsB_ok (i0:=i0+1) hp.2 (k:=k) (o:=o) (by simpa using h) ha
   rw[show i0+(k+1)=i0+1+k by omega]
   exact this
theorem cleanF_ok{pre:List (List Nat)}{i d:Nat}:∀ {ls:List LOp} {j0:Nat},cleanF pre i d j0 ls=true→∀ {k:Nat} {l:LOp},ls[k]? = some l →
  (∀ x,l.val=some x→x.mentions d=false∨i∈pre.getD (j0+k) []∨j0+k=i)∧∀ o c kk,l.md=some (o,c,kk)→c.mentions d=false∨i∈pre.getD (j0+k) []∨j0+k=i
 | [],_,_,k,l,h=>by simp at h
 | y::ls,j0,hp,k,l,h=>by
  simp only[cleanF,Bool.and_eq_true]at hp
  obtain⟨⟨h1,h2⟩,h3⟩:=hp
  cases k with
  | zero=>
   simp at h; subst h
   refine⟨fun x hx=>?_,fun o c kk hm=>?_⟩
   ·rw[hx]at h1
    simp only[Bool.or_eq_true,Bool.not_eq_true']at h1
    rcases h1 with (h | h) | h
    ·exact .inl h
    ·exact .inr (.inl (inN_ok.1 h))
    ·exact .inr (.inr (Nat.eq_of_beq_eq_true h))
   ·rw[hm]at h2
    simp only[Bool.or_eq_true,Bool.not_eq_true']at h2
    rcases h2 with (h | h) | h
    ·exact .inl h
    ·exact .inr (.inl (inN_ok.1 h))
    ·exact .inr (.inr (Nat.eq_of_beq_eq_true h))
  | succ k=>
   have:=cleanF_ok (j0:=j0+1) h3 (k:=k) (l:=l) (by simpa using h)
   rw[show j0+(k+1)=j0+1+k by omega]
   exact this
theorem cleanO_ok{hp:Hp}{d:Nat}:∀ {ol:OL},cleanO hp d ol=true→∀ {o:Nat} {new:Bool} {js:List Nat},(o,new,js)∈ol→(o=d→new=true)∧∀ c,ini hp o new=some c→c.mentions d=false
 | [],_,o,new,js,h=>by simp at h
 | (o',n',j')::l,hc,o,new,js,h=>by
  simp only[cleanO,Bool.and_eq_true]at hc
  rcases List.mem_cons.1 h with e | h
  ·cases e
   refine⟨fun hd=>?_,fun c hi=>?_⟩
   ·subst hd
    have:=hc.1.1
    rw[Nat.beq_refl]at this
    exact this
   ·have:=hc.1.2
    rw[hi]at this
    simpa using this
  ·exact cleanO_ok hc.2 h
theorem modsB_ok{ol:OL}:∀ {ls:List LOp} {i0:Nat},modsB ol i0 ls=true→∀ {k:Nat} {l:LOp},ls[k]? = some l →
  (∀ o c q,l.md=some (o,c,q)→(∃ e,e∈ol∧e.1=o∧i0+k∈e.2.2)∧∀ e,e∈ol→e.1=o∨(q=some e.1∧i0+k∈e.2.2)∨(q≠some e.1∧i0+k∉e.2.2))∧(l.md=none→∀ e,e∈ol→i0+k∉e.2.2)
 | [],_,_,k,l,h=>by simp at h
 | y::ls,i0,hp,k,l,h=>by
  simp only[modsB,Bool.and_eq_true]at hp
  have nin:∀ {x:Nat} {l:List Nat},inN x l=false→x∉l:=fun h hm=>by rw[inN_ok.2 hm]at h; cases h
  cases k with
  | zero=>
   simp at h; subst h
   refine⟨fun o c q hm=>?_,fun hm=>?_⟩
   ·have:=hp.1
    rw[hm]at this
    simp only[Bool.and_eq_true,List.any_eq_true]at this
    obtain⟨⟨e,h1,h2,h3⟩,h4⟩:=this
    refine⟨⟨e,h1,Nat.eq_of_beq_eq_true h2,inN_ok.1 h3⟩,fun e he=>?_⟩
    cases q with
    | none=>
     simp only[List.all_eq_true,Bool.or_eq_true,Bool.not_eq_true']at h4
     rcases h4 e he with h | h
     ·exact .inl (Nat.eq_of_beq_eq_true h)
     ·exact .inr (.inr ⟨by simp,nin h⟩)
    | some q=>
     simp only[List.all_eq_true,Bool.or_eq_true]at h4
     rcases h4 e he with h | h
     ·exact .inl (Nat.eq_of_beq_eq_true h)
     ·split at h
      ·rename_i hb
       exact .inr (.inl ⟨by rw[Nat.eq_of_beq_eq_true hb],inN_ok.1 h⟩)
      ·rename_i hb
       exact .inr (.inr ⟨by simp only[ne_eq,Option.some.injEq]; exact fun h'=>Nat.ne_of_beq_eq_false hb h'.symm,nin (by simpa using h)⟩)
   ·have:=hp.1
    rw[hm]at this
    simp only[List.all_eq_true,Bool.not_eq_true']at this
    exact fun e he=>nin (this e he)
  | succ k=>
   have:=modsB_ok (i0:=i0+1) hp.2 (k:=k) (l:=l) (by simpa using h)
   rw[show i0+(k+1)=i0+1+k by omega]
   exact this
theorem nodup_ol:∀ {ol:OL},nodupB (ol.map (·.1))=true→∀ {e e':Nat×Bool×List Nat},e∈ol→e'∈ol→e.1=e'.1→e=e'
 | [],_,e,e',h,_,_=>by simp at h
 | x::ol,hn,e,e',h,h',he=>by
  simp only[List.map_cons,nodupB,Bool.and_eq_true]at hn
  have hx:=noKey_ok hn.1
  rcases List.mem_cons.1 h with q | h
  ·rcases List.mem_cons.1 h' with q' | h'
   ·rw[q,q']
   ·exact absurd (by rw[←q,he]; exact List.mem_map_of_mem h') hx
  ·rcases List.mem_cons.1 h' with q' | h'
   ·exact absurd (by rw[←q',←he]; exact List.mem_map_of_mem h) hx
   ·exact nodup_ol hn.2 h h' he
theorem effL_at{ops:List Oper}{calls:List (Nat×(Nat×List PV×PV×Hp×Option (Nat×PObj)))}{st:St}{fr0:Fr}{lo:List LOp}{ol:OL}{pre:List (List Nat)}{lits:List (Nat×(Bool×Bool))}{conds:List (Nat×List Prop)}:
  ∀ {os:List Oper} {i0:Nat},effL I ops calls st fr0 lo ol pre i0 os=expL ops calls lits conds st fr0 lo ol pre i0 os→∀ {k:Nat} {o:Oper},os[k]? = some o →
  effO I ops (look calls (i0+k)) o (stI st fr0 ops lo ol pre (i0+k))=expO ops calls lits conds (stI st fr0 ops lo ol pre (i0+k)) lo (i0+k) o
 | [],_,_,k,o,h=>by simp at h
 | y::os,i0,he,k,o,h=>by
  simp only[effL,expL,List.cons.injEq]at he
  cases k with
  | zero=>simp at h; subst h; exact he.1
  | succ k=>
   have:=effL_at (i0:=i0+1) he.2 (k:=k) (o:=o) (by simpa using h)
   rw[show i0+(k+1)=i0+1+k by omega]
   exact this
theorem lit_ok{z:PV}{b:Bool}(h:(match (some z:Option PV),b with | some (.t (.bool true)),true=>true | some (.t (.bool false)),false=>true | _,_=>false)=true):z = .t (.bool b):=by
 split at h
 ·rename_i h1; cases h1; rfl
 ·rename_i h1; cases h1; rfl
 ·cases h
theorem pwp_lin0(hG:Good P E I)(hm:P.follows .mixedOrders=true){id:Nat}{L l tl:List Oper}(hL:L=l++tl){st stF:St}{calls:List (Nat×(Nat×List PV×PV×Hp×Option (Nat×PObj)))}{lits:List (Nat×(Bool×Bool))}{conds:List (Nat×List Prop)}{ol:OL}
  {ts:List Nat}{fr0:Fr}{pre:List (List Nat)}{lo:List LOp}(hf0:∀ e,e∈fr0→e∈st.fr∧e.1∈ts)(hc:AnnH P calls)(hl:LitOk lits)(hA:CondOk conds)(ts' os':List Nat)
  (hw:wfL L l tl pre st ts fr0 lo ol=true)(hlit:litsB lits lo=true)(he:effL I L calls st fr0 lo ol pre 0 l=expL L calls lits conds st fr0 lo ol pre 0 l)
  (hF:(stP st fr0 L lo ol (fun j=>Nat.blt j l.length)).keep ts' os'=some stF)(hk:pops P E L Q tl stF):pwp P E (.region id L.toArray true) Q st:=by
 intro a w r
 simp only[wfL,Bool.and_eq_true]at hw
 obtain⟨⟨⟨⟨⟨⟨⟨hpre,hnd⟩,hol⟩,hmods⟩,hchain⟩,hall⟩,hlen⟩,htl⟩:=hw
 have hchain:=List.all_eq_true.1 hchain
 have hlen:=Nat.eq_of_beq_eq_true hlen
 have hLl:L.length=l.length+tl.length:=by rw[hL]; simp
 have hat:∀ {i:Nat},i<l.length→L[i]? = l[i]?:=fun hi=>by rw[hL,List.getElem?_append_left hi]
 let SS:(Nat→Bool)→St:=stP st fr0 L lo ol
 have lo_at:∀ {k:Nat} {o:Oper},l[k]? = some o→∃ x,lo[k]? = some x∧lo.getD k default=x:=by
  intro k o hk
  have:k<lo.length:=by rw[hlen]; exact(List.getElem?_eq_some_iff.1 hk).1
  exact⟨lo[k],List.getElem?_eq_getElem this,by simp[List.getD_eq_getElem?_getD,this]⟩
 have md_at:∀ {k:Nat} {x:LOp} {o o':Nat} {c:PObj} {q:Option Nat},lo[k]? = some x→x.md=some (o,c,q)→mdOf lo o' k=(match Nat.beq o o' with | true=>some c | false=>none):=by
  intro k x o o' c q hx hmd
  have:lo.getD k default=x:=by rw[List.getD_eq_getElem?_getD,hx]; rfl
  unfold mdOf
  rw[this]
  cases x with
  | mk v md fs=>simp only at hmd; subst hmd; rfl
 have hdlt:∀ {i:Nat} {o:Oper},L[i]? = some o→∀ j,j∈depOn o→j<i:=by
  intro i o hi j hj
  have:=(preB_ok hpre hi).1 j hj
  omega
 have rdy:∀ m:List Bool,m.length=L.length→∀ i o,L[i]? = some o→getB m i false=false→(∀ j,j∈depOn o→getB m j false=true)→i∈Region.ready .any L.toArray m.toArray:=by
  intro m hml i o ho hb hd
  have hi':i<m.length:=by rw[hml]; exact(List.getElem?_eq_some_iff.1 ho).1
  rw[mem_ready]
  refine⟨?_,o,by simpa using ho,fun e hee hbd=>?_⟩
  ·rw[getB_eq]at hb
   have:m[i]=false:=by simpa[List.getD_eq_getElem?_getD,hi'] using hb
   simp[Array.getD_eq_getD_getElem?,hi',this]
  ·have hdep:e.on∈depOn o:=by
    simp only[depOn,List.mem_map,List.mem_filter]
    exact⟨e,⟨by simpa using hee,hbd⟩,rfl⟩
   have:=hd e.on hdep
   rw[getB_eq]at this
   simpa[Array.getD_eq_getD_getElem?,List.getD_eq_getElem?_getD] using this
 have done:∀ m:List Bool,m.length=L.length→(∀ i,i<l.length→i∉Region.ready .any L.toArray m.toArray)→∀ i,i<l.length→getB m i false=true:=by
  intro m hml hr i
  induction i using Nat.strongRecOn with
  | _ i ih=>
   intro hi
   cases hb:getB m i false with
   | true=>rfl
   | false=>
    exfalso
    have ho:L[i]? = some l[i]:=by rw[hat hi]; simp[hi]
    exact hr i hi (rdy m hml i _ ho hb fun j hj=>ih j (hdlt ho j hj) (Nat.lt_trans (hdlt ho j hj) hi))
 have toF:∀ m:List Bool,(∀ i,i<l.length→getB m i false=true)→(∀ i,l.length≤i→getB m i false=false)→∀ {a w},Rel E (SS fun j=>getB m j false) a w→Rel E stF a w:=by
  intro m h1 h2 a w r
  have hp:(fun j=>getB m j false)=fun j=>Nat.blt j l.length:=by
   funext j
   by_cases hj:j<l.length
   ·rw[h1 j hj]; exact(by simpa[Nat.blt_eq] using hj:Nat.blt j l.length=true).symm
   ·rw[h2 j (by omega)]
    cases hb:Nat.blt j l.length with
    | false=>rfl
    | true=>exact absurd (by simpa[Nat.blt_eq] using hb) hj
  rw[hp]at r
  exact r.keep hF
 have late:∀ i o,l.length<i→L[i]? = some o→∃ k,k∈depOn o∧l.length≤k:=by
  intro i o hi ho
  have ho':=ho
  rw[hL,List.getElem?_append_right (by omega)]at ho'
  match tl,htl with
  | [],_=>simp at ho'
  | x::t,h=>
   simp only[tlB,Bool.and_eq_true]at h
   exact onlyB_ok h.2.1 ho hi
 have htl2:chT L l.length tl=true:=by
  match tl,htl with
  | [],_=>rfl
  | x::t,h=>
   simp only[tlB,Bool.and_eq_true]at h
   simp only[chT,Bool.or_eq_true,Bool.and_eq_true]
   exact .inr h.2
 have notyet:∀ (m:List Bool) (i:Nat),rdyB L m i=true→i<m.length→getB m i false=false∧∀ o,L[i]? = some o→∀ j,j∈depOn o→getB m j false=true:=by
  intro m i hri him
  constructor
  ·unfold rdyB at hri
   split at hri
   ·cases hri
   ·rename_i hb
    rw[getB_eq]at hb ⊢
    simpa[List.getD_eq_getElem?_getD,him] using hb
  ·intro o ho
   unfold rdyB at hri
   split at hri
   ·cases hri
   ·rw[ho]at hri
    exact fun j hj=>List.all_eq_true.1 hri j hj
 have sil:Region.noSelect L.toArray=true→∀ (t:List Oper) (j:Nat),L.drop j=t→silB L t j=true→∀ (fuel:Nat) (m:List Bool),m.length=L.length→(∀ i,i<j→i<L.length→getB m i false=true)→(∀ i,j≤i→getB m i false=false)→t.length≤fuel →
   ∀ a w,wpList P L.toArray (lift E Q) t a w→wpAny P .any L.toArray (noP (lift E Q)) fuel m.toArray a w:=by
  intro hns t
  induction t with
  | nil=>
   intro j hd _ fuel m hml hT hFs _ a w hq
   refine wpAny_end (List.eq_nil_iff_forall_not_mem.2 fun i hi=>?_) ⟨by simpa only[wpList] using hq,fun c h=>by cases h⟩ fuel
   obtain⟨hri,hiL⟩:=rdyB_of hi
   have hlen:=List.drop_eq_nil_iff.1 hd
   have:=(notyet m i hri (by omega)).1
   rw[hT i (by omega) hiL]at this
   cases this
  | cons o t ih=>
   intro j hd hsb fuel m hml hT hFs hfu a w hq
   have ho:L[j]? = some o:=by rw[←List.head?_drop,hd]; rfl
   have hjL:j<L.length:=(List.getElem?_eq_some_iff.1 ho).1
   have hd':L.drop (j+1)=t:=by rw[←List.tail_drop,hd]; rfl
   obtain⟨f,rfl⟩:∃ f,fuel=f+1:=⟨fuel-1,by simp only[List.length_cons]at hfu; omega⟩
   simp only[silB,Bool.and_eq_true]at hsb
   obtain⟨⟨hs1,hs2⟩,hs3⟩:=hsb
   have hw:Region.wanted o (yielded L.toArray a.tmps)=true:=by unfold Region.wanted; rw[sil_guard hs1]
   simp only[wpList]at hq
   rw[if_pos hw]at hq
   obtain⟨v,hv,hK⟩:=sil_val hs1 hq
   have hm:m=maskL L j:=by
    refine List.ext_getElem (by unfold maskL; simp[hml]) fun k h1 h2=>?_
    have e1:getB m k false=m[k]:=by rw[getB_eq]; simp[List.getD_eq_getElem?_getD,h1]
    have e2:(maskL L j)[k]=Nat.blt k j:=by simp[maskL]
    rw[e2,←e1]
    by_cases hkj:k<j
    ·rw[hT k hkj (by omega)]; exact(by simpa[Nat.blt_eq] using hkj:Nat.blt k j=true).symm
    ·rw[hFs k (by omega)]
     cases hb:Nat.blt k j with
     | false=>rfl
     | true=>exact absurd (by simpa[Nat.blt_eq] using hb) hkj
   have hset:(m.toArray).setIfInBounds j true=(setB m j).toArray:=by rw[setB_eq]; simp
   have hjm:j<m.length:=by omega
   have hgs:∀ k,getB (setB m j) k false=(if k=j then true else getB m k false):=by
    intro k
    rw[setB_eq,getB_eq,getB_eq]
    simp only[List.getD_eq_getElem?_getD,List.getElem?_set]
    by_cases hki:k=j
    ·subst hki; simp[hjm]
    ·simp[hki,show j≠k from fun h=>hki h.symm]
   refine wpAny_take (i:=j) (oi:=o) (v:=v) (by simpa using ho) hns (by rw[hm]; exact hs2) (by simpa using rdy m hml j o ho (hFs j (Nat.le_refl _)) fun k hk=>hT k (hdlt ho k hk) (Nat.lt_trans (hdlt ho k hk) hjL)) (fun c a w h=>absurd rfl (h.2 c)) (.inl ⟨hw,hv⟩) ?_
   rw[hset]
   refine ih (j+1) hd' hs3 f (setB m j) (by rw[setB_eq]; simpa using hml) (fun k hk hkL=>?_) (fun k hk=>?_) (by simp only[List.length_cons]at hfu; omega) _ w hK
   ·rw[hgs]
    split
    ·rfl
    ·exact hT k (by omega) hkL
   ·rw[hgs,if_neg (by omega)]; exact hFs k (by omega)
 have tail:∀ (t:List Oper) (j:Nat),l.length≤j→L.drop j=t→chT L j t=true→∀ (fuel:Nat) (m:List Bool),m.length=L.length→(∀ i,i<j→i<L.length→getB m i false=true)→(∀ i,j≤i→getB m i false=false)→t.length≤fuel →
   ∀ a w,wpList P L.toArray (lift E Q) t a w→wpAny P .any L.toArray (lift E Q) fuel m.toArray a w:=by
  intro t
  induction t with
  | nil=>
   intro j _ hd _ fuel m hml hT hFs _ a w hq
   refine wpAny_end (List.eq_nil_iff_forall_not_mem.2 fun i hi=>?_) (by simpa only[wpList] using hq) fuel
   obtain⟨hri,hiL⟩:=rdyB_of hi
   have hlen:=List.drop_eq_nil_iff.1 hd
   have:=(notyet m i hri (by omega)).1
   rw[hT i (by omega) hiL]at this
   cases this
  | cons o t ih=>
   intro j hj hd hch fuel m hml hT hFs hfu a w hq
   simp only[chT,Bool.or_eq_true,Bool.and_eq_true]at hch
   rcases hch with⟨hns,hsb⟩ | ⟨honly,hch⟩
   ·exact wpAny_monoQ (fun e a w h=>h.1) fuel _ a w (sil hns (o::t) j hd hsb fuel m hml hT hFs hfu a w hq)
   have ho:L[j]? = some o:=by rw[←List.head?_drop,hd]; rfl
   have hjL:j<L.length:=(List.getElem?_eq_some_iff.1 ho).1
   have hd':L.drop (j+1)=t:=by rw[←List.tail_drop,hd]; rfl
   obtain⟨f,rfl⟩:∃ f,fuel=f+1:=⟨fuel-1,by simp only[List.length_cons]at hfu; omega⟩
   refine⟨fun hr=>?_,fun i hi=>?_⟩
   ·have:=rdy m hml j o ho (hFs j (Nat.le_refl _)) fun k hk=>hT k (hdlt ho k hk) (Nat.lt_trans (hdlt ho k hk) hjL)
    rw[hr]at this
    cases this
   ·obtain⟨hri,hiL⟩:=rdyB_of hi
    have him:i<m.length:=by omega
    obtain⟨n1,n2⟩:=notyet m i hri him
    have hij:i=j:=by
     refine Classical.byContradiction fun hne=>?_
     have hlt:j<i:=by
      refine Classical.byContradiction fun h=>?_
      rw[hT i (by omega) hiL]at n1
      cases n1
     obtain⟨k,hk1,hk2⟩:=onlyB_ok honly (List.getElem?_eq_getElem hiL) hlt
     have h1:=n2 _ (List.getElem?_eq_getElem hiL) _ hk1
     rw[hFs k hk2]at h1
     cases h1
    subst hij
    have hset:(m.toArray).setIfInBounds i true=(setB m i).toArray:=by rw[setB_eq]; simp
    have hgs:∀ k,getB (setB m i) k false=(if k=i then true else getB m k false):=by
     intro k
     rw[setB_eq,getB_eq,getB_eq]
     simp only[List.getD_eq_getElem?_getD,List.getElem?_set]
     by_cases hki:k=i
     ·subst hki; simp[him]
     ·simp[hki,show i≠k from fun h=>hki h.symm]
    have go:∀ a w,wpList P L.toArray (lift E Q) t a w→wpAny P .any L.toArray (lift E Q) f (m.toArray.setIfInBounds i true) a w:=by
     intro a w h
     rw[hset]
     refine ih (i+1) (by omega) hd' hch f (setB m i) (by rw[setB_eq]; simpa using hml) (fun k hk hkL=>?_) (fun k hk=>?_) (by simp only[List.length_cons]at hfu; omega) a w h
     ·rw[hgs]
      split
      ·rfl
      ·exact hT k (by omega) hkL
     ·rw[hgs,if_neg (by omega)]; exact hFs k (by omega)
    simp only[wpList]at hq
    unfold wpOp
    rw[show (L.toArray)[i]? = some o by simpa using ho]
    simp only
    split
    ·rename_i hw
     rw[if_pos hw]at hq
     rcases hq with hq | hq
     ·exact .inl (Oper.wp_mono go hq)
     ·exact .inr hq
    ·rename_i hw
     rw[if_neg hw]at hq
     exact go _ _ hq
 have key:∀ (fuel:Nat) (m:List Bool),m.length=L.length→(∀ i k,getB m i false=true→k∈pre.getD i []→getB m k false=true)→(∀ i,l.length≤i→getB m i false=false)→m.count false≤fuel→∀ a w,Rel E (SS fun j=>getB m j false) a w →
   wpAny P .any L.toArray (lift E Q) fuel m.toArray a w:=by
  have fin:∀ (fuel:Nat) (m:List Bool),m.length=L.length→(∀ i,l.length≤i→getB m i false=false)→m.count false≤fuel→(∀ i,i<l.length→getB m i false=true)→∀ a w,Rel E (SS fun j=>getB m j false) a w→wpAny P .any L.toArray (lift E Q) fuel m.toArray a w:=by
   intro fuel m hml hts hcnt hall a w r
   refine tail tl l.length (Nat.le_refl _) (by rw[hL]; simp) htl2 fuel m hml (fun i hi _=>hall i hi) hts ?_ a w (hk a w (toF m hall hts r))
   have h1:(m.drop l.length).count false=(m.drop l.length).length:=by
    refine List.count_eq_length.2 fun b hb=>?_
    obtain⟨q,hq,rfl⟩:=List.mem_iff_getElem.1 hb
    have h2:=hts (l.length+q) (by omega)
    rw[getB_eq]at h2
    have h3:l.length+q<m.length:=by rw[List.length_drop]at hq; omega
    rw[List.getElem_drop]
    have:m[l.length+q]=false:=by simpa[List.getD_eq_getElem?_getD,h3] using h2
    exact this.symm
   have h4:m.count false=(m.take l.length).count false+(m.drop l.length).count false:=by rw[←List.count_append,List.take_append_drop]
   rw[List.length_drop]at h1
   omega
  intro fuel
  induction fuel with
  | zero=>
   intro m hml hcl hts hcnt a w r
   refine fin 0 m hml hts hcnt (fun i hi=>?_) a w r
   have him:i<m.length:=by omega
   cases hb:getB m i false with
   | true=>rfl
   | false=>
    exfalso
    rw[getB_eq]at hb
    have:m[i]=false:=by simpa[List.getD_eq_getElem?_getD,him] using hb
    have:=List.count_pos_iff.2 (this▸List.getElem_mem him)
    omega
  | succ fuel ih=>
   intro m hml hcl hts hcnt a w r
   by_cases hall0:∀ i,i<l.length→getB m i false=true
   ·exact fin (fuel+1) m hml hts hcnt hall0 a w r
   refine⟨fun hr=>absurd (done m hml fun i _ h=>by rw[hr]at h; cases h) hall0,fun i hi=>?_⟩
   obtain⟨hri,hiL⟩:=rdyB_of hi
   have him:i<m.length:=by omega
   obtain⟨hmi0,hdeps0⟩:=notyet m i hri him
   have hil:i<l.length:=by
    refine Classical.byContradiction fun hn=>?_
    have ho:=List.getElem?_eq_getElem hiL
    by_cases hin:i=l.length
    ·subst hin
     have hd:=hdeps0 _ ho
     refine hall0 fun k hk'=>?_
     have e0:L[l.length]? = tl[0]?:=by rw[hL,List.getElem?_append_right (Nat.le_refl _),Nat.sub_self]
     have hoT:tl[0]? = some L[l.length]:=e0.symm.trans ho
     match tl,htl,hoT with
     | x::t,h,hoT=>
      simp only[tlB,Bool.and_eq_true]at h
      have hx:x=L[l.length]:=by simpa using hoT
      have:=List.all_eq_true.1 h.1 k (List.mem_range.2 hk')
      rw[hx]at this
      simp only[Bool.or_eq_true,List.any_eq_true]at this
      rcases this with h | ⟨j,hj,h⟩
      ·exact hd k (inN_ok.1 h)
      ·exact hcl j k (hd j hj) (inN_ok.1 h)
    ·obtain⟨k,hk1,hk2⟩:=late i _ (by omega) ho
     have:=hdeps0 _ ho _ hk1
     rw[hts k hk2]at this
     cases this
   have hol0:l[i]? = some l[i]:=List.getElem?_eq_getElem hil
   have ho:L[i]? = some l[i]:=by rw[hat hil]; exact hol0
   have hmi:getB m i false=false:=by
    unfold rdyB at hri
    split at hri
    ·cases hri
    ·rename_i hb
     rw[getB_eq]at hb ⊢
     simpa[List.getD_eq_getElem?_getD,him] using hb
   have hdeps:∀ j,j∈depOn l[i]→getB m j false=true:=by
    unfold rdyB at hri
    split at hri
    ·cases hri
    ·rw[ho]at hri
     exact fun j hj=>List.all_eq_true.1 hri j hj
   have hpi:=preB_ok hpre ho
   simp only[Nat.zero_add]at hpi
   have hprem:∀ k,k∈pre.getD i []→getB m k false=true:=by
    intro k hk
    rcases (hpi.2 k hk).2 with h | ⟨j,hj,h⟩
    ·exact hdeps k h
    ·exact hcl j k (hdeps j hj) h
   have hinot:i∉pre.getD i []:=fun h=>Nat.lt_irrefl _ (hpi.2 i h).1
   have hsucc:∀ j,i∈pre.getD j []→getB m j false=false:=by
    intro j hj
    cases hb:getB m j false with
    | false=>rfl
    | true=>rw[hcl j i hb hj]at hmi; cases hmi
   have hsub1:∀ e,e∈(stI st fr0 L lo ol pre i).fr→e∈(SS fun j=>getB m j false).fr:=by
    intro e he
    simp only[stI,List.mem_append]at he
    show e∈frP _ L fr0++facF _ 0 L lo
    rw[List.mem_append]
    rcases he with he | he
    ·obtain⟨h1,h2⟩:=mem_frP.1 he
     refine .inl (mem_frP.2 ⟨h1,fun k o h3 h4=>?_⟩)
     have:=h2 k o h3 h4
     simp only[Bool.not_eq_false',Bool.or_eq_true]at this
     rcases this with h | h
     ·rw[Nat.eq_of_beq_eq_true h]; exact hmi
     ·exact hsucc k (inN_ok.1 h)
    ·obtain⟨k,o,x,h1,h2,h3,h4,h5⟩:=mem_facF he
     exact .inr (facF_mem h1 h2 (by rw[Nat.zero_add]at h3 ⊢; exact hprem k (inN_ok.1 h3)) h4 h5)
   have hsub2:∀ e,e∈(stI st fr0 L lo ol pre i).hp→e∈(SS fun j=>getB m j false).hp:=by
    intro e he
    obtain⟨new,js,h1,h2⟩:=mem_facH he
    obtain⟨h1,h3⟩:=List.mem_filter.1 h1
    refine facH_mem h1 ?_
    rw[←h2]
    refine contO_congr fun j hj=>?_
    have:=List.all_eq_true.1 h3 j hj
    simp only[Bool.or_eq_true]at this
    cases hin:inN j (pre.getD i []) with
    | true=>exact hprem j (inN_ok.1 hin)
    | false=>
     rcases this with (h | h) | h
     ·rw[Nat.eq_of_beq_eq_true h]; exact hmi
     ·rw[hin]at h; cases h
     ·exact hsucc j (inN_ok.1 h)
   have huq:∀ k x y,(k,x)∈(SS fun j=>getB m j false).hp→(k,y)∈(SS fun j=>getB m j false).hp→x=y:=by
    intro k x y h1 h2
    obtain⟨n1,j1,h3,h4⟩:=mem_facH h1
    obtain⟨n2,j2,h5,h6⟩:=mem_facH h2
    have:=nodup_ol hol h3 h5 rfl
    cases this
    rw[h4]at h6
    exact Option.some.inj h6
   obtain⟨x,hx,hxd⟩:=lo_at hol0
   have heff:=effL_at he hol0
   rw[Nat.zero_add]at heff
   unfold expO at heff
   rw[hxd]at heff
   have hCs:All (match look conds i with | some l=>l | none=>[]):=by
    split
    ·rename_i h; exact hA.mem _ (look_mem h)
    ·exact trivial
   unfold wpOp
   rw[show (L.toArray)[i]? = some l[i] by simpa using ho]
   simp only
   have fin2:(if Region.wanted l[i] (yielded L.toArray a.tmps) then l[i].wp P a w (wpAny P .any L.toArray (lift E Q) fuel (m.toArray.setIfInBounds i true)) (lift E Q) else wpAny P .any L.toArray (lift E Q) fuel (m.toArray.setIfInBounds i true) (a.put l[i].dst undef) w) →
     (if Region.wanted l[i] (yielded L.toArray a.tmps) then l[i].wp P a w (wpAny P .any L.toArray (lift E Q) fuel (m.toArray.setIfInBounds i true)) (lift E Q)∨l[i].asks P a w∧LetsOut (lift E Q) else wpAny P .any L.toArray (lift E Q) fuel (m.toArray.setIfInBounds i true) (a.put l[i].dst undef) w):=by
    intro hh
    split
    ·rename_i hw; rw[if_pos hw]at hh; exact .inl hh
    ·rename_i hw; rw[if_neg hw]at hh; exact hh
   refine fin2 (eff_ok hG (fun k args r Hs ch hca=>hc.mem _ (look_mem hca)) hsub1 hsub2 huq heff hCs (fun f hf i=>by obtain⟨_,_,rfl⟩:=List.mem_map.1 hf; rfl) (fun k args r Hs ch hca hwt=>by rw[hca,hwt]) (fun d hia=>?_) r fun a' w' r'=>?_)
   ·
    obtain⟨c1,c2,c3,c4⟩:=allocsB_ok hall hol0 hia
    simp only[Nat.zero_add]at c1 c4
    refine⟨fun e he=>?_,fun e he=>?_⟩
    ·change e∈frP _ L fr0++facF _ 0 L lo at he
     rcases List.mem_append.1 he with he | he
     ·exact c3 e (mem_frP.1 he).1
     ·obtain⟨k,o,y,h1,h2,h3,h4,h5⟩:=mem_facF he
      rw[Nat.zero_add]at h3
      rcases (cleanF_ok c1 h2).1 _ h5 with h | h | h
      ·exact h
      ·rw[Nat.zero_add]at h; rw[hsucc k h]at h3; cases h3
      ·rw[Nat.zero_add]at h; subst h; rw[hmi]at h3; cases h3
    ·obtain⟨new,js,h1,h2⟩:=mem_facH he
     obtain⟨d1,d2⟩:=cleanO_ok c2 h1
     constructor
     ·cases hb:Nat.beq e.1 d with
      | false=>rfl
      | true=>
       exfalso
       have hed:=Nat.eq_of_beq_eq_true hb
       have hnew:=d1 hed
       rcases contO_src h2 with h | ⟨j,hj,hpj,_⟩
       ·rw[hnew]at h; simp[ini]at h
       ·rcases c4 _ h1 hed j hj with h | h
        ·subst h; rw[hmi]at hpj; cases hpj
        ·rw[hsucc j h]at hpj; cases hpj
     ·rcases contO_src h2 with h | ⟨j,hj,hpj,hmd⟩
      ·exact d2 _ h
      ·have hjl:j<lo.length:=by
        by_cases hjl:j<lo.length
        ·exact hjl
        ·exfalso
         have:getB m j false=false:=hts j (by omega)
         rw[this]at hpj; cases hpj
       have hlj:lo[j]? = some lo[j]:=List.getElem?_eq_getElem hjl
       have hgd:lo.getD j default=lo[j]:=by simp[List.getD_eq_getElem?_getD,hjl]
       unfold mdOf at hmd
       rw[hgd]at hmd
       split at hmd
       ·rename_i v0 o0 c0 q0 f0 hv0
        split at hmd
        case h_2=>cases hmd
        cases hmd
        rcases (cleanF_ok c1 hlj).2 o0 e.2 q0 (by rw[hv0]) with h | h | h
        ·exact h
        ·rw[Nat.zero_add]at h; rw[hsucc j h]at hpj; cases hpj
        ·rw[Nat.zero_add]at h; subst h; rw[hmi]at hpj; cases hpj
       ·cases hmd
   ·
    have hset:(m.toArray).setIfInBounds i true=(setB m i).toArray:=by rw[setB_eq]; simp
    rw[hset]
    have hgs:∀ j,getB (setB m i) j false=(if j=i then true else getB m j false):=by
     intro j
     rw[setB_eq,getB_eq,getB_eq]
     simp only[List.getD_eq_getElem?_getD,List.getElem?_set]
     by_cases hji:j=i
     ·subst hji; simp[him]
     ·simp[hji,show i≠j from fun h=>hji h.symm]
    refine ih (setB m i) (by rw[setB_eq]; simpa using hml) (fun j k hj hk=>?_) (fun j hj=>by rw[hgs,if_neg (by omega)]; exact hts j hj) ?_ a' w' ?_
    ·rw[hgs]at hj ⊢
     by_cases hki:k=i
     ·simp[hki]
     ·rw[if_neg hki]
      by_cases hji:j=i
      ·subst hji; exact hprem k hk
      ·rw[if_neg hji]at hj; exact hcl j k hj hk
    ·have hmi2:m[i]=false:=by rw[getB_eq]at hmi; simpa[List.getD_eq_getElem?_getD,him] using hmi
     rw[setB_eq,List.count_set him,hmi2]
     have:0<m.count false:=List.count_pos_iff.2 (by rw[←hmi2]; exact List.getElem_mem him)
     simp
     omega
    ·refine r'.sub (fun e he=>?_) (fun e he=>?_)
     ·change e∈frP _ L fr0++facF _ 0 L lo at he
      have old:e∈(SS fun j=>getB m j false).fr→(∀ d,l[i].dst=some d→e.1≠d)→e∈(appE (SS fun j=>getB m j false) l[i].dst (match look lits i with | some (b,_)=>some (PV.t (T.bool b)) | none=>x.val) x.md).fr:=by
       intro h1 h2
       unfold appE
       simp only
       split
       ·rename_i d y hd _
        obtain⟨k,z⟩:=e
        exact List.mem_cons_of_mem _ (mem_del.2 ⟨h1,h2 d hd⟩)
       ·exact h1
      rcases List.mem_append.1 he with he | he
      ·obtain⟨h1,h2⟩:=mem_frP.1 he
       refine old (List.mem_append_left _ (mem_frP.2 ⟨h1,fun k o h3 h4=>?_⟩)) fun d hd hed=>?_
       ·have:=h2 k o h3 h4
        rw[hgs]at this
        split at this
        ·cases this
        ·exact this
       ·have:=h2 i l[i] ho (by rw[hd,hed])
        rw[hgs,if_pos rfl]at this
        cases this
      ·obtain⟨k,o,y,h1,h2,h3,h4,h5⟩:=mem_facF he
       rw[Nat.zero_add,hgs]at h3
       by_cases hki:k=i
       ·subst hki
        have h1:l[k]=o:=by rw[ho]at h1; exact Option.some.inj h1
        have h2:x=y:=by rw[hx]at h2; exact Option.some.inj h2
        subst h2
        rw[h1]
        unfold appE
        simp only
        cases hlk:look lits k with
        | none=>simp only[h4,h5]; exact List.mem_cons_self ..
        | some bv=>
         obtain⟨b,v⟩:=bv
         have hbv:b=v:=hl.mem _ (look_mem hlk)
         subst hbv
         have:=List.all_eq_true.1 hlit _ (look_mem hlk)
         simp only[hxd,h5]at this
         simp only[h4]
         have hee:e=(e.1,PV.t (T.bool b)):=Prod.ext rfl (lit_ok this)
         rw[←hee]
         exact List.mem_cons_self ..
       ·rw[if_neg hki]at h3
        refine old (List.mem_append_right _ (facF_mem h1 h2 (by rw[Nat.zero_add]; exact h3) h4 h5)) fun d hd hed=>?_
        exact hki (dsts_ne hnd h1 ho h4 (by rw[hd,hed]))
     ·obtain⟨new,js,h1,h2⟩:=mem_facH he
      have hmo:=modsB_ok hmods hx
      simp only[Nat.zero_add]at hmo
      have old:i∉js→e∈(SS fun j=>getB m j false).hp:=by
       intro hnj
       refine facH_mem h1 ?_
       rw[←h2]
       refine contO_congr fun j hj=>?_
       have hji:j≠i:=fun h=>hnj (h▸hj)
       rw[hgs,if_neg hji]
      unfold appE
      simp only
      split
      ·rename_i o c q hmd
       obtain⟨⟨e0,q1,q2,q3⟩,q4⟩:=hmo.1 o c q hmd
       by_cases heo:e.1=o
       ·have:e0=(e.1,new,js):=nodup_ol hol q1 h1 (by rw[q2,heo])
        subst this
        have:=contO_set (o:=e.1) (q:=fun j=>getB (setB m i) j false) (by simp[hgs]) (hchain _ h1) q3 (c:=ini st.hp e.1 new) (lo:=lo) (fun j _ hj=>by
         have hji:j≠i:=fun h=>hinot (h▸hj)
         show getB (setB m i) j false=false
         rw[hgs,if_neg hji]; exact hsucc j hj)
        rw[this,md_at hx hmd,←heo,Nat.beq_refl]at h2
        cases h2
        rw[←heo]
        exact List.mem_cons_self ..
       ·refine List.mem_cons_of_mem _ ?_
        obtain⟨k,z⟩:=e
        rcases q4 _ h1 with h | ⟨h,h'⟩ | ⟨h,h'⟩
        ·exact absurd h heo
        ·exfalso
         have:=contO_set (o:=k) (q:=fun j=>getB (setB m i) j false) (by simp[hgs]) (hchain _ h1) h' (c:=ini st.hp k new) (lo:=lo) (fun j _ hj=>by
          have hji:j≠i:=fun h=>hinot (h▸hj)
          show getB (setB m i) j false=false
          rw[hgs,if_neg hji]; exact hsucc j hj)
         rw[this,md_at hx hmd]at h2
         have hb:Nat.beq o k=false:=by
          cases hb:Nat.beq o k with
          | false=>rfl
          | true=>exact absurd (Nat.eq_of_beq_eq_true hb).symm heo
         rw[hb]at h2
         cases h2
        ·refine mem_del.2 ⟨?_,heo⟩
         cases q with
         | none=>exact old h'
         | some q=>exact mem_del.2 ⟨old h',fun hh=>h (by rw[hh])⟩
      ·rename_i hmd
       exact old (hmo.2 hmd _ h1)
 refine wp_region_any hm ?_
 have h0:=key L.length (List.replicate L.length false) (by simp) (fun i k h=>by rw[getB_eq]at h; simp[List.getD_eq_getElem?_getD,List.getElem?_replicate]at h; split at h <;> simp at h) (fun i _=>by rw[getB_eq]; simp[List.getD_eq_getElem?_getD,List.getElem?_replicate]; split <;> rfl) (by simp) a _ (r.drew.sub (fun e he=>?_) (fun e he=>?_))
 ·simpa using h0
 ·change e∈frP _ L fr0++facF _ 0 L lo at he
  rcases List.mem_append.1 he with he | he
  ·exact(hf0 e (mem_frP.1 he).1).1
  ·obtain⟨k,o,y,h1,h2,h3,h4,h5⟩:=mem_facF he
   rw[getB_eq]at h3
   simp[List.getD_eq_getElem?_getD,List.getElem?_replicate]at h3
   split at h3 <;> simp at h3
 ·obtain⟨new,js,h1,h2⟩:=mem_facH he
  rw[contO_off (fun j _=>by rw[getB_eq]; simp[List.getD_eq_getElem?_getD,List.getElem?_replicate]; split <;> rfl)]at h2
  unfold ini at h2
  split at h2
  ·cases h2
  ·exact look_mem h2
def linL(I:Inf)(L l:List Oper)(calls:List (Nat×(Nat×List PV×PV×Hp×Option (Nat×PObj))))(lits:List (Nat×(Bool×Bool)))(st:St)(ts:List Nat)(ol:OL):List LOp:=
 runL I L calls lits st (canonL st.fr ts) ol (preG (deps l) []) 0 l []
theorem canonL_key{α:Type}{l:List (Nat×α)}:∀ {ts:List Nat} e,e∈canonL l ts→e.1∈ts
 | [],e,h=>by simp[canonL]at h
 | t::ts,e,h=>by
  simp only[canonL]at h
  split at h
  ·rcases List.mem_cons.1 h with rfl | h
   ·simp
   ·exact List.mem_cons_of_mem _ (canonL_key e h)
  ·exact List.mem_cons_of_mem _ (canonL_key e h)
theorem pwp_lin(hG:Good P E I)(hm:P.follows .mixedOrders=true){id:Nat}{L l tl:List Oper}(hL:L=l++tl){st stF:St}(calls:List (Nat×(Nat×List PV×PV×Hp×Option (Nat×PObj))))(lits:List (Nat×(Bool×Bool)))(conds:List (Nat×List Prop))(ol:OL)
  (ts:List Nat)(hc:AnnH P calls)(hl:LitOk lits)(hA:CondOk conds)(ts' os':List Nat)
  (hw:(wfL L l tl (preG (deps l) []) st ts (canonL st.fr ts) (linL I L l calls lits st ts ol) ol&&litsB lits (linL I L l calls lits st ts ol))=true)
  (he:effL I L calls st (canonL st.fr ts) (linL I L l calls lits st ts ol) ol (preG (deps l) []) 0 l=expL L calls lits conds st (canonL st.fr ts) (linL I L l calls lits st ts ol) ol (preG (deps l) []) 0 l)
  (hF:(stP st (canonL st.fr ts) L (linL I L l calls lits st ts ol) ol (fun j=>Nat.blt j l.length)).keep ts' os'=some stF)(hk:pops P E L Q tl stF):pwp P E (.region id L.toArray true) Q st:=by
 simp only[Bool.and_eq_true]at hw
 exact pwp_lin0 hG hm hL (fun e he=>⟨canonL_mem e he,canonL_key e he⟩) hc hl hA ts' os' hw.1 hw.2 he hF hk
end
def nxL{α:Type}(l new:List (Nat×α)):List Nat→List (Nat×α)
 | []=>[]
 | t::ts=>match look new t with
  | some x=>(t,x)::nxL l new ts
  | none=>match look l t with
   | some x=>(t,x)::nxL l new ts
   | none=>nxL l new ts
def nx(st:St)(ts os:List Nat)(new:List (Nat×PV))(newh:List (Nat×PObj)):St:=⟨nxL st.fr new ts,nxL st.hp newh os⟩
def lentOk(L:List Nat)(x:PV):Bool:=match L with | []=>x.pure | _=>x.scalar
section
variable {P:Program} {E:Env} {I:Inf} {Q:Post} {st:St}
theorem pc(hG:Good P E I){ops l:List Oper}(n:Nat)(ts os:List Nat)(new:List (Nat×PV))(newh:List (Nat×PObj)){p:Prop}(hp:p)(hk:pops P E ops Q (l.drop n) (nx st ts os new newh))
  (h:prunK I ops l n ts os st=some (nx st ts os new newh,[p]):=by kernel_rfl):pops P E ops Q l st:=pops_run hG n ts os h hp hk
theorem rn(hG:Good P E I){id:Nat}{l:List Oper}(ts os:List Nat)(new:List (Nat×PV))(newh:List (Nat×PObj))(hk:Q .normal (nx st ts os new newh))
  (h:prunK I l l l.length ts os st=some (nx st ts os new newh,[]):=by kernel_rfl):pwp P E (.region id l.toArray false) Q st:=pwp_run hG ts os h trivial hk
theorem ko{ops l:List Oper}(ts os:List Nat)(hk:pops P E ops Q l (nx st ts os [] []))(h:st.keep ts os=some (nx st ts os [] []):=by kernel_rfl):pops P E ops Q l st:=pops_weak (Le.keep h) hk
theorem jn{A:Code}(ts os:List Nat)(new:List (Nat×PV))(newh:List (Nat×PObj))(h1:pwp P E A (Fall E (nx st ts os new newh)) st)(h2:Q .normal (nx st ts os new newh)):pwp P E A Q st:=pwp_join h1 h2
theorem lp{id:Nat}{c:Code}{S R:Type}(body:S→Option (S⊕R))(tm:S→St)(Qx:R→Post)(hb:∀ s x,body s=some x→pwp P E c (roundQ E tm Qx x) (tm s))(n:Nat)(s0:S)(r:R)(hn:iterM body n s0=some r)
  (hq:∀ e s,Qx r e s→∃ t,Le E s t∧blockQ id Q e t)(h:st.keep (keysL (tm s0).fr) (keysL (tm s0).hp)=some (tm s0):=by kernel_rfl):pwp P E (.block id (.loop c)) Q st:=
 pwp_weak (Le.keep h) (pwp_block (pwp_loop body tm Qx hb n s0 r hn hq))
theorem os{ops l:List Oper}(t:St)(hk:pops P E ops Q l t)(h:st.keep (keysL t.fr) (keysL t.hp)=some t:=by kernel_rfl):pops P E ops Q l st:=pops_weak (Le.keep h) hk
theorem ls{s:St}(t:St)(h:s.keep (keysL t.fr) (keysL t.hp)=some t:=by kernel_rfl):Le E s t:=Le.keep h
theorem io{ops l:List Oper}(t:Nat){b:Bool}{α:Type}{X Y:Option α}{z:α}(h:(if b=true then X else Y)=some z)(h1:X=some z→pops P E ops Q l { st with fr:=(t,.t (.bool true))::del t st.fr })
  (h0:Y=some z→pops P E ops Q l { st with fr:=(t,.t (.bool false))::del t st.fr })(hl:look st.fr t=some (.t (.bool b)):=by kernel_rfl):pops P E ops Q l st:=
 pops_bool hl (fun hb=>h1 (ite_t hb h)) (fun hb=>h0 (ite_f hb h))
theorem ca(hG:Good P E I){ops l:List Oper}{o:Oper}{rest:List Oper}{c:Call}{f:Operand}{k d:Nat}{aps bps:List PV}{x:PV}(L:List Nat)
  (hl:l=o::rest)(hop:o.op = .call c)(hcal:c.callee = .value f)(hd:o.dst=some d)(hk:Callable P k)(has:ArgsR st L aps bps)(hcall:PCall P k bps [] [] (Ret x))(hn:pops P E ops Q rest (st.put d x))
  (hw:wantedP ops o st=some true:=by kernel_rfl)(hnt:Nat.blt d I.nt=true:=by kernel_rfl)(hf:ev st f=some (.fn (.func k) 0 []):=by kernel_rfl)(hargs:evList st c.args.toList=some aps:=by kernel_rfl)
  (hp:lentOk L x=true:=by kernel_rfl):pops P E ops Q l st:=
 pops_call hG L hl hop hcal hd hw hnt hf hargs hk (by simpa using has) hcall (fun r H' hr=>by
  unfold Ret at hr; subst hr; exact⟨by cases L <;> exact hp,hn⟩)
theorem ch(hG:Good P E I){ops l:List Oper}{o:Oper}{rest:List Oper}{c:Call}{f:Operand}{k d nf:Nat}{caps aps bps:List PV}{x:PV}{Hs Ht:Hp}(L N nw:List Nat)
  (hl:l=o::rest)(hop:o.op = .call c)(hcal:c.callee = .value f)(hd:o.dst=some d)(hk:Callable P k)(has:ArgsR st [] (caps.take nf++aps++caps.drop nf) bps)
  (hcall:PCall P k bps Hs N (RetH x Ht))(hn:pops P E ops Q rest (({ fr:=st.fr,hp:=Ht++restH st.hp L }:St).put d x))
  (hw:wantedP ops o st=some true:=by kernel_rfl)(hnt:Nat.blt d I.nt=true:=by kernel_rfl)(hf:ev st f=some (.fn (.func k) nf caps):=by kernel_rfl)(hargs:evList st c.args.toList=some aps:=by kernel_rfl)
  (hpick:pickH st.hp L=some Hs:=by kernel_rfl)(hfresh:freshIn st L I.N nw=true:=by kernel_rfl)(hb:backIn x Ht (N++nw)=true:=by kernel_rfl):pops P E ops Q l st:=
 pops_callH hG L N nw hl hop hcal hd hw hnt hf hargs hk has hpick hfresh hcall (fun r H' hr=>by
  unfold RetH at hr; obtain⟨rfl,rfl⟩:=hr; exact⟨hb,hn⟩)
end
def sameK:T→T→Bool
 | .int k _,.int k' _=>decide (k=k')
 | .str _,.str _=>true
 | _,_=>false
class MKey (K:Type) where
 kT:K→T
 lt:K→K→Bool
 eq:DecidableEq K
 inj:∀ a b,kT a=kT b→a=b
 same:∀ a b,sameK (kT a) (kT b)=true
instance (K:Type)[MKey K]:DecidableEq K:=MKey.eq
instance:MKey ByteArray where
 kT:=.str
 lt a b:=Op.bytesLess a.toList b.toList
 eq:=inferInstance
 inj a b h:=by injection h
 same _ _:=by rfl
instance:MKey Int where
 kT n:=.int .i64 n
 lt a b:=decide (a<b)
 eq:=inferInstance
 inj a b h:=by injection h
 same _ _:=by rfl
section
variable {K V:Type} [MKey K]
def mdel(v:List (K×V))(k:K):List (K×V):=v.filter fun p=>decide (p.1≠k)
def mins(k:K)(c:V):List (K×V)→List (K×V)
 | []=>[(k,c)]
 | p::l=>match MKey.lt k p.1 with | true=>(k,c)::p::l | false=>p::mins k c l
def mput(v:List (K×V))(k:K)(c:V):List (K×V):=mins k c (mdel v k)
def mlook:List (K×V)→K→Option V
 | [],_=>none
 | p::l,k=>if p.1=k then some p.2 else mlook l k
def eM(enc:V→Mem)(v:List (K×V)):List (T×Mem):=v.map fun p=>(MKey.kT p.1,enc p.2)
def mkeys(v:List (K×V)):List K:=v.map (·.1)
def kTs(l:List K):List T:=l.map MKey.kT
theorem mins_perm(k:K)(c:V):∀ l:List (K×V),(mins k c l).Perm ((k,c)::l)
 | []=>.refl _
 | p::l=>by
  simp only[mins]
  split
  ·exact .refl _
  ·exact((mins_perm k c l).cons p).trans (.swap ..)
theorem mput_perm(v:List (K×V))(k:K)(c:V):(mput v k c).Perm ((k,c)::mdel v k):=mins_perm k c _
theorem mdel_not(v:List (K×V))(k:K):k∉mkeys (mdel v k):=by
 simp[mkeys,mdel]
theorem mlook_none{v:List (K×V)}{k:K}(h:mlook v k=none):k∉mkeys v:=by
 induction v with
 | nil=>simp[mkeys]
 | cons p l ih=>
  simp only[mlook]at h
  split at h
  ·cases h
  ·rename_i hp
   have:=ih h
   simp only[mkeys,List.map_cons,List.mem_cons,not_or]at this ⊢
   exact⟨fun e=>hp e.symm,this⟩
theorem mdel_of_not{v:List (K×V)}{k:K}(h:k∉mkeys v):mdel v k=v:=by
 refine List.filter_eq_self.2 fun p hp=>?_
 simp only[decide_eq_true_eq]
 intro e
 exact h (e▸List.mem_map_of_mem hp)
theorem mlook_some{v:List (K×V)}{k:K}{c:V}(hn:(mkeys v).Nodup)(h:mlook v k=some c):v.Perm ((k,c)::mdel v k):=by
 induction v with
 | nil=>simp[mlook]at h
 | cons p l ih=>
  simp only[mkeys,List.map_cons,List.nodup_cons]at hn
  simp only[mlook]at h
  split at h
  ·rename_i hp
   injection h with h
   have:mdel (p::l) k=l:=by
    have hl:mdel l k=l:=mdel_of_not (hp▸hn.1)
    unfold mdel at hl ⊢
    rw[List.filter_cons_of_neg (by simp[hp])]
    exact hl
   rw[this,←h,←hp]
  ·rename_i hp
   have:=ih hn.2 h
   have e:mdel (p::l) k=p::mdel l k:=by
    unfold mdel
    rw[List.filter_cons_of_pos (by simpa using hp)]
   rw[e]
   exact(this.cons p).trans (.swap ..)
theorem eM_perm{enc:V→Mem}{v v':List (K×V)}(h:v.Perm v'):(eM enc v).Perm (eM enc v'):=h.map _
theorem eM_keys{enc:V→Mem}{v:List (K×V)}:(eM enc v).map (·.1)=kTs (mkeys v):=by
 simp[eM,kTs,mkeys,List.map_map,Function.comp_def]
theorem kTs_mem{l:List K}{k:K}:MKey.kT k∈kTs l↔k∈l:=by
 simp only[kTs,List.mem_map]
 exact⟨fun⟨a,h1,h2⟩=>MKey.inj _ _ h2▸h1,fun h=>⟨k,h,rfl⟩⟩
theorem kTs_nodup{l:List K}(h:(kTs l).Nodup):l.Nodup:=by
 induction l with
 | nil=>simp
 | cons a l ih=>
  simp only[kTs,List.map_cons,List.nodup_cons]at h
  exact List.nodup_cons.2 ⟨fun hm=>h.1 (List.mem_map_of_mem hm),ih h.2⟩
theorem eM_nodup{enc:V→Mem}{v:List (K×V)}(h:((eM enc v).map (·.1)).Nodup):(mkeys v).Nodup:=kTs_nodup (by rw[←eM_keys (enc:=enc)]; exact h)
end
section
variable {F:Nat→Prop} {g:Nat→Value} {w:World} {b clock:Nat} {es:Array MapEntry} {it:Option Iter}
theorem AllR.perm{α β:Type}{R:α→β→Prop}{l l':List α}(hp:l.Perm l'):∀ {r:List β},AllR R l r→∃ r':List β,AllR R l' r'∧(l.zip r).Perm (l'.zip r')∧r.Perm r':=by
 induction hp with
 | nil=>intro r h; cases h; exact⟨[],.nil,.refl _,.refl _⟩
 | cons x _ ih=>
  intro r h
  cases h with
  | cons h t=>
   obtain⟨r',h1,h2,h3⟩:=ih t
   exact⟨_::r',.cons h h1,by simpa using h2,h3.cons _⟩
 | swap x y l=>
  intro r h
  cases h with
  | cons h t=>cases t with
   | cons h' t=>exact⟨_::_::_,.cons h' (.cons h t),by simpa using .swap ..,.swap ..⟩
 | trans _ _ ih1 ih2=>
  intro r h
  obtain⟨r1,h1,h2,h3⟩:=ih1 h
  obtain⟨r2,h4,h5,h6⟩:=ih2 h1
  exact⟨r2,h4,h2.trans h5,h3.trans h6⟩
def SepZ(z:List ((T×Mem)×MapEntry)):Prop:=z.Pairwise fun a c=>a.1.2.owned=true→c.1.2.owned=true→∀ x,blk a.2.val=some x→blk c.2.val=some x→False
theorem sepZ_of{m:List (T×Mem)}{l:List MapEntry}(h:∀ (i j:Nat) x y e e' c,m[i]? = some x→m[j]? = some y→l[i]? = some e→l[j]? = some e'→i≠j→x.2.owned=true→y.2.owned=true→blk e.val=some c→blk e'.val=some c→False):
  SepZ (m.zip l):=by
 unfold SepZ
 rw[List.pairwise_iff_getElem]
 intro i j hi hj hlt ho ho' x hx hx'
 simp only[List.length_zip]at hi hj
 rw[List.getElem_zip]at ho ho' hx hx'
 exact h i j m[i] m[j] l[i] l[j] x (List.getElem?_eq_getElem (by omega)) (List.getElem?_eq_getElem (by omega)) (List.getElem?_eq_getElem (by omega)) (List.getElem?_eq_getElem (by omega)) (by omega) ho ho' hx hx'
theorem sepZ_to{m:List (T×Mem)}{l:List MapEntry}(h:SepZ (m.zip l)):∀ (i j:Nat) x y e e' c,m[i]? = some x→m[j]? = some y→l[i]? = some e→l[j]? = some e'→i≠j→x.2.owned=true→y.2.owned=true→blk e.val=some c→blk e'.val=some c→False:=by
 unfold SepZ at h
 rw[List.pairwise_iff_getElem]at h
 have key:∀ (i j:Nat) x y e e' c,m[i]? = some x→m[j]? = some y→l[i]? = some e→l[j]? = some e'→i<j→x.2.owned=true→y.2.owned=true→blk e.val=some c→blk e'.val=some c→False:=by
  intro i j x y e e' c hx hy he he' hlt ho ho' hb hb'
  obtain⟨h1,rfl⟩:=List.getElem?_eq_some_iff.1 hx
  obtain⟨h2,rfl⟩:=List.getElem?_eq_some_iff.1 hy
  obtain⟨h3,rfl⟩:=List.getElem?_eq_some_iff.1 he
  obtain⟨h4,rfl⟩:=List.getElem?_eq_some_iff.1 he'
  exact h i j (by simp; omega) (by simp; omega) hlt (by simpa using ho) (by simpa using ho') c (by simpa using hb) (by simpa using hb')
 intro i j x y e e' c hx hy he he' hne ho ho' hb hb'
 rcases Nat.lt_or_gt_of_ne hne with h' | h'
 ·exact key i j x y e e' c hx hy he he' h' ho ho' hb hb'
 ·exact key j i y x e' e c hy hx he' he h' ho' ho hb' hb
theorem SepZ.perm{z z':List ((T×Mem)×MapEntry)}(h:SepZ z)(hp:z.Perm z'):SepZ z':=by
 unfold SepZ at h ⊢
 exact(hp.pairwise_iff (fun {a c} h ho ho' x hx hx'=>h ho' ho x hx' hx)).1 h
theorem MpR.permM{m m':List (T×Mem)}{ho:Option (T×Option PV)}{l r:List MapEntry}(h:MpR F g w b es clock it m ho l r)(hp:m.Perm m'):∃ l',MpR F g w b es clock it m' ho l' r:=by
 obtain⟨l',h1,h2,h3⟩:=h.ent.perm hp
 refine⟨l',((h3.append_right r).symm).trans h.perm,h1,h.hole,?_,h.born,h.old,sepZ_to ((sepZ_of h.sep).perm h2),h.it⟩
 exact(((hp.map _).append_right _).nodup_iff).1 h.keys
theorem MpR.focus{m:List (T×Mem)}{k:T}{y:Mem}{l r:List MapEntry}(h:MpR F g w b es clock it ((k,y)::m) none l r){g':Nat→Value}{p:Option PV}(hp:∀ q,p=some q→∀ v,MemR F w y v→(∃ e,e∈es.toList∧e.val=v∧KeyR k e.key)→VR F g' w q v)
  (hit:ItR g' w b es clock it):∃ e l',l=e::l'∧KeyR k e.key∧MemR F w y e.val∧e∈es.toList∧MpR F g' w b es clock it m (some (k,p)) l' [e]:=by
 have hr:=h.hole
 simp only[HoleR]at hr
 subst hr
 have hperm:=h.perm
 cases hent:h.ent with
 | @cons _ e _ l' hR t=>
  have he:e∈es.toList:=hperm.mem_iff.1 (by simp)
  refine⟨e,l',rfl,hR.1,hR.2,he,⟨?_,t,?_,?_,h.born,h.old,fun i j x y' e1 e2 c hx hy h1 h2 hne=>h.sep (i+1) (j+1) x y' e1 e2 c (by simpa using hx) (by simpa using hy) (by simpa using h1) (by simpa using h2) (by omega),hit⟩⟩
  ·rw[List.append_nil]at hperm
   refine List.Perm.trans ?_ hperm
   exact List.perm_append_comm (l₁:=l') (l₂:=[e])
  ·cases p with
   | none=>exact .inr ⟨e,rfl,hR.1⟩
   | some q=>exact⟨e,rfl,hR.1,hp q rfl _ hR.2 ⟨e,he,rfl,hR.1⟩⟩
  ·have hk:=h.keys
   simp only[List.map_cons,hoK,List.append_nil]at hk ⊢
   refine(List.Perm.nodup_iff ?_).1 hk
   exact List.perm_append_comm (l₁:=[k]) (l₂:=m.map (·.1))
end
def keyD:T→Option TypeDesc
 | .int k _=>some (.int k)
 | .str _=>some .string
 | _=>none
section
variable {P:Program} {w:World}
theorem findNow_ok{k:T}{kv:Value}(hk:KeyR k kv){kd:TypeDesc}(hd:keyD k=some kd):∀ (es:List MapEntry) (i:Nat),(∀ e,e∈es→∃ k',KeyR k' e.key∧sameK k k'=true) →
  (Instr.findNow kd kv es i=some none∧∀ e,e∈es→¬ KeyR k e.key)∨∃ j e,es[j]? = some e∧KeyR k e.key∧Instr.findNow kd kv es i=some (some (i+j,e.val))
 | [],i,_=>.inl ⟨rfl,by simp⟩
 | e::es,i,h=>by
  obtain⟨k',h1,h2⟩:=h e (by simp)
  have ih:=findNow_ok hk hd es (i+1) fun e' he=>h e' (List.mem_cons_of_mem _ he)
  have hs:∃ q,Instr.sameNow kd kv e.key=some q∧(q=true↔k=k'):=by
   generalize e.key=u at h1
   cases hk with
   | int q n=>
    cases h1 with
    | int q' n'=>
     simp only[sameK,decide_eq_true_eq]at h2
     subst h2
     simp only[keyD,Option.some.injEq]at hd
     subst hd
     exact⟨n==n',by simp[Instr.sameNow],by simp⟩
    | str s=>cases h2
   | str s=>
    cases h1 with
    | int q' n'=>cases h2
    | str s'=>
     simp only[keyD,Option.some.injEq]at hd
     subst hd
     exact⟨s==s',by simp[Instr.sameNow],by rw[MapKept.bytes_beq]; exact⟨fun h=>by rw[h],fun h=>by injection h⟩⟩
  obtain⟨q,hs,hq⟩:=hs
  simp only[Instr.findNow,hs]
  cases q with
  | true=>
   have hkk:=hq.1 rfl
   subst hkk
   exact .inr ⟨0,e,by simp,h1,rfl⟩
  | false=>
   have hkk:k≠k':=fun e=>by have:=hq.2 e; cases this
   rcases ih with⟨h3,h4⟩ | ⟨j,e',h3,h4,h5⟩
   ·refine .inl ⟨h3,fun x hx=>?_⟩
    rcases List.mem_cons.1 hx with rfl | hx
    ·exact fun hk'=>hkk (hk'.inj h1)
    ·exact h4 x hx
   ·exact .inr ⟨j+1,e',by simpa using h3,h4,by rw[h5,Nat.add_assoc,Nat.add_comm 1 j]⟩
structure MapT (P:Program)(t:TypeId)(k:T)(kt et:TypeId)(kd:TypeDesc):Prop where
 und:P.underlying t=some (.map kt et)
 key:P.underlying kt=some kd
 d:keyD k=some kd
theorem run_checkKey{t kt et:TypeId}{k:T}{kd:TypeDesc}(hT:MapT P t k kt et kd)(em:Bool)(v:Value)(n:Nat):(Instr.checkKey em (n+1) kt v).run P w = .ok () w:=by
 have hd:=hT.d
 unfold Instr.checkKey
 simp only[Sem.run_bind,run_underlying hT.key,Result.andThen_ok]
 cases k with
 | int q m=>simp only[keyD,Option.some.injEq]at hd; subst hd; cases v <;> rfl
 | str s=>simp only[keyD,Option.some.injEq]at hd; subst hd; cases v <;> rfl
 | _=>cases hd
theorem run_findKey{t kt et:TypeId}{k:T}{kd:TypeDesc}(hT:MapT P t k kt et kd){kv:Value}(hk:KeyR k kv)(es:List MapEntry)(h:∀ e,e∈es→∃ k',KeyR k' e.key∧sameK k k'=true):
  ((Instr.findKey kt kv es).run P w = .ok none w∧∀ e,e∈es→¬ KeyR k e.key)∨∃ j e,es[j]? = some e∧KeyR k e.key∧(Instr.findKey kt kv es).run P w = .ok (some (j,e.val)) w:=by
 have hf:=findNow_ok hk hT.d es 0 h
 unfold Instr.findKey
 simp only[Sem.run_bind,run_underlying hT.key,Result.andThen_ok]
 rcases hf with⟨h1,h2⟩ | ⟨j,e,h1,h2,h3⟩
 ·exact .inl ⟨by rw[h1]; rfl,h2⟩
 ·exact .inr ⟨j,e,h1,h2,by rw[h3,Nat.zero_add]; rfl⟩
theorem run_lookup{t kt et:TypeId}{k:T}{kd:TypeDesc}(hT:MapT P t k kt et kd){kv:Value}(hk:KeyR k kv){b clock:Nat}{es:Array MapEntry}(hb:w.heap[b]? = some (.map es clock))(h:∀ e,e∈es.toList→∃ k',KeyR k' e.key∧sameK k k'=true)
  {info:TypeInfo}{z:Value}(hi:P.info? et=some info)(hz:info.zero=some z):
  ((Instr.lookup t (.map (some b)) kv false).run P w = .ok z w∧∀ e,e∈es.toList→¬ KeyR k e.key)∨∃ e,e∈es.toList∧KeyR k e.key∧(Instr.lookup t (.map (some b)) kv false).run P w = .ok e.val w:=by
 have hf:=run_findKey (w:=w) hT hk es.toList h
 unfold Instr.lookup
 simp only[Sem.run_bind,run_underlying hT.und,Result.andThen_ok,Go.run_getObj_map w b es clock hb,Sem.run_pure,run_checkKey hT]
 rcases hf with⟨h1,h2⟩ | ⟨j,e,h1,h2,h3⟩
 ·exact .inl ⟨by rw[h1]; simp[zeroValue,typeInfo,hi,hz],h2⟩
 ·exact .inr ⟨e,List.mem_of_getElem? h1,h2,by rw[h3]; simp⟩
end
def gfocus(N:List Nat)(o d:Nat)(x' y:PObj)(st:St):Option St:=
 match nmem d N,Nat.beq d o,st.erase d with
 | true,false,some st1=>some { fr:=st1.fr,hp:=(d,y)::(o,x')::del o st1.hp }
 | _,_,_=>none
section
variable {P:Program} {E:Env} {I:Inf} {F:Nat→Prop} {g:Nat→Value} {st st2:St} {a:Act} {w:World}
theorem RelG.focus(hN:E.N=I.N)(r:RelG E F g st a w){o d:Nat}{x x' y:PObj}(u:Value)(hl:look st.hp o=some x)(hs:gfocus I.N o d x' y st=some st2)
  (hx':∀ g',(∀ k,k≠d→g' k=g k)→g' d=u→ObjR F g' w o x')(hy:∀ g',(∀ k,k≠d→g' k=g k)→g' d=u→ObjR F g' w d y)
  (fx:∀ g' b,(∀ k,k≠d→g' k=g k)→g' d=u→Foot g' w o x' b→Foot g w o x b)(fy:∀ g' b,(∀ k,k≠d→g' k=g k)→g' d=u→Foot g' w d y b→Foot g w o x b)
  (dis:∀ g' b,(∀ k,k≠d→g' k=g k)→g' d=u→Foot g' w o x' b→Foot g' w d y b→False):
  d≠o∧∃ g',g' d=u∧(∀ k,k≠d→g' k=g k)∧RelG E F g' st2 a w:=by
 unfold gfocus at hs
 split at hs
 ·rename_i st1 hn hdo he
  cases hs
  have hdo:=Nat.ne_of_beq_eq_false hdo
  have ho:=fun k (hk:k≠d)=>upd_other g u hk
  have hlm:=look_mem hl
  refine⟨hdo,upd g d u,upd_same ..,ho,r.nt,r.df,fun t z hz=>?_,⟨?_,r.w.f0,r.w.f1,r.w.ext,fun k hk=>?_,r.w.b0⟩⟩
  ·obtain⟨h1,h2⟩:=St.erase_fr he t z hz
   exact(r.fr t z h1).mono (fun b hb=>⟨hb,rfl⟩) (fun k hk=>ho k (h2 k hk))
  ·have old:∀ k z,(k,z)∈del o st1.hp→k≠o∧∃ z',(k,z')∈st.hp∧ObjR F (upd g d u) w k z∧∀ b,Foot (upd g d u) w k z b→Foot g w k z' b:=by
    intro k z hz
    obtain⟨h1,h2⟩:=mem_del.1 hz
    obtain⟨z',h3,h4,h5,h6,h7⟩:=St.erase_hp he k z h1
    exact⟨h2,z',h3,(h6 _ _ _ (r.w.hp.obj k z' h3)).mono (fun b hb=>⟨hb,rfl⟩) (ho k h4) (fun k' hk'=>ho k' (h5 k' hk')) (fun _ _=>rfl),
     fun b hb=>h7 _ _ _ (hb.mono (ho k h4) (fun k' hk'=>ho k' (h5 k' hk')) (fun _ _=>rfl))⟩
   have foot:∀ k z b,(k,z)∈(d,y)::(o,x')::del o st1.hp→Foot (upd g d u) w k z b→∃ k' z',(k',z')∈st.hp∧Foot g w k' z' b∧(k=k'∨k=d∧k'=o):=by
    intro k z b hz hb
    rcases List.mem_cons.1 hz with e | hz
    ·cases e; exact⟨o,x,hlm,fy _ b ho (upd_same ..) hb,.inr ⟨rfl,rfl⟩⟩
    ·rcases List.mem_cons.1 hz with e | hz
     ·cases e; exact⟨o,x,hlm,fx _ b ho (upd_same ..) hb,.inl rfl⟩
     ·obtain⟨_,z',h1,_,h3⟩:=old k z hz
      exact⟨k,z',h1,h3 b hb,.inl rfl⟩
   refine⟨fun k z hz=>?_,fun k z b hz hb=>?_,fun k z k' z' b hz hz' hne hb hb'=>?_⟩
   ·rcases List.mem_cons.1 hz with e | hz
    ·cases e; exact hy _ ho (upd_same ..)
    ·rcases List.mem_cons.1 hz with e | hz
     ·cases e; exact hx' _ ho (upd_same ..)
     ·exact(old k z hz).2.choose_spec.2.1
   ·obtain⟨k',z',h1,h2,_⟩:=foot k z b hz hb
    exact r.w.hp.own k' z' b h1 h2
   ·have hmem:∀ k z,(k,z)∈(d,y)::(o,x')::del o st1.hp→k=d∧z=y∨k=o∧z=x'∨k≠o∧(k,z)∈del o st1.hp:=by
     intro k z hz
     rcases List.mem_cons.1 hz with e | hz
     ·cases e; exact .inl ⟨rfl,rfl⟩
     ·rcases List.mem_cons.1 hz with e | hz
      ·cases e; exact .inr (.inl ⟨rfl,rfl⟩)
      ·exact .inr (.inr ⟨(mem_del.1 hz).2,hz⟩)
    obtain⟨q,z1,h1,h2,h3⟩:=foot k z b hz hb
    obtain⟨q',z1',h1',h2',h3'⟩:=foot k' z' b hz' hb'
    by_cases hq:q=q'
    ·subst hq
     rcases h3 with h3 | ⟨h3,h4⟩
     ·rcases h3' with h3' | ⟨h3',h4'⟩
      ·exact hne (h3.trans h3'.symm)
      ·subst h3'; subst h4'; subst h3
       rcases hmem _ _ hz with⟨e1,e2⟩ | ⟨e1,e2⟩ | ⟨e1,e2⟩
       ·exact hne e1
       ·subst e2
        rcases hmem _ _ hz' with⟨_,e4⟩ | ⟨e3,e4⟩ | ⟨e3,e4⟩
        ·subst e4; exact dis _ b ho (upd_same ..) hb hb'
        ·exact hdo e3
        ·obtain⟨z',h3,h4,_⟩:=St.erase_hp he _ _ (mem_del.1 e4).1
         exact h4 rfl
       ·exact e1 rfl
     ·subst h3; subst h4
      rcases h3' with h3' | ⟨h3',h4'⟩
      ·subst h3'
       rcases hmem _ _ hz' with⟨e1,e2⟩ | ⟨e1,e2⟩ | ⟨e1,e2⟩
       ·exact hdo e1.symm
       ·subst e2
        rcases hmem _ _ hz with⟨_,e4⟩ | ⟨e3,e4⟩ | ⟨e3,e4⟩
        ·subst e4; exact dis _ b ho (upd_same ..) hb' hb
        ·exact hdo e3
        ·obtain⟨z',h3,h4,_⟩:=St.erase_hp he _ _ (mem_del.1 e4).1
         exact h4 rfl
       ·exact e1 rfl
      ·exact hne h3'.symm
    ·exact r.w.hp.sep q z1 q' z1' b h1 h1' hq h2 h2'
  ·rw[ho k (fun e:k=d=>nmem_ok hn (by rw[←e,←hN]; exact hk))]
   exact r.w.names k hk
 ·cases hs
theorem pops_step{ops l:List Oper}{o:Oper}{rest:List Oper}{Q:Post}(hl:l=o::rest)(hw:wantedP ops o st=some true)
  (h:∀ F g a w,RelG E F g st a w→∃ n v w' st',(execOp a.eval o).run P w = .ok n w'∧(n = .value v∨(n = .skip∧v=undef))∧Rel E st' (a.put o.dst v) w'∧pops P E ops Q rest st'):pops P E ops Q l st:=by
 subst hl
 intro a w r
 refine wpList_step fun K hK=>?_
 obtain⟨F,g,r⟩:=r
 have hwt:=wantedP_ok (ops:=ops.toArray) r (by simpa using hw)
 obtain⟨n,v,w',st',h1,h2,h3,h4⟩:=h F g a w r
 rw[if_pos hwt]
 unfold Oper.wp
 rw[h1]
 rcases h2 with rfl | ⟨rfl,rfl⟩
 ·exact hK _ _ (h4 _ _ h3)
 ·exact hK _ _ (h4 _ _ h3)
def mapIn(ti:Nat→Option TInf)(t:Nat)(k:T):Option Nat:=
 match ti t with
 | some i=>match i.und with
  | .mp kt et=>match ti kt with
   | some j=>match j.und,k with
    | .int .i64,.int .i64 _=>some et
    | .str,.str _=>some et
    | _,_=>none
   | none=>none
  | _=>none
 | none=>none
theorem mapIn_ok(hI:TIok P I.ti){t et:Nat}{k:T}(h:mapIn I.ti t k=some et):∃ kt kd,MapT P t k kt et kd:=by
 unfold mapIn at h
 split at h
 ·rename_i i hi
  split at h
  ·rename_i kt et' hu
   split at h
   ·rename_i j hj
    have hm:=(hI _ _ hi).und; rw[hu]at hm
    have hk:=(hI _ _ hj).und
    split at h
    ·rename_i hu' ; rw[hu']at hk; cases h; exact⟨kt,_,hm,hk,rfl⟩
    ·rename_i hu' ; rw[hu']at hk; cases h; exact⟨kt,_,hm,hk,rfl⟩
    ·cases h
   ·cases h
  ·cases h
 ·cases h
def ZeroIs(P:Program)(t:TypeId)(z:Value):Prop:=∃ info,P.info? t=some info∧info.zero=some z
theorem zeroIs_of{t:TypeId}{z:Value}(h:(P.info? t).bind (·.zero)=some z):ZeroIs P t z:=by
 cases hi:P.info? t with
 | none=>rw[hi]at h; cases h
 | some i=>rw[hi]at h; exact⟨i,hi,h⟩
end
section
variable {F:Nat→Prop} {g:Nat→Value} {w:World} {b clock:Nat} {es:Array MapEntry} {it:Option Iter} {K V:Type} [MKey K] {enc:V→Mem}
theorem MpR.kinds{v:List (K×V)}{ho:Option (T×Option PV)}{l r:List MapEntry}(h:MpR F g w b es clock it (eM enc v) ho l r)(hh:∀ k p,ho=some (k,p)→∃ k':K,k=MKey.kT k')(k:K):
  ∀ e,e∈es.toList→∃ k',KeyR k' e.key∧sameK (MKey.kT k) k'=true:=by
 intro e he
 rcases List.mem_append.1 (h.perm.mem_iff.2 he) with hl | hr
 ·obtain⟨j,y,hy,_,hR⟩:=h.ent.memr hl
  have:=List.mem_of_getElem? hy
  simp only[eM,List.mem_map]at this
  obtain⟨p,_,rfl⟩:=this
  exact⟨_,hR.1,MKey.same _ _⟩
 ·have hho:=h.hole
  rcases ho with _ | ⟨q,p⟩
  ·simp only[HoleR]at hho; subst hho; simp at hr
  ·obtain⟨k',rfl⟩:=hh q p rfl
   have:KeyR (MKey.kT k') e.key:=by
    cases p with
    | none=>
     rcases hho with rfl | ⟨e',rfl,h2⟩
     ·simp at hr
     ·simp at hr; subst hr; exact h2
    | some p=>
     obtain⟨e',rfl,h2,_⟩:=hho
     simp at hr; subst hr; exact h2
   exact⟨_,this,MKey.same _ _⟩
end
end Go.PL
