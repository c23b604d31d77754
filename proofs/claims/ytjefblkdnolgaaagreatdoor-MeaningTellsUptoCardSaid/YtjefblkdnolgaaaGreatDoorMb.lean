/-
  Parts: Runs of operations, and the rules for code, on abstract states. Own work. The rules: regions, code, calls, functions. Own work. Calls and functions; steps that change the state's form alone. Own work. Calls of functions; freezing, renaming, retyping. Own work. Small lemmas for the printed proofs. Own work. Regions whose order is open: every order, looked at by a computation over abstract states. Own work. Calls that hand memory over. Own work. Regions whose order is open: each operation is looked at once, over what its forerunners give. Own work. Short forms of the rules, for printed proofs. Own work. Maps with numbers or strings as keys: what the model's operations do, and typed maps. Own work. Rules for maps whose values are boxes and rows of the map's own. Own work.
-/
import Derived.Test.YtjefblkdnolgaaaGreatDoorMa
import Derived.LoopN
import Derived.Lib.LaidTab
import Derived.Lib.ItoaNum
import Derived.Orders
import Derived.KernelRfl
import Derived.Maps.RangeRun
set_option maxHeartbeats 4000000
namespace Go.PL
open Go
variable {Cs:List Prop} {H Hs hp:Hp} {Q':Exit->Act->World->Prop} {c:Call} {d i id k n nf o s:Nat} {e et kt t:TypeId} {f:Operand} {fn:Func} {fr:Fr} {kd:TypeDesc} {r:List MapEntry} {v:Value} {w':World} {y:Code} {α:Type}
def All:List Prop->Prop
 | []=>True
 | [p]=>p
 | p::l=>p/\All l
theorem All.cons{p:Prop}{l:List Prop}:All (p::l)↔p/\All l:=by
 cases l with
 | nil=>simp[All]
 | cons q l=>rfl
theorem All.append{l r:List Prop}:All (l++r)↔All l/\All r:=by
 induction l with
 | nil=>simp[All]
 | cons p l ih=>simp only[vM,All.cons,ih,and_assoc]
def isC(st:St):Op->Bool
 | .load _ a=>match ev st a with | some (.aptr ..)=>true | _=>false
 | .store _ a _=>match ev st a with | some (.aptr ..)=>true | _=>false
 | .binOp .quo _ _ _ _=>true
 | .binOp .rem _ _ _ _=>true
 | .binOp .shl _ _ _ _=>true
 | .binOp .shr _ _ _ _=>true
 | .binOp .add _ x _ _=>match ev st x with | some (.t (.str _))=>true | _=>false
 | .indexAddr ..=>true
 | .index ..=>true
 | .slice ..=>true
 | .convert _ _ x=>match ev st x with | some (.t (.int ..))=>false | _=>true
 | .call c=>match c.callee with | .builtin .append=>true | _=>false
 | .entry _=>true
 | _=>false
def oZ(b:Bool)(C:Prop):List Prop:=match b with | true=>[C] | false=>[]
def cC(ops:List Oper)(o:Oper)(st:St):Option Bool:=
 match o.guard with
 | none=>some true
 | some (j,b)=>match ops[j]? with
  | some oj=>match oj.dst with
   | some d=>match look st.fr d,b with
    | some (.t (.bool true)),true=>some true
    | some (.t (.bool false)),false=>some true
    | some (.t (.bool true)),false=>some false
    | some (.t (.bool false)),true=>some false
    | some (.tup []),_=>some false
    | _,_=>none
   | none=>none
  | none=>none
def Lk(I:Inf)(ops:List Oper)(o:Oper)(st:St):Option (St×List Prop):=
 match cC ops o st with
 | some true=>match o.op with
  | .store ..=>match jY I st o with | some (st',C)=>some (st',oZ (isC st o.op) C) | none=>none
  | .alloc ..=>match jY I st o with | some (st',C)=>some (st',oZ (isC st o.op) C) | none=>none
  | .box ..=>match jY I st o with | some (st',C)=>some (st',oZ (isC st o.op) C) | none=>none
  | .buildSlice ..=>match jY I st o with | some (st',C)=>some (st',oZ (isC st o.op) C) | none=>none
  | .makeMap ..=>match jY I st o with | some (st',C)=>some (st',oZ (isC st o.op) C) | none=>none
  | .mapUpdate ..=>match jY I st o with | some (st',C)=>some (st',oZ (isC st o.op) C) | none=>none
  | .call { callee:=.builtin .append,.. }=>match jY I st o with | some (st',C)=>some (st',oZ (isC st o.op) C) | none=>none
  | op=>match pev I st op,o.dst with
   | some (x,C),some d=>match Nat.blt d I.nt with | true=>some (st.put d x,oZ (isC st op) C) | false=>none
   | _,_=>none
 | some false=>match o.dst with
  | some d=>match Nat.blt d I.nt with | true=>some (st.put d (.tup []),[]) | false=>none
  | none=>some (st,[])
 | none=>none
def Lv{α:Type}(l:List (Nat×α)):List Nat->Option (List (Nat×α))
 | []=>some []
 | t::ts=>match look l t,Lv l ts with
  | some x,some r=>some ((t,x)::r)
  | _,_=>none
theorem zU{α:Type}{l:List (Nat×α)}:∀ {ts:List Nat} {r:List (Nat×α)},Lv l ts=some r->∀ e,e∈r->e∈l
 | [],r,h=>by simp[Lv]at h; subst h; simp
 | t::ts,r,h=>by
  simp only[Lv]at h;split at h
  ·rename_i x r' hx hr;cases h;intro e he;rcases bE.1 he with rfl | he
   ·exact aX hx
   ·exact zU hr e he
  ·cases h
def St.keep(ts os:List Nat)(st:St):Option St:=
 match Lv st.fr ts,Lv st.hp os with
 | some f,some h=>some ⟨f,h⟩
 | _,_=>none
section
variable {P:Program} {E:Env}
theorem HpR.sub{F:Nat->Prop}{g:Nat->Value}{w:World}{B:Nat->Prop}{D:Hp}(h:HpR F g w B H)(hs:∀ e,e∈D->e∈H):HpR F g w B D:=
 ⟨fun o x hx=>h.obj o x (hs _ hx),fun o x b hx=>h.own o x b (hs _ hx),fun o x G y b hx hy=>h.sep o x G y b (hs _ hx) (hs _ hy)⟩
theorem Rel.sub{st st':St}{a:Act}{w:World}(r:Rel E st a w)(hf:∀ e,e∈st'.fr->e∈st.fr)(D:∀ e,e∈st'.hp->e∈st.hp):Rel E st' a w:=by obtain⟨F,g,r⟩:=r;exact⟨F,g,r.nt,r.df,fun t x hx=>r.fr t x (hf _ hx),⟨r.w.hp.sub D,r.w.f0,r.w.f1,r.w.ext,r.w.names,r.w.b0⟩⟩
theorem Rel.keep{st st':St}{ts os:List Nat}(h:st.keep ts os=some st'){a:Act}{w:World}(r:Rel E st a w):Rel E st' a w:=by
 unfold St.keep at h;split at h
 ·rename_i f hp h1 h2;cases h;exact r.sub (zU h1) (zU h2)
 ·cases h
theorem Rs{F:Nat->Prop}{g:Nat->Value}{st:St}{a:Act}{w:World}(r:cG E F g st a w){x:PV}(h:look st.fr d=some x):VR F g w x (a.tmps.getD d undef):=r.fr d x (aX h)
theorem iD{st:St}{a:Act}{w:World}{F:Nat->Prop}{g:Nat->Value}(r:cG E F g st a w){ops:Array Oper}{o:Oper}{b:Bool}(h:cC ops.toList o st=some b):
  Region.wanted o (yielded ops a.tmps)=b:=by
 unfold cC at h;unfold Region.wanted;split at h
 ·simp_all
 ·rename_i j G hg;rw[hg];split at h
  ·rename_i J Z;split at h
   ·rename_i d M;have hy:∀ v,a.tmps.getD d undef=v->(∀ x,v ≠ .bool x->yielded ops a.tmps j≠some x)/\(∀ x,v = .bool x->yielded ops a.tmps j=some x):=by
     intro v hv;have D:ops[j]? = some J:=by simp_all
     unfold yielded;rw[D];simp only[aI,M];by_cases hlt:d<a.tmps.size
     ·simp[hlt]at hv;grind
     ·simp[hlt]at hv;rw[Array.getElem?_eq_none (Nat.le_of_not_lt hlt)];subst hv;exact⟨fun x _=>by simp,fun x hx=>by simp[undef]at hx⟩
    split at h
    all_goals first
     | (rename_i hl
        cases h
        first
         | (have hv:=(Rs r hl).inv_bool
            simp_all)
         | (have hv:=Rs r hl
            generalize Q:a.tmps.getD d undef=u at hv;cases hv with
            | tup hs hr=>grind))
     | cases h
   ·cases h
  ·cases h
theorem aKY{I:Inf}{st:St}{op:Op}{x:PV}{C:Prop}(h:pev I st op=some (x,C))(hc:isC st op=false):C:=by
 have htr:∀ {y:Option PV},tr y=some (x,C)->C:=by intro y hy; unfold tr at hy; all_goals grind
 cases op <;> simp only[pev]at h
 all_goals try (exact htr h)
 all_goals try (cases h; done)
 case pick=>split at h <;> first | exact htr h | cases h
 case load t a=>
  split at h
  ·rename_i i p hi hp;simp only[isC,hp]at hc;cases p <;> simp only[Bs]at h
   all_goals grind
  ·cases h
 case nilCheck=>split at h <;> first | simp_all | cases h
 case binOp op t y z u=>
  split at h
  ·unfold bBH at h; split at h <;> cases h <;> trivial
  ·unfold bAJ at h; split at h <;> cases h <;> trivial
  ·unfold aPG at h;grind
  ·rename_i i p q _ _ hi hp G;unfold aPC at h;split at h
   ·split at h
    ·rename_i D; cases op <;> simp[bEN,isC]at D hc
    split at h
    ·cases op <;> simp[Yx,isC]at h hc
     all_goals simp_all
    ·cases h
   ·unfold Kv at h; split at h <;> cases h <;> trivial
   ·unfold Kv at h; split at h <;> cases h <;> trivial
   ·cases op <;> simp[Ye,isC,hp]at h hc
    all_goals simp_all
   ·unfold aLO at h;grind
   ·split at h
    ·cases op <;> simp[Mi]at h
     all_goals simp_all
    ·cases h
   ·cases h
  ·cases h
 case unOp=>split at h <;> first | (unfold unP at h; split at h <;> first | simp_all | cases h) | cases h
 case convert s d y=>
  split at h
  ·grind
  ·rename_i i j p J hi M hp;exfalso;have key:∀ q,ev st y=q->isC st (.convert s d y)=false->∃ k n,q=some (.t (.int k n)):=by intro q G hc;simp only[isC,G]at hc;simp_all
   simp_all
  ·cases h
 case makeFunc=>split at h <;> first | simp_all | cases h
 case fieldAddr=>split at h <;> first | (split at h <;> first | (split at h <;> first | simp_all | cases h) | cases h) | cases h
 case field=>split at h <;> first | (split at h <;> first | (split at h <;> first | (split at h <;> first | (split at h <;> first | exact htr h | cases h) | cases h) | cases h) | cases h) | cases h
 case extract=>split at h <;> first | exact htr h | cases h
 case indexAddr=>simp[isC]at hc
 case index=>simp[isC]at hc
 case lookup t x k ok=>grind
 case slice=>simp[isC]at hc
 case entry=>simp[isC]at hc
 case call c=>unfold aJS at h;split at h <;> first | (split at h <;> first | exact htr h | (split at h <;> first | simp_all | cases h) | cases h) | cases h
end
abbrev iK:=Exit->St->Prop
def rO(E:Env)(Q:iK):Exit->Act->World->Prop:=fun e a w=>∃ st,Q e st/\Rel E st a w
def pwp(P:Program)(E:Env)(c:Code)(Q:iK)(st:St):Prop:=∀ a w,Rel E st a w->c.wp P (rO E Q) a w
def fG(P:Program)(E:Env)(ops:List Oper)(Q:iK)(l:List Oper)(st:St):Prop:=∀ a w,Rel E st a w->wpList P ops.toArray (rO E Q) l a w
def Vo:String := "internal/strconv.uint64pow10"
def bFW:Bool:=false
def GLE(P:Program)(F:Nat->Prop)(w:World)(name:String):Prop:=∀ b,P.globalNamed name=some b->(∃ ev,w.cell? ⟨b,0,none⟩=some ev/\(ev = .nilIface\/∃ te pe,ev = .iface te pe))/\F b
theorem GLE.mono{P:Program}{F F':Nat->Prop}{w:World}{name:String}(h:GLE P F w name)(hF:∀ b,F b->F' b/\w'.heap[b]? = w.heap[b]?):GLE P F' w' name:=by intro b hb;obtain⟨⟨ev,h1,h2⟩,h3⟩:=h b hb;refine⟨⟨ev,?_,h2⟩,(hF b h3).1⟩;rw[World.cell?_of_block (w:=w) (w':=w') (hF b h3).2];exact h1
def GLT(P:Program)(F:Nat->Prop)(w:World):Prop:=∀ b,P.globalNamed Vo=some b->Lib.TabIs P w Vo .u64 Lib.pow10Tab/\F b
theorem GLT.mono{P:Program}{F F':Nat->Prop}{w:World}(h:GLT P F w)(hF:∀ b,F b->F' b/\w'.heap[b]? = w.heap[b]?):GLT P F' w':=by intro b hb;obtain⟨h1,h2⟩:=h b hb;refine⟨?_,(hF b h2).1⟩;unfold Lib.TabIs World.var? at h1 ⊢;simp_all
structure GLP (P:Program)(F:Nat->Prop)(w:World):Prop where
 tab:GLT P F w
 err:bFW=true->GLE P F w "strconv.ErrSyntax" /\ GLE P F w "strconv.ErrRange"
theorem GLP.mono{P:Program}{F F':Nat->Prop}{w w':World}(h:GLP P F w)(hF:∀ b,F b->F' b/\w'.heap[b]? = w.heap[b]?):GLP P F' w':=
 ⟨h.tab.mono hF,fun he=>⟨(h.err he).1.mono hF,(h.err he).2.mono hF⟩⟩
structure gN (P:Program)(E:Env)(I:Inf):Prop where
 ti:mP P I.ti
 N:E.N=I.N
 nt:E.nt=I.nt
 gl:GLP P E.F0 E.w0
 sep:∀ b,E.F0 b->¬ E.B0 b/\b<E.w0.heap.size
theorem gN.glw{P:Program}{E:Env}{I:Inf}(D:gN P E I){F:Nat->Prop}{g:Nat->Value}{w:World}(r:Jj E F g H w):GLP P F w:=
 D.gl.mono fun b hb=>⟨r.f0 b hb,r.ext.block b (D.sep b hb).2 (D.sep b hb).1⟩
section
variable {P:Program} {E:Env} {I:Inf} {Q:iK} {st st':St}
theorem aHO(Z:gN P E I){ops:Array Oper}{o:Oper}(h:Lk I ops.toList o st=some (st',Cs))(hC:All Cs){a:Act}{w:World}(r:Rel E st a w) 
  {K:Act->World->Prop}(hk:∀ a' w',Rel E st' a' w'->K a' w'):if Region.wanted o (yielded ops a.tmps) then o.wp P a w K Q' else K (a.put o.dst undef) w:=by
 obtain⟨F,g,r⟩:=r;have mem:∀ {C:Prop},jY I st o=some (st',C)->C->Region.wanted o (yielded ops a.tmps)=true->(if Region.wanted o (yielded ops a.tmps) then o.wp P a w K Q' else K (a.put o.dst undef) w):=by
  intro C hs hC J;obtain⟨n,v,w',h1,h2,h3⟩:=aKL Z.ti Z.N Z.nt r o hs hC;rw[aA J];unfold Oper.wp;rw[h1];rcases h2 with rfl | ⟨rfl,rfl⟩
  ·exact hk _ _ h3
  ·exact hk _ _ h3
 have G:∀ {C:Prop},jY I st o=some (st',C)->Cs=oZ (isC st o.op) C->(isC st o.op=false->C)->Region.wanted o (yielded ops a.tmps)=true->(if Region.wanted o (yielded ops a.tmps) then o.wp P a w K Q' else K (a.put o.dst undef) w):=by
  intro C hs he hf J;refine mem hs ?_ J;cases hc:isC st o.op with
  | false=>exact hf hc
  | true=>rw[he,hc]at hC; exact hC
 unfold Lk at h;split at h
 ·rename_i J;have J:=iD r J;split at h
  ·rename_i t x y D;split at h
   ·rename_i st1 C hs;cases h;refine G hs rfl (fun hc=>?_) J;unfold jY at hs;rw[D]at hs hc;simp only at hs;split at hs
    ·rename_i i p q hi hp hq;simp only[isC,hp]at hc;unfold vU at hs;grind
    ·cases hs
   ·cases h
  ·rename_i e D;split at h
   ·rename_i st1 C hs;cases h;refine G hs rfl (fun hc=>?_) J;obtain⟨dst,op,ty,M,Q,gd⟩:=o;subst D;unfold jY at hs;grind
   ·cases h
  ·rename_i e x D;split at h
   ·rename_i st1 C hs;cases h;refine G hs rfl (fun hc=>?_) J;obtain⟨dst,op,ty,M,Q,gd⟩:=o;subst D;unfold jY at hs;grind
   ·cases h
  ·rename_i t len parts D;split at h
   ·rename_i st1 C hs;cases h;refine G hs rfl (fun hc=>?_) J;obtain⟨dst,op,ty,M,Q,gd⟩:=o;subst D;unfold jY at hs;simp only at hs;split at hs
    all_goals try (simp_all; done)
    repeat' (first | (cases hs; trivial) | (cases hs; done) | split at hs)
   ·cases h
  ·rename_i t rs D;split at h
   ·rename_i st1 C hs;cases h;refine G hs rfl (fun hc=>?_) J;obtain⟨dst,op,ty,M,Q,gd⟩:=o;subst D;unfold jY at hs;simp only at hs;split at hs
    all_goals grind
   ·cases h
  ·rename_i t x k v D;split at h
   ·rename_i st1 C hs;cases h;refine G hs rfl (fun hc=>?_) J;obtain⟨dst,op,ty,M,Q,gd⟩:=o;subst D;unfold jY at hs;grind
   ·cases h
  ·rename_i args ats D;split at h
   ·rename_i st1 C hs;cases h;exact G hs rfl (fun hc=>by rw[D]at hc; simp[isC]at hc) J
   ·cases h
  ·split at h
   ·rename_i x C d hp hd;split at h
    ·rename_i hlt;cases h;have hc:C:=by
      cases hc:isC st o.op with
      | false=>exact aKY hp hc
      | true=>rw[hc]at hC; exact hC
     obtain⟨v,h1,h2⟩:=aHY Z.ti r o hp hc;rw[aA J];unfold Oper.wp;rw[h1];refine hk _ _ ?_;rw[hd];exact⟨F,g,r.put (by rw[Z.nt]; simp_all) h2⟩
    ·cases h
   ·cases h
 ·rename_i J;have J:=iD r J;rw[aF (by rw[J]; simp)];split at h
  ·rename_i d hd;split at h
   ·rename_i hlt;cases h;refine hk _ _ ?_;rw[hd];exact⟨F,g,r.put (by rw[Z.nt]; simp_all) (.tup rfl (fun j x v hx=>by simp at hx))⟩
   ·cases h
  ·rename_i hd;cases h;refine hk _ _ ?_;rw[hd];exact⟨F,g,r⟩
 ·cases h
theorem aIA(J:gN P E I){ops:Array Oper}{o:Oper}(h:Lk I ops.toList o st=some (st',Cs))(M:All Cs){a:Act}{w:World}(r:Rel E st a w) 
  {rest:List Oper}(hk:∀ a' w',Rel E st' a' w'->wpList P ops Q' rest a' w'):wpList P ops Q' (o::rest) a w:=
 wpList_step fun _ G=>aHO J h M r fun a' w' D=>G _ _ (hk a' w' D)
def Le(E:Env)(s t:St):Prop:=∀ a w,Rel E s a w->Rel E t a w
theorem Le.refl{s:St}:Le E s s:=fun _ _ h=>h
theorem Le.trans{s t u:St}(h:Le E s t)(D:Le E t u):Le E s u:=fun a w r=>D a w (h a w r)
theorem Le.keep{s t:St}{ts os:List Nat}(h:s.keep ts os=some t):Le E s t:=fun _ _ r=>r.keep h
theorem aLK{ops:List Oper}(h:Q .normal st):fG P E ops Q [] st:=fun _ _ r=>⟨st,h,r⟩
theorem gH{ops:List Oper}{l:List Oper}(h:Le E st st')(hk:fG P E ops Q l st'):fG P E ops Q l st:=fun a w r=>hk a w (h a w r)
theorem xP{c:Code}(h:Le E st st')(hk:pwp P E c Q st'):pwp P E c Q st:=fun a w r=>hk a w (h a w r)
theorem Un{l:List Oper}(h:fG P E l Q l st):pwp P E (.region id l.toArray false) Q st:=fun a w r=>wp_region_lit (h a w r)
def Hd(P:Program)(E:Env)(y:Code)(Q:iK):iK:=fun e s=>match e with | .normal=>pwp P E y Q s | e=>Q e s
theorem aVE{x:Code}(h:pwp P E x (Hd P E y Q) st):pwp P E (.seq x y) Q st:=by
 intro a w r;refine wp_seq (wp_mono (h a w r) fun e G D ⟨s,hs,hr⟩=>?_);cases e with
 | normal=>exact hs G D hr
 | _=>exact⟨s,hs,hr⟩
theorem aHC(h:Q .normal st):pwp P E .skip Q st:=fun _ _ r=>wp_skip ⟨st,h,r⟩
theorem aGI(h:Q (.exit id) st):pwp P E (.exit id) Q st:=fun _ _ r=>wp_exit ⟨st,h,r⟩
theorem aSN(h:Q .ret st):pwp P E .ret Q st:=fun _ _ r=>wp_ret ⟨st,h,r⟩
theorem Gx{c:Operand}{x:Code}{b:Bool}(hc:ev st c=some (.t (.bool b)))(h1:b=true->pwp P E x Q st)(h2:b=false->pwp P E y Q st):pwp P E (.cond c x y) Q st:=by intro a w r;obtain⟨F,g,D⟩:=id r;have hv:=(bT D hc).inv_bool;exact wp_cond_split hv (fun e=>h1 e a w r) (fun e=>h2 e a w r)
def nC(id:Nat)(Q:iK):iK:=fun e s=>match e with | .exit id'=>if id'=id then Q .normal s else Q (.exit id') s | e=>Q e s
theorem aDL{c:Code}(h:pwp P E c (nC id Q) st):pwp P E (.block id c) Q st:=by
 intro a w r;refine wp_block (wp_mono (h a w r) fun e G D ⟨s,hs,hr⟩=>?_);cases e with
 | exit id'=>
  simp only[nC]at hs;simp only[Exit.inBlock];split
  ·rename_i e; rw[aA e]at hs; exact⟨s,hs,hr⟩
  ·rename_i e; rw[aF e]at hs; exact⟨s,hs,hr⟩
 | _=>exact⟨s,hs,hr⟩
theorem bCO{s:St}(h:pwp P E y Q s):Hd P E y Q .normal s:=h
theorem aLZ{s:St}(h:Q .ret s):Hd P E y Q .ret s:=h
theorem aEE{s:St}(h:Q (.exit i) s):Hd P E y Q (.exit i) s:=h
theorem bEP{s:St}(h:Q .normal s):nC id Q .normal s:=h
theorem aTW{s:St}(h:Q .ret s):nC id Q .ret s:=h
theorem aRQ{s:St}(h:Q .normal s):nC id Q (.exit id) s:=by simpa[nC] using h
theorem aII{D:Nat}{s:St}(hn:D≠id)(h:Q (.exit D) s):nC id Q (.exit D) s:=by simpa[nC,hn] using h
attribute [irreducible] Hd nC
def nA{S R:Type}(body:S->Option (S⊕R)):Nat->S->Option R
 | 0,_=>none
 | n+1,s=>match body s with
  | none=>none
  | some (.inl s')=>nA body n s'
  | some (.inr r)=>some r
end
def Own(g:Nat->Value)(w:World)(H:Hp)(b:Nat):Prop:=∃ o x,(o,x)∈H/\bC g w o x b
def gX(P:Program)(k:FuncId)(args:List PV)(H:Hp)(N:List Nat)(Q:PV->Hp->Prop):Prop:=
 ∀ (F:Nat->Prop) (g:Nat->Value) (w:World) (vs:Array Value),vs.size=args.length->(∀ (j:Nat) x v,args[j]? = some x->vs[j]? = some v->VR F g w x v) ->
  HpR F g w (fun _=>True) H->(∀ b,F b->b<w.heap.size)->GLP P F w ->
  Calls P k vs w fun e w'=>∃ v r H' F' g',e = .returned v/\Q r H'/\VR F' g' w' r v/\Jj { w0:=w,F0:=F,B0:=Own g w H,g0:=g,N:=N,nt:=0 } F' g' H' w'
def kH:List PV->Nat->Fr
 | [],_=>[]
 | x::l,k=>(k,x)::kH l (k+1)
theorem Fy:∀ {l:List PV} {k t:Nat} {x:PV},(t,x)∈kH l k->∃ j,t=k+j/\l[j]? = some x
 | [],k,t,x,h=>by simp[kH]at h
 | y::l,k,t,x,h=>by
  simp only[kH,bE,gE]at h;rcases h with⟨rfl,rfl⟩ | h
  ·simp_all
  ·obtain⟨j,h1,h2⟩:=Fy h;exact⟨j+1,by omega,by simp_all⟩
def Vm(I:Inf)(st:St):ResultVar->Option PV
 | .tmp t=>look st.fr t
 | .cell a t=>match look st.fr a,I.ti t with
  | some (.ptr o off),some i=>match look st.hp o with
   | some (.box l)=>jA i (l.drop off)
   | _=>none
  | _,_=>none
def Ah(I:Inf)(st:St):List ResultVar->Option (List PV)
 | []=>some []
 | x::l=>match Vm I st x,Ah I st l with
  | some p,some r=>some (p::r)
  | _,_=>none
def aGK(I:Inf)(rs:List ResultVar)(st:St):Option PV:=
 match Ah I st rs with
 | some [p]=>some p
 | some l=>some (.tup l)
 | none=>none
def mS(hp:Hp):List Nat->Option Hp
 | []=>some []
 | o::l=>match look hp o,mS hp l with | some x,some r=>some ((o,x)::r) | _,_=>none
theorem pS{hp:Hp}:∀ {l:List Nat} {r:Hp},mS hp l=some r->(∀ e,e∈r->e∈hp/\e.1∈l)
 | [],r,h=>by simp[mS]at h; subst h; simp
 | o::l,r,h=>by
  simp only[mS]at h;split at h
  ·rename_i x r' hx hr;cases h;intro e he;rcases bE.1 he with rfl | he
   ·exact⟨aX hx,by simp⟩
   ·obtain⟨h1,h2⟩:=pS hr e he;simp_all
  ·cases h
def bFJ(I:Inf)(rs:List ResultVar)(Q:PV->Hp->Prop):iK:=fun e st=>(e = .normal\/e = .ret)/\∃ r L H,aGK I rs st=some r/\mS st.hp L=some H/\Q r H
def aFN(tmps:Array Value):ResultVar->Sem Value
 | .tmp t=>pure (tmps.getD t undef)
 | .cell a t=>do loadVar t (<-asAddr (tmps.getD a undef))
theorem Wc(fn:Func)(tmps:Array Value):results fn tmps=(do let vs <-fn.results.mapM (aFN tmps); pure (if h:vs.size=1 then vs[0] else .tuple vs):Sem Value):=by rfl
section
variable {P:Program} {I:Inf}
theorem aDH(J:mP P I.ti){E:Env}{F:Nat->Prop}{g:Nat->Value}{st:St}{a:Act}{w:World}(r:cG E F g st a w){x:ResultVar}{p:PV}(h:Vm I st x=some p):
  ∃ v,(aFN a.tmps x).run P w = .ok v w/\VR F g w p v:=by
 cases x with
 | tmp t=>exact⟨_,by rfl,r.fr _ _ (aX h)⟩
 | cell b t=>
  simp only[Vm]at h;split at h
  ·rename_i o off i hb hi;split at h
   ·rename_i l hl;have hv:=r.fr _ _ (aX hb);obtain⟨u,G⟩:∃ u,a.tmps.getD b undef=u:=⟨_,rfl⟩;rw[G]at hv;obtain⟨z,D,hr⟩:=Sr (P:=P) r (J _ _ hi) (p:=.ptr o off) (x:=p) (C:=True) (by simp[Bs,hl,h]) trivial hv;cases hv with
    | ptr e=>refine⟨z,?_,hr⟩;simp only[Instr.loadAt,Instr.sureAddr,Sem.run_bind,Sem.run_pure,Result.andThen_ok]at D;simp only[aFN,G];simpa[asAddr] using D
   ·cases h
  ·cases h
theorem Ki(hI:mP P I.ti){E:Env}{F:Nat->Prop}{g:Nat->Value}{st:St}{a:Act}{w:World}(r:cG E F g st a w):∀ (rs:List ResultVar) (ps:List PV),Ah I st rs=some ps ->
  ∃ vs:List Value,(rs.mapM (aFN a.tmps)).run P w = .ok vs w/\vs.length=ps.length /\
   ∀ (j:Nat) x v,ps[j]? = some x->vs[j]? = some v->VR F g w x v
 | [],ps,h=>by simp[Ah]at h; simp_all
 | x::rs,ps,h=>by
  simp only[Ah]at h;split at h
  ·rename_i p q hp hq;cases h;obtain⟨v,h1,h2⟩:=aDH hI r hp;obtain⟨vs,h3,h4,h5⟩:=Ki hI r rs q hq;refine⟨v::vs,?_,by simp[h4],fun j y u hy hu=>?_⟩
   ·simp_all
   grind
  ·cases h
theorem aSL(J:mP P I.ti){E:Env}{F:Nat->Prop}{g:Nat->Value}{st:St}{a:Act}{w:World}(r:cG E F g st a w){p:PV}(h:aGK I fn.results.toList st=some p):
  ∃ v,(results fn a.tmps).run P w = .ok v w/\VR F g w p v:=by
 unfold aGK at h;cases hr:Ah I st fn.results.toList with
 | none=>simp_all
 | some ps=>
  obtain⟨vs,h1,h2,h3⟩:=Ki J r _ _ hr;have hm:(fn.results.mapM (aFN a.tmps)).run P w = .ok vs.toArray w:=by rw[Array.mapM_eq_mapM_toList];simp_all
  rw[Wc,Sem.run_bind,hm];simp only[Result.andThen_ok,Sem.run_pure];rw[hr]at h;split at h
  ·rename_i q G;cases G;cases h;have hl:vs.length=1:=by omega
   obtain⟨v,rfl⟩:=Kw.1 hl;exact⟨v,by simp,h3 0 p v (by simp) (by simp)⟩
  ·rename_i l M hl;cases hl;cases h;have:vs.length≠1:=by intro D;rw[h2]at D;obtain⟨q,G⟩:=Kw.1 D;simp_all
   refine⟨.tuple vs.toArray,?_,.tup (by omega) fun j x v hx hv=>h3 j x v hx (by simp_all)⟩;rw[dif_neg (by omega)]
  ·cases h
theorem aJB{k:FuncId}{c:Code}{args:List PV}{Q:PV->Hp->Prop}(hf:P.funcs[k]? = some fn)(hb:fn.body=some c)(hI:mP P I.ti)(hnt:fn.ntmps=I.nt)
  (hl:args.length<=I.nt)(h:∀ E,gN P E I->pwp P E c (bFJ I fn.results.toList Q) ⟨kH args 0,H⟩):gX P k args H I.N Q:=by
 intro F g w vs hs Z hH hF hgl;refine calls_of_wp hf hb ?_;have hG:gN P { w0:=w,F0:=F,B0:=Own g w H,g0:=g,N:=I.N,nt:=I.nt } I:=⟨hI,rfl,rfl,hgl,fun b hb=>⟨fun⟨o,x,h1,h2⟩=>(hH.own o x b h1 h2).1 hb,hF b hb⟩⟩;refine wp_mono (h _ hG _ _ ⟨F,g,?_,rfl,?_,⟨⟨hH.obj,fun o x b hx hb=>⟨(hH.own o x b hx hb).1,.inl ⟨o,x,hx,hb⟩⟩,hH.sep⟩,fun _ h=>h,fun b hb=>⟨hF b hb,.inl hb⟩,
  ⟨rfl,rfl,rfl,cM _,fun _ _ _=>rfl⟩,fun _ _=>rfl,fun b ⟨o,x,hx,hb⟩=>hb.block (hH.obj o x hx)⟩⟩) ?_
 ·simp_all
 ·intro t x hx;obtain⟨j,rfl,hj⟩:=Fy hx;have hlt:j<vs.size:=by grind
  have:(vs++Array.replicate (fn.ntmps-vs.size) undef).getD (0+j) undef=vs[j]:=by simp[Array.getD,hlt,Array.getElem_append_left];omega
  rw[this];exact Z j x vs[j] hj (by simp[hlt])
 ·rintro e a' G ⟨st,⟨he,r,L,H1,hr,hL,hq⟩,M,J,D⟩;obtain⟨v,hv1,hv2⟩:=aSL hI D hr;have:a'.defers=[]/\∃ v,(results fn a'.tmps).run P G = .ok v G/\(fun (e:Ending) G=>∃ v r H' M J,e = .returned v/\Q r H'/\VR M J G r v/\Jj { w0:=w,F0:=F,B0:=Own g w H,g0:=g,N:=I.N,nt:=0 } M J H' G) (.returned v) G:=
   ⟨D.df,v,hv1,v,r,H1,M,J,rfl,hq,hv2,⟨D.w.hp.sub fun e he=>(pS hL e he).1,D.w.f0,D.w.f1,D.w.ext,D.w.names,D.w.b0⟩⟩
  rcases he with rfl | rfl
  ·exact this
  ·exact this
theorem gX.mono{k:FuncId}{args:List PV}{H:Hp}{N:List Nat}{Q Q':PV->Hp->Prop}(h:gX P k args H N Q)(D:∀ r H',Q r H'->Q' r H'):gX P k args H N Q':=by intro F g w vs h1 h2 h3 h4 G;exact(h F g w vs h1 h2 h3 h4 G).mono fun e Z ⟨v,r,H',M,J,a,b,c,d⟩=>⟨v,r,H',M,J,a,D _ _ b,c,d⟩
end
inductive Vk (st:St)(L:List Nat):PV->PV->Prop
 | same (p:PV):Vk st L p p
 | nil {x:T} {f:Nat->List T} (h:x.view=some (0,f)):Vk st L .nil (.t x)
 | imp {p q:PV} (h:∀ F g w v,VR F g w p v->VR F g w q v):Vk st L p q
 | lend {o:Nat} {e:TypeId} {s n:Nat} {f:Nat->List T} {x:T} (ho:o∈L) (h:look st.hp o=some (.arr e s n f)) (hx:x.view=some (n,f)):Vk st L (.own o) (.t x)
inductive lK (st:St)(L:List Nat):List PV->List PV->Prop
 | nil:lK st L [] []
 | cons {p q:PV} {l r:List PV} (h:Vk st L p q) (t:lK st L l r):lK st L (p::l) (q::r)
theorem lK.get{st:St}{L:List Nat}{l r:List PV}(h:lK st L l r):r.length=l.length/\∀ (j:Nat) q,r[j]? = some q->∃ p,l[j]? = some p/\Vk st L p q:=by
 induction h with
 | nil=>simp
 | cons h _ ih=>grind
def T.scalar:T->Bool
 | .int ..=>true | .bool _=>true | .str _=>true | _=>false
def PV.scalar:PV->Bool
 | .t x=>x.scalar
 | .tup l=>go l
 | _=>false
where go:List PV->Bool
 | []=>true
 | .t x::l=>x.scalar&&go l
 | _::_=>false
def PV.pure(p:PV):Bool:=match p.names with | []=>true | _=>false
theorem aCY{l:List PV}(h:PV.scalar.go l=true):∀ x,x∈l->∃ y,x = .t y/\y.scalar=true:=by
 induction l with
 | nil=>simp
 | cons x l ih=>
  cases x <;> simp[PV.scalar.go]at h
  simp_all
section
variable {F F':Nat->Prop} {g g':Nat->Value} {w:World}
theorem VR.pure_g{p:PV}(h:VR F g w p v)(hp:p.pure=true)(g':Nat->Value):VR F g' w p v:=by refine h.mono (fun b hb=>⟨hb,rfl⟩) fun o ho=>?_;unfold PV.pure at hp;grind
theorem Rd.scalar_F{x:T}(h:Rd F w x v)(hx:x.scalar=true)(F':Nat->Prop)(w':World):Rd F' w' x v:=by
 cases x <;> simp[T.scalar]at hx
 ·rw[h.inv_int]; exact .int _ _
 ·rw[h.inv_bool]; exact .bool _
 ·rw[h.inv_str]; exact .str _
theorem VR.scalar_F{p:PV}{v:Value}(h:VR F g w p v)(hp:p.scalar=true)(F':Nat->Prop)(g':Nat->Value):VR F' g' w p v:=by
 cases p <;> simp[PV.scalar]at hp
 case t=>exact .t ((h.cells_t rfl).scalar_F hp _ _)
 case tup l=>
  cases h with
  | tup hs hr=>refine .tup hs fun j x v hx hv=>?_;obtain⟨y,rfl,hy⟩:=aCY hp x (lL hx);exact .t (((hr j _ v hx hv).cells_t rfl).scalar_F hy _ _)
theorem Fl{f:Nat->List T}(ho:dA F g w o (.arr e s n f))(hF:∀ b,F b->F' b)(hb:∀ b,blk (g o)=some b->F' b){x:T}(hx:x.view=some (n,f)):
  Rd F' w x (g o):=by
 rcases ho with⟨h1,h2⟩ | ⟨b,cap,cur,h1,h2,h3,h4,Q,J,G⟩
 ·rw[h1]; subst h2; exact .nil hx
 ·rw[h1];refine .sl ⟨b,0,none⟩ cap s (fun i j=>(cur[i*s+j]?).getD undef) hx h3 (fun _=>hb b (by rw[h1]; rfl)) J (fun i j hi M=>?_) (fun i j x hi hx=>?_)
  ·have D:j<(f i).length:=by simp_all
   obtain⟨v,hv,_⟩:=G i j _ hi (iE D);rw[Addr.add_none];simp[World.cell?,h2,hv]
  ·obtain⟨v,hv,hr⟩:=G i j x hi hx;simp only[hv,sH];exact hr.mono fun b hb=>⟨hF b hb,rfl⟩
end
def Ut(g:Nat->Value)(L:List Nat)(b:Nat):Prop:=∃ o,o∈L/\blk (g o)=some b
def Vx(N:List Nat)(b j o:Nat)(e:TypeId)(s:Nat)(f:Nat->List T)(st:St):Option St:=
 match qG o N,Nat.beq b o,st.erase o with
 | true,false,some st1=>match look st1.hp b with
  | some (.box l)=>match l[j]? with
   | some .nil=>some { fr:=st1.fr,hp:=(o,.arr e s 0 f)::(b,.box (l.set j (.own o)))::del b st1.hp }
   | _=>none
  | _=>none
 | _,_,_=>none
structure iC (P:Program)(k:FuncId):Prop where
 h:∃ fn,P.funcs[k]? = some fn/\fn.body.isNone=false/\(fn.name == "runtime.NumGoroutine")=false
theorem zB{P:Program}{k:FuncId}(h:iC P k)(args:Array Value)(w:World):(callFunc k args).run P w = .ok (.enter k args) w:=by
 obtain⟨fn,h1,h2,h3⟩:=h.h;have h2':¬ fn.body=none:=by grind
 have h3':¬ fn.name = "runtime.NumGoroutine" := by simp_all
 simp[callFunc,program,Sem.run,h1,h2',h3']
section
variable {P:Program} {E:Env} {I:Inf} {Q:iK} {st:St}
theorem aCB(hG:gN P E I){ops:List Oper}{o:Oper}{G aps bps:List PV}{Qc:PV->Hp->Prop}(L:List Nat)
  (hop:o.op = .call c)(hcal:c.callee = .value f)(hd:o.dst=some d)(hw:cC ops o st=some true)(hnt:Nat.blt d I.nt=true)
  (hf:ev st f=some (.fn (.func k) nf G))(hargs:iZ st c.args.toList=some aps)(hk:iC P k)(has:lK st L (G.take nf++aps++G.drop nf) bps)(hcall:gX P k bps [] [] Qc)
  {K:Act->World->Prop}{a:Act}{w:World}(r:Rel E st a w)
  (hres:∀ r H',Qc r H'->(match L with | []=>r.pure | _=>r.scalar)=true/\∀ a' w',Rel E (st.put d r) a' w'->K a' w'):
  if Region.wanted o (yielded ops.toArray a.tmps) then o.wp P a w K Q' else K (a.put o.dst undef) w:=by
 obtain⟨F,g,r⟩:=r;have hwt:=iD (ops:=ops.toArray) r (by simpa using hw);obtain⟨hl1,hr1⟩:=uW r _ _ hargs;have hfv:=bT r hf;obtain⟨fv,hfe⟩:∃ u,a.eval f=u:=⟨_,rfl⟩;rw[hfe]at hfv;cases hfv with
 | @fn _ _ _ us vs hn hs hr=>
  subst hn;have hmem:∀ b,Ut g L b->∃ o,o∈L/\blk (g o)=some b:=fun b h=>h;rw[aA hwt];unfold Oper.wp;have hrun:(execOp a.eval o).run P w = .ok (.enter k (us++(c.args.map a.eval)++vs)) w:=by unfold execOp;simp[hop,resolve,hcal,hfe,Deferred.ofValue,invoke,zB hk]
  rw[hrun];have hF':∀ b,(F b\/Ut g (L.filter fun o=>(look st.hp o).isSome) b)->b<w.heap.size:=by
   rintro b (h | ⟨o,ho,hb⟩)
   ·exact(r.w.f1 b h).1
   ·simp only[iQ]at ho;obtain⟨x,hx⟩:=Cc.1 ho.2;exact(r.w.hp.obj o x (aX hx)).block hb
  have hcallW:=hcall (fun b=>F b\/Ut g (L.filter fun o=>(look st.hp o).isSome) b) g w (us++c.args.map a.eval++vs) (by
    have:=has.get.1;grind) (fun j q v hq hv=>by
    obtain⟨p,hp,hpq⟩:=has.get.2 j q hq;have Z:VR F g w p v:=by
     have h2:c.args.size=aps.length:=by simp_all
     have hus:us.size<=G.length:=by grind
     have htk:(G.take us.size).length=us.size:=by simp; omega
     by_cases hi:j<us.size
     all_goals grind
    cases hpq with
    | same=>exact Z.mono (fun b hb=>⟨.inl hb,rfl⟩) (fun _ _=>rfl)
    | nil hx=>cases Z; exact .t (.nil hx)
    | imp h=>exact(h _ _ _ _ Z).mono (fun b hb=>⟨.inl hb,rfl⟩) (fun _ _=>rfl)
    | @lend o e s n f x ho hl hx=>
     refine .t ?_;have hob:=r.w.hp.obj _ _ (aX hl);have:=Fl (F':=fun b=>F b\/Ut g (L.filter fun o=>(look st.hp o).isSome) b) hob (fun b hb=>.inl hb) (fun b hb=>.inr ⟨o,by simp[ho,hl],hb⟩) hx;cases Z with
     | own hg=>simp_all) ⟨by simp,by simp,by simp⟩ hF' ((hG.glw r.w).mono fun b hb=>⟨.inl hb,rfl⟩)
  simp only[Oper.upon];refine hcallW.mono ?_;rintro e w' ⟨v,res,H',F',g',rfl,hQ,hv,hW⟩;obtain⟨Q,hgo⟩:=hres res H' hQ;refine hgo _ _ ?_;rw[hd];have D:=hW.ext;have J:∀ b,b<w.heap.size->w'.heap[b]? = w.heap[b]?:=fun b hb=>D.block b hb (by rintro⟨o,x,hx,_⟩; simp at hx);have hFF:∀ b,F b->(F' b/\¬ Ut g (L.filter fun o=>(look st.hp o).isSome) b)/\w'.heap[b]? = w.heap[b]?:=fun b hb=>⟨⟨hW.f0 b (.inl hb),by rintro⟨o,ho,hb'⟩;simp only[iQ]at ho;obtain⟨x,hx⟩:=Cc.1 ho.2;exact(r.w.hp.own o x b (aX hx) (.self hb')).1 hb⟩,J b (r.w.f1 b hb).1⟩;have hd':d<E.nt:=by rw[hG.nt]; simp_all
  have hvF:VR (fun b=>F' b/\¬ Ut g (L.filter fun o=>(look st.hp o).isSome) b) g w' res v:=by
   cases L with
   | nil=>exact(hv.pure_g Q g).mono (fun b hb=>⟨⟨hb,by simp_all⟩,rfl⟩) (fun _ _=>rfl)
   | cons o L=>exact hv.scalar_F Q _ _
  have M:∀ o x b,(o,x)∈st.hp->bC g w' o x b->bC g w o x b:=fun o x b hx hb=>hb.mono rfl (fun _ _=>rfl) (fun c hc=>J c ((r.w.hp.obj o x hx).block hc));refine⟨fun b=>F' b/\¬ Ut g (L.filter fun o=>(look st.hp o).isSome) b,g,(r.putW (st':=st) hd' hFF (fun t y hy=>⟨hy,fun _ _=>rfl⟩) ?_ hvF)⟩;refine⟨⟨fun o x hx=>?_,fun o x b hx hb=>⟨?_,(r.w.hp.own o x b hx (M o x b hx hb)).2⟩,fun o x o' y b hx hy hne hb hb'=>r.w.hp.sep o x o' y b hx hy hne (M o x b hx hb) (M o' y b hy hb')⟩,fun b hb=>(hFF b (r.w.f0 b hb)).1,fun b hb=>⟨(hW.f1 b hb.1).1,?_⟩,
   r.w.ext.trans D.os D.tape D.output D.size (fun b hb _=>J b (by have:=r.w.ext.size; omega)),r.w.names,r.w.b0⟩
  ·exact(r.w.hp.obj o x hx).mono hFF rfl (fun _ _=>rfl) (fun b hb=>J b (hb.block (r.w.hp.obj o x hx)))
  ·rintro⟨h1,h2⟩;rcases (hW.f1 b h1).2 with h | h | h
   ·rcases h with h | h
    ·exact(r.w.hp.own o x b hx (M o x b hx hb)).1 h
    ·exact h2 h
   ·obtain⟨o',x',hx',_⟩:=h; simp at hx'
   ·have:b<w.heap.size:=(M o x b hx hb).block (r.w.hp.obj o x hx);grind
  ·rcases (hW.f1 b hb.1).2 with h | h | h
   ·rcases h with h | h
    ·exact(r.w.f1 b h).2
    simp_all
   ·obtain⟨o',x',hx',_⟩:=h; simp at hx'
   ·have h:w.heap.size<=b:=h;exact .inr (.inr (fW r.w.ext.size h))
theorem aDK(hG:gN P E I){ops l:List Oper}{o:Oper}{rest:List Oper}{D Z bps:List PV}{Qc:PV->Hp->Prop}(L:List Nat)
  (hl:l=o::rest)(hop:o.op = .call c)(hcal:c.callee = .value f)(hd:o.dst=some d)(hw:cC ops o st=some true)(hnt:Nat.blt d I.nt=true)
  (hf:ev st f=some (.fn (.func k) nf D))(M:iZ st c.args.toList=some Z)(hk:iC P k)(has:lK st L (D.take nf++Z++D.drop nf) bps)(J:gX P k bps [] [] Qc)
  (G:∀ r H',Qc r H'->(match L with | []=>r.pure | _=>r.scalar)=true/\fG P E ops Q rest (st.put d r)):fG P E ops Q l st:=by
 subst hl;intro a w r;refine wpList_step fun K hK=>aCB hG L hop hcal hd hw hnt hf M hk has J r fun r H' hq=>⟨(G r H' hq).1,fun a' w' r'=>hK _ _ ((G r H' hq).2 a' w' r')⟩
def PV.fz(p:PV)(o:Nat)(q:PV):PV:=match p with | .own k=>(match Nat.beq k o with | true=>q | false=>.own k) | p=>p
def bFU(o:Nat)(q:PV):Option (Nat×Nat×PV)->Option (Nat×Nat×PV)
 | some (i,j,p)=>some (i,j,p.fz o q)
 | none=>none
def aMB(o:Nat)(q:PV)(x:bA):bA:=match x with | .box l=>.box (l.map fun p=>p.fz o q) | .arm e s n f ov=>.arm e s n f (bFU o q ov) | x=>x
theorem PV.fz_ok{F F':Nat->Prop}{g:Nat->Value}{w:World}{q:PV}(hF:∀ b,F b->F' b)(G:VR F' g w q (g o)){p:PV}(h:VR F g w p v):VR F' g w (p.fz o q) v:=by
 have D:VR F' g w p v:=h.mono (fun b hb=>⟨hF b hb,rfl⟩) (fun _ _=>rfl);unfold PV.fz;split
 ·rename_i k;split
  ·rename_i hk;have hk:=bS hk;subst hk;cases D with
   | own e=>simp_all
  omega
 omega
theorem Tm{F F':Nat->Prop}{g:Nat->Value}{w:World}{t:Nat}{q:PV}(hF:∀ b,F b->F' b)(G:VR F' g w q (g o)){x:bA}(h:dA F g w t x):dA F' g w t (aMB o q x):=by
 cases x with
 | box l=>obtain⟨b,vs,ty,h1,h2,h3,h4⟩:=h;refine⟨b,vs,ty,h1,h2,by simp[h3],fun j y v hy hv=>?_⟩;simp only[gQ,kC]at hy;obtain⟨z,Z,rfl⟩:=hy;exact PV.fz_ok hF G (h4 j z v Z hv)
 | arr e s n f=>exact h.mono (fun b hb=>⟨hF b hb,rfl⟩) rfl (fun _ _=>rfl) (fun _ _=>rfl)
 | mpb n m=>exact h.mono (fun b hb=>⟨hF b hb,rfl⟩) rfl (fun _ _=>rfl) (fun _ _=>rfl)
 | mp it m ho=>exact h.mono (fun b hb=>⟨hF b hb,rfl⟩) rfl (fun _ _=>rfl) (fun _ _=>rfl)
 | bld ty e s=>exact h.mono (fun b hb=>⟨hF b hb,rfl⟩) rfl (fun _ _=>rfl) (fun _ _=>rfl)
 | arm e s n f ov=>
  rcases h with⟨h1,h2,h3⟩ | ⟨b,cap,cur,h1,h2,h3,h4,h5,D⟩
  ·subst h3; exact .inl ⟨h1,h2,rfl⟩
  ·refine .inr ⟨b,cap,cur,h1,h2,h3,h4,h5,D.len,fun i j x hi hx=>?_,D.sep,D.own,fun i j p e=>?_⟩
   ·obtain⟨v,hv,hR⟩:=D.cell i j x hi hx;exact⟨v,hv,hR.mono (fun b hb=>⟨hF b hb,rfl⟩) (fun _ _ _=>rfl)⟩
   ·rcases ov with _ | ⟨i',j',p'⟩
    ·cases e
    ·simp only[bFU,gJ,gE]at e;obtain⟨rfl,rfl,rfl⟩:=e;obtain⟨Q,M,J⟩:=D.ov _ _ _ rfl;exact⟨Q,M,fun v hv=>PV.fz_ok hF G (J v hv)⟩
theorem kV{g:Nat->Value}{w:World}{t:Nat}{q:PV}{x:bA}{b:Nat}(h:bC g w t (aMB o q x) b):bC g w t x b:=by
 cases x with
 | box l=>exact .self (h.toBlk rfl)
 | arm e s n f ov=>
  cases h with
  | self h=>exact .self h
  | arm h1 h2 h3 h4 h5 h6 h7=>exact .arm h1 h2 h3 h4 h5 h6 h7
 | _=>exact h
def qN(o:Nat)(x:T)(st:St):Option St:=
 ({ fr:=st.fr.map fun e=>(e.1,e.2.fz o (.t x)),hp:=(del o st.hp).map fun e=>(e.1,aMB o (.t x) e.2) }:St).erase o
theorem Rel.freeze{x:T}{f:Nat->List T}{st':St}(hl:look st.hp o=some (.arr e s n f))(hx:x.view=some (n,f))(h:qN o x st=some st'){a:Act}{w:World}(r:Rel E st a w):Rel E st' a w:=by
 obtain⟨F,g,r⟩:=r;unfold qN at h
 ·have M:=aX hl;have Z:=r.w.hp.obj _ _ M;have hq:VR (fun b=>F b\/blk (g o)=some b) g w (.t x) (g o):=.t (Fl Z (fun b hb=>.inl hb) (fun b hb=>.inr hb) hx);have hF:∀ b,F b->(F b\/blk (g o)=some b):=fun b hb=>.inl hb;have hfr:=St.erase_fr h;have D:=St.erase_hp h;refine⟨fun b=>F b\/blk (g o)=some b,g,r.nt,r.df,fun t x' hx'=>?_,⟨⟨fun k y hy=>?_,fun k y b hy hb=>?_,fun k y G y' b hy hy' hne hb hb'=>?_⟩,fun b hb=>.inl (r.w.f0 b hb),fun b hb=>?_,r.w.ext,r.w.names,r.w.b0⟩⟩
  ·obtain⟨h1,_⟩:=hfr t x' hx';simp only[cU,gE]at h1;obtain⟨⟨t',y⟩,hy,rfl,rfl⟩:=h1;exact PV.fz_ok hF hq (r.fr t' y hy)
  ·obtain⟨x,h1,_,_,h4,_⟩:=D k y hy;simp only[cU,gE]at h1;obtain⟨⟨G,z⟩,Q,rfl,rfl⟩:=h1;exact h4 _ _ _ (Tm hF hq (r.w.hp.obj G z (bB.1 Q).1))
  ·obtain⟨x,h1,h2,_,_,h5⟩:=D k y hy;simp only[cU,gE]at h1;obtain⟨⟨G,z⟩,Q,rfl,rfl⟩:=h1;obtain⟨J,hz2⟩:=bB.1 Q;have hb:=kV (h5 _ _ _ hb);refine⟨?_,(r.w.hp.own G z b J hb).2⟩;rintro (h | h)
   ·exact(r.w.hp.own G z b J hb).1 h
   ·exact r.w.hp.sep G z o _ b J M hz2 hb (.self h)
  ·obtain⟨x,h1,_,_,_,h5⟩:=D k y hy;obtain⟨x',h1',_,_,_,h5'⟩:=D G y' hy';simp only[cU,gE]at h1 h1';obtain⟨⟨k2,z⟩,Q,rfl,rfl⟩:=h1;obtain⟨⟨k2',z'⟩,hz',rfl,rfl⟩:=h1';exact r.w.hp.sep k2 z k2' z' b (bB.1 Q).1 (bB.1 hz').1 hne (kV (h5 _ _ _ hb)) (kV (h5' _ _ _ hb'))
  ·rcases hb with hb | hb
   ·exact r.w.f1 b hb
   ·have:=(r.w.hp.own o _ b M (.self hb)).2;exact⟨Z.block hb,this.elim (fun h=>.inr (.inl h)) (fun h=>.inr (.inr h))⟩
def Zw(N:List Nat)(t o:Nat)(e:TypeId)(s:Nat)(f:Nat->List T)(st:St):Option St:=
 match look st.fr t,qG o N,st.erase o with
 | some .nil,true,some st1=>some { fr:=(t,.own o)::del t st1.fr,hp:=(o,.arr e s 0 f)::st1.hp }
 | _,_,_=>none
theorem Rel.thaw(J:gN P E I){t:Nat}{f:Nat->List T}{st':St}(h:Zw I.N t o e s f st=some st'){a:Act}{w:World}(r:Rel E st a w):Rel E st' a w:=by
 obtain⟨F,g,r⟩:=r;unfold Zw at h;split at h
 ·rename_i st1 hl hn he;cases h;have D:a.tmps.getD t undef = .slice none 0 0:=by have:=r.fr _ _ (aX hl);generalize a.tmps.getD t undef=u at this;cases this; rfl
  refine⟨F,upd g o (.slice none 0 0),r.nt,r.df,fun G x hx=>?_,⟨HpR.change r.w.hp he (fun k hk=>bP g _ hk) (fun b hb=>⟨hb,rfl⟩) (fun _ h=>h) (fun _ _ _ _ _ _=>rfl) (.inl ⟨bJ ..,rfl⟩)
   (fun b hb=>by have hb:=hb.toBlk rfl; rw[bJ]at hb; simp[blk]at hb) (fun k y b _ _ _ hb=>by have hb:=hb.toBlk rfl; rw[bJ]at hb; simp[blk]at hb),r.w.f0,r.w.f1,r.w.ext,fun k hk=>?_,r.w.b0⟩⟩
  ·rcases bE.1 hx with e | hx
   ·cases e; rw[D]; exact .own (bJ ..)
   ·obtain⟨h1,h2⟩:=St.erase_fr he G x (bB.1 hx).1;exact(r.fr G x h1).mono (fun b hb=>⟨hb,rfl⟩) (fun k hk=>bP g _ (h2 k hk))
  ·rw[bP g _ (fun e:k=o=>eX hn (J.N▸e▸hk))];exact r.w.names k hk
 ·cases h
theorem Rel.thawC(hG:gN P E I){b j:Nat}{f:Nat->List T}{st':St}(h:Vx I.N b j o e s f st=some st'){a:Act}{w:World}(r:Rel E st a w):Rel E st' a w:=by
 obtain⟨F,g,r⟩:=r;unfold Vx at h;split at h
 ·rename_i st1 hn J he;split at h
  ·rename_i l hl;split at h
   ·rename_i hj;cases h;have J:=pB J;have hp:=HpR.change (x:=.arr e s 0 f) (g':=upd g o (.slice none 0 0)) r.w.hp he (fun k hk=>bP g _ hk) (fun b hb=>⟨hb,rfl⟩) (fun _ h=>h) (fun _ _ _ _ _ _=>rfl) (.inl ⟨bJ ..,rfl⟩)
     (fun b hb=>by have hb:=hb.toBlk rfl; rw[bJ]at hb; simp[blk]at hb) (fun k y b _ _ _ hb=>by have hb:=hb.toBlk rfl; rw[bJ]at hb; simp[blk]at hb)
    have M:(b,bA.box l)∈(o,bA.arr e s 0 f)::st1.hp:=cO _ (aX hl);have key:∀ k u,(k,u)∈(o,bA.arr e s 0 f)::(b,bA.box (l.set j (.own o)))::del b st1.hp->∃ G,(k,G)∈(o,bA.arr e s 0 f)::st1.hp/\∀ g w c,bC g w k u c->bC g w k G c:=by
     intro k u hk;rcases bE.1 hk with D | hk
     ·simp_all
     ·rcases bE.1 hk with D | hk
      ·cases D; exact⟨_,M,fun _ _ _ h=>.self (h.toBlk rfl)⟩
      ·exact⟨u,cO _ (bB.1 hk).1,fun _ _ _ h=>h⟩
    refine⟨F,upd g o (.slice none 0 0),r.nt,r.df,fun t' x hx=>?_,⟨⟨fun k u hk=>?_,fun k u Q hk hb=>?_,fun k u k' G Q hk hk' hne hb hb'=>?_⟩,r.w.f0,r.w.f1,r.w.ext,fun k hk=>?_,r.w.b0⟩⟩
    ·obtain⟨h1,h2⟩:=St.erase_fr he t' x hx;exact(r.fr t' x h1).mono (fun b hb=>⟨hb,rfl⟩) (fun k hk=>bP g _ (h2 k hk))
    ·rcases bE.1 hk with D | hk
     ·cases D; exact hp.obj _ _ (cS ..)
     ·rcases bE.1 hk with D | hk
      ·cases D;obtain⟨bb,vs,ty,D,e2,e3,e4⟩:=hp.obj _ _ M;refine⟨bb,vs,ty,D,e2,by simp[e3],fun q y v hy hv=>?_⟩;rw[List.getElem?_set]at hy;split at hy
       ·rename_i hq;subst hq;split at hy
        ·cases hy;have:=e4 j .nil v hj hv;cases this;exact .own (bJ ..)
        ·cases hy
       grind
      ·exact hp.obj _ _ (cO _ (bB.1 hk).1)
    ·obtain⟨G,hu,hf⟩:=key k u hk; exact hp.own k G Q hu (hf _ _ _ hb)
    ·obtain⟨v,hv,hf⟩:=key k u hk; obtain⟨v',Z,hf'⟩:=key k' G hk'; exact hp.sep k v k' v' Q hv Z hne (hf _ _ _ hb) (hf' _ _ _ hb')
    ·rw[bP g _ (fun e:k=o=>eX hn (hG.N▸e▸hk))];exact r.w.names k hk
   ·cases h
  ·cases h
 ·cases h
theorem Le.thawC(D:gN P E I){b j o:Nat}{e:TypeId}{s:Nat}{f:Nat->List T}{st':St}(h:Vx I.N b j o e s f st=some st'):Le E st st':=fun _ _ r=>r.thawC D h
theorem Rel.slot{t:Nat}{p q:PV}(hl:look st.fr t=some p)(D:∀ F g w v,VR F g w p v->VR F g w q v){a:Act}{w:World}(r:Rel E st a w):Rel E { st with fr:=(t,q)::del t st.fr } a w:=by
 obtain⟨F,g,r⟩:=r;refine⟨F,g,r.nt,r.df,fun G x hx=>?_,r.w⟩;rcases bE.1 hx with e | hx
 ·cases e; exact D _ _ _ _ (r.fr _ _ (aX hl))
 ·exact r.fr G x (bB.1 hx).1
theorem Rel.obj{o:Nat}{x y:bA}(hl:look st.hp o=some x)(G:∀ F g w,dA F g w o x->dA F g w o y)(hft:∀ g w c,bC g w o y c->bC g w o x c){a:Act}{w:World}(r:Rel E st a w):Rel E { st with hp:=(o,y)::del o st.hp } a w:=by
 obtain⟨F,g,r⟩:=r;have M:=aX hl;have key:∀ k u,(k,u)∈(o,y)::del o st.hp->∃ D,(k,D)∈st.hp/\∀ c,bC g w k u c->bC g w k D c:=by
  intro k u hk;rcases bE.1 hk with e | hk
  ·grind
  ·exact⟨u,(bB.1 hk).1,fun _ h=>h⟩
 refine⟨F,g,r.nt,r.df,r.fr,⟨⟨fun k u hk=>?_,fun k u b hk hb=>?_,fun k u k' D b hk Q J hb hb'=>?_⟩,r.w.f0,r.w.f1,r.w.ext,r.w.names,r.w.b0⟩⟩
 ·rcases bE.1 hk with e | hk
  ·cases e; exact G _ _ _ (r.w.hp.obj _ _ M)
  ·exact r.w.hp.obj _ _ (bB.1 hk).1
 ·obtain⟨D,h,hf⟩:=key k u hk; exact r.w.hp.own k D b h (hf _ hb)
 ·obtain⟨v,h,hf⟩:=key k u hk; obtain⟨v',h',Z⟩:=key k' D Q; exact r.w.hp.sep k v k' v' b h h' J (hf _ hb) (Z _ hb')
theorem dA.row{F:Nat->Prop}{g:Nat->Value}{w:World}{n':Nat}{f f':Nat->List T}(hn:n=n')(hf:∀ i,i<n->f i=f' i)(h:dA F g w o (.arr e s n f)):dA F g w o (.arr e s n' f'):=by
 subst hn;rcases h with h | ⟨b,cap,cur,h1,h2,h3,h4,G,J,D⟩
 ·exact .inl h
 ·exact .inr ⟨b,cap,cur,h1,h2,h3,h4,G,fun i hi=>by simp_all,fun i j x hi hx=>D i j x hi (by simp_all)⟩
theorem Le.freeze{o:Nat}{e:TypeId}{s n:Nat}{f:Nat->List T}{st':St}(x:T)(hl:look st.hp o=some (.arr e s n f))(hx:x.view=some (n,f))(h:qN o x st=some st'):Le E st st':=fun _ _ r=>r.freeze hl hx h
theorem Le.thaw(D:gN P E I){t o:Nat}{e:TypeId}{s:Nat}{f:Nat->List T}{st':St}(h:Zw I.N t o e s f st=some st'):Le E st st':=fun _ _ r=>r.thaw D h
theorem Le.slot{t:Nat}{p:PV}(q:PV)(hl:look st.fr t=some p)(D:∀ F g w v,VR F g w p v->VR F g w q v):Le E st { st with fr:=(t,q)::del t st.fr }:=fun _ _ r=>r.slot hl D
theorem Le.obj{o:Nat}{x:bA}(y:bA)(hl:look st.hp o=some x)(D:∀ F g w,dA F g w o x->dA F g w o y)(hy:y.plain=true:=by rfl):Le E st { st with hp:=(o,y)::del o st.hp }:=fun _ _ r=>r.obj hl D (fun _ _ _ h=>.self (h.toBlk hy))
theorem Le.objF{x:bA}(y:bA)(hl:look st.hp o=some x)(D:∀ F g w,dA F g w o x->dA F g w o y)(G:∀ g w c,bC g w o y c->bC g w o x c):Le E st { st with hp:=(o,y)::del o st.hp }:=fun _ _ r=>r.obj hl D G
end
def eL{α:Type}[Inhabited α](c:α->List T)(xs:List α):T:=.sl xs.length fun i=>c (xs.getD i default)
def eF{α:Type}[Inhabited α](c:α->List T)(xs:List α):Nat->List T:=fun i=>c (xs.getD i default)
def bI(x:Int):List T:=[.int .i64 x]
def cD(x:Bool):List T:=[.bool x]
def Jl(x:ByteArray):List T:=[.str x]
instance:Inhabited ByteArray:=⟨ByteArray.empty⟩
theorem bnd{β:Type}{x:Option α}{f:α->Option β}{y:β}(h:x.bind f=some y):∃ z,x=some z/\f z=some y:=by
 cases x with
 | none=>cases h
 | some z=>simp_all
def aVS:TypeDesc->U
 | .int k=>.int k
 | .bool=>.bool
 | .string=>.str
 | .slice e=>.sl e
 | .struct fs=>.st (fs.toList.map fun f=>(f.offset,f.type))
 | .array n e=>.arr n e
 | .map k e=>.mp k e
 | .pointer e=>.ptr e
 | .interface _=>.ifc
 | _=>.other
def zOf(z:Option Value):Option (List (Option PV)):=match z with | some z=>some (z.cells.toList.map rB) | none=>none
def Xr(P:Program)(n:Nat):Nat->List Field->Bool
 | k,[]=>Nat.beq k n
 | k,f::fs=>f.name != "_" && Nat.beq f.offset k&&(match P.underlying f.type with | some (.int _)=>true | _=>false)&&Xr P n (k+1) fs
def Ug(P:Program):Nat->List Field->Option Nat
 | _,[]=>some 0
 | k,f::fs=>match f.name != "_" && Nat.beq f.offset k,P.underlying f.type,Ug P (k+1) fs with
  | true,some (.int _),some c=>some (1+4*c)
  | true,some .string,some c=>some (2+4*c)
  | true,some .bool,some c=>some (3+4*c)
  | _,_,_=>none
def Ly(P:Program)(t:TypeId)(n:Nat):Bool:=
 match n with
 | 0=>true
 | n=>match P.underlying t with
  | some (.struct fs)=>!P.stoodInHeld t && !P.eqGuardType P.depth t&&Xr P n 0 fs.toList
  | some (.array m e)=>Nat.beq m n && !P.eqGuardType P.depth t&&(match P.underlying e with | some (.int _)=>true | _=>false)&&Nat.beq (P.cellsOf e) 1
  | _=>false
def Ni(P:Program)(t:TypeId)(n:Nat):Bool:=
 match n with
 | 0=>true
 | n=>match P.underlying t with
  | some (.struct fs)=>!P.stoodInHeld t && !P.eqGuardType P.depth t&&(match Ug P 0 fs.toList with | some c=>Nat.beq c n | none=>false)
  | _=>false
theorem aBJ{P:Program}{n d:Nat}:∀ {fs:List Field} {k:Nat},Xr P n k fs=true->∀ (xs ys:List Int) (w:World),xs.length=n->ys.length=n ->
  (Op.eqFields (d+1) (xs.map (Value.int .i64)).toArray (ys.map (Value.int .i64)).toArray fs).run P w = .ok (xs.drop k==ys.drop k) w
 | [],k,h,xs,ys,w,hx,hy=>by simp only[Xr]at h;have:=bS h;simp[Op.eqFields,Zt (show xs.length<=k by omega),Zt (show ys.length<=k by omega)]
 | f::fs,k,h,xs,ys,w,hx,hy=>by
  simp only[Xr,cQ,bne_iff_ne]at h;obtain⟨⟨⟨h1,h2⟩,h3⟩,h4⟩:=h;have h2:=bS h2;split at h3
  ·rename_i kk hu;have hk:k<n:=by
    rcases Hn k n with hlt | hge
    ·exact hlt
    ·exfalso;have:∀ (fs:List Field) (j:Nat),Xr P n j fs=true->j<=n:=by
      intro fs
      induction fs with
      | nil=>intro j hj; exact Nat.le_of_eq (bS hj)
      | cons f fs ih=>intro j hj; simp only[Xr,cQ]at hj; grind
     grind
   have hpart:∀ zs:List Int,zs.length=n->(part f.type (zs.map (Value.int .i64)).toArray f.offset).run P w = .ok (.int .i64 (zs.getD k 0)) w:=by intro zs hz;simp[part,isAgg,run_underlying hu,h2,show zs[k]? = some zs[k] from iE (by omega)]
   simp only[Op.eqFields,aA h1,Sem.run_bind,hpart xs hx,hpart ys hy,Result.andThen_ok,run_equalIn_int w d f.type _ kk _ _ hu];have ex:xs.drop k=xs.getD k 0::xs.drop (k+1):=by simp_all
   have ey:ys.drop k=ys.getD k 0::ys.drop (k+1):=by simp_all
   rw[ex,ey,List.cons_beq_cons];cases hb:xs.getD k 0==ys.getD k 0
   ·simp
   ·simp[aBJ h4 xs ys w hx hy]
  ·cases h3
theorem xR{P:Program}{d:Nat}:∀ {fs:List Field} {k c:Nat},Ug P k fs=some c->∀ (l r:List T) (b:Bool) (w:World),k<=l.length->k<=r.length->gF (l.drop k) (r.drop k)=some b->oF (l.drop k)=c ->
  (Op.eqFields (d+1) (l.map zE).toArray (r.map zE).toArray fs).run P w = .ok b w
 | [],k,c,h,l,r,b,w,hl0,hr0,hb,hc=>by
  simp only[Ug,gJ]at h;subst h;have hl:l.drop k=[]:=by
   cases hd:l.drop k with
   | nil=>rfl
   | cons x q=>rw[hd]at hb hc;cases x <;> simp only[oF]at hc <;> first | omega | (cases hr:r.drop k <;> rw[hr]at hb <;> simp[gF]at hb)
  rw[hl]at hb;cases hr:r.drop k with
  | nil=>rw[hr]at hb; simp only[gF,gJ]at hb; subst hb; rfl
  | cons y q=>rw[hr]at hb; simp[gF]at hb
 | f::fs,k,c,h,l,r,b,w,hl0,hr0,hb,hc=>by
  simp only[Ug]at h;have part1:∀ (z:List T) (x:T) (q:List T),z.drop k=x::q->f.offset=k->(isAgg f.type).run P w = .ok false w->(part f.type (z.map zE).toArray f.offset).run P w = .ok (zE x) w:=by
   intro z x q hz ho hu;have hk:z[k]? = some x:=by have:=congrArg (·[0]?) hz;grind
   simp[part,hu,ho,hk]
  have next:∀ (z:List T) (x:T) (q:List T),z.drop k=x::q->q=z.drop (k+1)/\k+1<=z.length:=by intro z x q hz;have h1:=congrArg List.tail hz;simp only[List.tail_drop,List.tail_cons]at h1;have h2:=congrArg List.length hz;grind
  split at h
  ·rename_i kk c' h1 hu h2;simp only[cQ,bne_iff_ne]at h1;have ho:=bS h1.2;cases h;cases hdl:l.drop k with
   | nil=>rw[hdl]at hc; simp only[oF]at hc; omega
   | cons x q=>
    cases hdr:r.drop k with
    | nil=>rw[hdl,hdr]at hb; cases x <;> simp[gF]at hb
    | cons y s=>
     rw[hdl,hdr]at hb;rw[hdl]at hc;obtain⟨eq,el⟩:=next l x q hdl;obtain⟨er,el'⟩:=next r y s hdr;cases x <;> cases y <;> simp only[gF,oF]at hb hc <;> first | omega | cases hb | skip
     rename_i k1 a1 k2 a2;split at hb
     ·rename_i hkk;subst hkk;split at hb
      ·rename_i c2 hc2;cases hb;have hrec:=xR (d:=d) h2 l r c2 w el el' (by simp_all) (by grind);have p1:=part1 l _ q hdl ho (by simp[isAgg,run_underlying hu]);have p2:=part1 r _ s hdr ho (by simp[isAgg,run_underlying hu]);simp only[Op.eqFields,aA h1.1,Sem.run_bind,p1,p2,Result.andThen_ok,zE,run_equalIn_int w d f.type _ _ _ _ hu];cases hb2:a1==a2
       ·simp
       simp_all
      ·cases hb
     ·cases hb
  ·rename_i c' h1 hu h2;simp only[cQ,bne_iff_ne]at h1;have ho:=bS h1.2;cases h;cases hdl:l.drop k with
   | nil=>rw[hdl]at hc; simp only[oF]at hc; omega
   | cons x q=>
    cases hdr:r.drop k with
    | nil=>rw[hdl,hdr]at hb; cases x <;> simp[gF]at hb
    | cons y s=>
     rw[hdl,hdr]at hb;rw[hdl]at hc;obtain⟨eq,el⟩:=next l x q hdl;obtain⟨er,el'⟩:=next r y s hdr;cases x <;> cases y <;> simp only[gF,oF]at hb hc <;> first | omega | cases hb | skip
     rename_i a1 a2;split at hb
     ·rename_i c2 hc2;cases hb;have hrec:=xR (d:=d) h2 l r c2 w el el' (by simp_all) (by grind);have p1:=part1 l _ q hdl ho (by simp[isAgg,run_underlying hu]);have p2:=part1 r _ s hdr ho (by simp[isAgg,run_underlying hu]);simp only[Op.eqFields,aA h1.1,Sem.run_bind,p1,p2,Result.andThen_ok,zE,run_equalIn_string w d f.type _ _ hu];cases hb2:a1.toList==a2.toList
      ·simp
      simp_all
     ·cases hb
  ·rename_i c' h1 hu h2;simp only[cQ,bne_iff_ne]at h1;have ho:=bS h1.2;cases h;cases hdl:l.drop k with
   | nil=>rw[hdl]at hc; simp only[oF]at hc; omega
   | cons x q=>
    cases hdr:r.drop k with
    | nil=>rw[hdl,hdr]at hb; cases x <;> simp[gF]at hb
    | cons y s=>
     rw[hdl,hdr]at hb;rw[hdl]at hc;obtain⟨eq,el⟩:=next l x q hdl;obtain⟨er,el'⟩:=next r y s hdr;cases x <;> cases y <;> simp only[gF,oF]at hb hc <;> first | omega | cases hb | skip
     rename_i a1 a2;split at hb
     ·rename_i c2 hc2;cases hb;have hrec:=xR (d:=d) h2 l r c2 w el el' (by simp_all) (by grind);have p1:=part1 l _ q hdl ho (by simp[isAgg,run_underlying hu]);have p2:=part1 r _ s hdr ho (by simp[isAgg,run_underlying hu]);simp only[Op.eqFields,aA h1.1,Sem.run_bind,p1,p2,Result.andThen_ok,zE,run_equalIn_bool' w d f.type _ _ hu];cases hb2:a1==a2
      ·simp
      simp_all
     ·cases hb
  ·cases h
theorem oJ{P:Program}{k:IntKind}(G:P.underlying t=some (.int k))(D:List Int)(j:Nat)(J:j<D.length)(w:World):
  (part t (D.map (Value.int .i64)).toArray j).run P w = .ok (.int .i64 (D.getD j 0)) w:=by
 simp[part,isAgg,run_underlying G,show D[j]? = some D[j] from iE J]
theorem Fi{P:Program}{e:TypeId}{k:IntKind}(hu:P.underlying e=some (.int k)){d n:Nat}(xs ys:List Int)(w:World)(hx:xs.length=n)(hy:ys.length=n):∀ is:List Nat,(∀ i,i∈is->i<n) ->
  (Op.eqItems (d+1) e 1 (xs.map (Value.int .i64)).toArray (ys.map (Value.int .i64)).toArray is).run P w = .ok (is.all fun i=>xs.getD i 0==ys.getD i 0) w
 | [],_=>by rfl
 | i::is,h=>by
  have hi:=h i (by simp);simp only[Op.eqItems,Nat.mul_one,Sem.run_bind,oJ hu xs i (by omega),oJ hu ys i (by omega),Result.andThen_ok,run_equalIn_int w d e _ k _ _ hu];cases hb:xs.getD i 0==ys.getD i 0
  ·simp_all
  ·simp only[Bool.not_true,eO,eH,List.all_cons,hb,Bool.true_and];exact Fi hu xs ys w hx hy is (fun j hj=>h j (cO _ hj))
theorem bCC(xs ys:List Int)(hx:xs.length=n)(hy:ys.length=n):((List.range n).all fun i=>xs.getD i 0==ys.getD i 0)=(xs==ys):=by
 rw[Bool.eq_iff_iff];simp only[fT,Hi,dP];constructor
 ·intro h;apply Rr (by omega);simp_all
 simp_all
theorem sV{P:Program}{w:World}{α:Type}(f:α->PUnit->Sem (ForInStep PUnit)):∀ l:List α,(∀ x,x∈l->∀ u,(f x u).run P w = .ok (.yield ⟨⟩) w)->(forIn l (⟨⟩:PUnit) f).run P w = .ok ⟨⟩ w
 | [],_=>by simp
 | x::l,h=>by rw[List.forIn_cons,Sem.run_bind,h x (by simp)];simp only[Result.andThen_ok];exact sV f l (fun y hy=>h y (cO _ hy))
def aAN(P:Program)(t:TypeId)(u:U):Bool:=
 match u with
 | .bool=>match P.info? t with
  | some info=>match info.zero with
   | some (.bool false)=>true
   | _=>false
  | none=>false
 | _=>true
theorem bFE{P:Program}{u:U}(h:aAN P t u=true):u = .bool->∃ info,P.info? t=some info/\info.zero=some (.bool false):=by rintro rfl;unfold aAN at h;grind
theorem aKT{P:Program}{i:dO}(h:Ly P t i.eqn=true)(D:UR P t i.und):aVU P t i:=by
 intro m e hm hn M xs w hx;rw[hm]at D;simp only[UR]at D;unfold Ly at h;split at h
 ·omega
 ·rw[D]at h;simp only[cQ]at h;obtain⟨⟨⟨h1,_⟩,h3⟩,h4⟩:=h;have h1:=bS h1;have h4:=bS h4;split at h3
  ·rename_i k hk;obtain⟨info,hi⟩:=info_of_underlying hk;rw[show (10000:Nat)=9998+1+1 from rfl];generalize 9998=dd;rw[vJ,Instr.checkKey];simp only[Sem.run_bind,run_underlying D,Result.andThen_ok];simp only[Std.Legacy.Range.forIn_eq_forIn_range',Std.Legacy.Range.size,Nat.sub_zero,Nat.add_one_sub_one,Nat.div_one];rw[sV _ (List.range' 0 m)]
   ·simp
   intro j J u;have G:j<xs.length:=by simp_all
   simp only[Sem.run_bind,Go.run_sizeOf w hi,Result.andThen_ok,h4,Nat.mul_one,oJ hk xs j G];simp[Instr.checkKey,run_underlying hk]
  ·cases h3
theorem aUG{P:Program}(h:Ly P t n=true):aWA P t n:=by
 intro hn;unfold Ly at h;split at h
 ·omega
 ·split at h
  ·rename_i fs D;simp only[cQ,mT]at h;refine⟨h.1.2,fun xs ys w hx hy=>?_⟩;have hf:P.fieldsOf t=fs:=by simp[Program.fieldsOf,D]
   rw[show (10000:Nat)=9999+1 from rfl,run_equalIn_agg w 9999 t _ _ (by simp_all) h.1.1,hf];rw[show (9999:Nat)=9998+1 from rfl,aBJ h.2 xs ys w hx hy];simp
  ·rename_i m e D;simp only[cQ,mT]at h;obtain⟨⟨⟨h1,h2⟩,h3⟩,h4⟩:=h;have h1:=bS h1;have h4:=bS h4;refine⟨h2,fun xs ys w hx hy=>?_⟩;split at h3
   ·rename_i k hk;obtain⟨info,hi⟩:=info_of_underlying hk;rw[show (10000:Nat)=9999+1 from rfl,run_equalIn_array w 9999 _ _ D hi,h4,show (9999:Nat)=9998+1 from rfl,h1,Fi hk xs ys w hx hy _ (fun i hi=>Hi.1 hi),bCC xs ys hx hy]
   ·cases h3
  ·cases h
theorem aIS{P:Program}(h:Ni P t n=true):aVJ P t n:=by
 intro hn;unfold Ni at h;split at h
 ·omega
 ·split at h
  ·rename_i fs G;simp only[cQ,mT]at h;obtain⟨⟨h1,h2⟩,h3⟩:=h;split at h3
   ·rename_i c hc;have h3:=bS h3;refine⟨h2,fun l r b w hl D=>?_⟩;have hf:P.fieldsOf t=fs:=by simp[Program.fieldsOf,G]
    rw[show (10000:Nat)=9999+1 from rfl,run_equalIn_agg w 9999 t _ _ (by simp_all) h1,hf];rw[show (9999:Nat)=9998+1 from rfl,xR hc l r b w (yM _) (yM _) hl (by simp_all)]
   ·cases h3
  ·cases h
theorem aZK{P:Program}{i:dO}(h1:(P.info? t).map (fun x=>(x.size,x.bytes,zOf x.zero))=some (i.size,i.bytes,some (i.zero.map some)))
  (h2:(P.underlying t).map aVS=some i.und)(D:(Ly P t i.eqn&&Ni P t i.eqf&&aAN P t i.und)=true):TOk P t i where
 zb:=bFE (by simp_all)
 eqv:=aUG (by simp_all)
 eqf:=aIS (by simp_all)
 keyv:=aKT (by simp_all) (by
  cases hu:P.underlying t with
  | none=>simp_all
  | some d=>rw[hu]at h2;simp only[tM,gJ]at h2;rw[<-h2];cases d <;> first | exact hu | exact⟨_,hu,rfl⟩ | exact⟨_,hu⟩)
 info:=by
  cases hi:P.info? t with
  | none=>simp_all
  | some info=>rw[hi]at h1;simp only[tM,gJ,gE]at h1;obtain⟨a,b,c⟩:=h1;unfold zOf at c;grind
 und:=by
  cases hu:P.underlying t with
  | none=>simp_all
  | some d=>rw[hu]at h2;simp only[tM,gJ]at h2;rw[<-h2];cases d <;> first | exact hu | exact⟨_,hu,rfl⟩ | exact⟨_,hu⟩
theorem aQV{P:Program}{l:List (Nat×dO)}(h:∀ e,e∈l->TOk P e.1 e.2):mP P (look l):=fun t i hi=>h (t,i) (aX hi)
theorem bM{P:Program}{k:FuncId}(h:P.funcs[k]? = some fn)(h2:(fn.body.isNone,fn.name == "runtime.NumGoroutine")=(false,false)):iC P k:=
 ⟨fn,h,congrArg Prod.fst h2,congrArg Prod.snd h2⟩
def Ret(x:PV):PV->Hp->Prop:=fun r _=>r=x
section
variable {P:Program} {E:Env} {I:Inf} {Q:iK} {st:St}
end
theorem aKF{x:T}{f:Nat->List T}(h:x.view=some (0,f)):∀ F g w v,VR F g w .nil v->VR F g w (.t x) v:=by intro F g w v hv; cases hv; exact .t (.nil h)
theorem Bw{n':Nat}{f f':Nat->List T}{x:T}(hx:x.view=some (n',f'))(hn:n'=n)(hf:∀ i,i<n->f i=f' i):
  ∀ F g w v,VR F g w (.t (.sl n f)) v->VR F g w (.t x) v:=by
 intro F g w v hv;subst hn;cases hv with
 | t r=>
  cases r with
  | nil h=>
   have:n'=0:=by simp[T.view]at h; exact h.1
   subst this;exact .t (.nil hx)
  | sl a cap size vs h hc hF hs hc' hr=>simp only[T.view,gJ,gE]at h;obtain⟨rfl,rfl⟩:=h;exact .t (.sl a cap size vs hx hc hF (fun i hi=>by simp_all) hc' fun i j y hi hy=>hr i j y hi (by simp_all))
theorem Ry[Inhabited α]{c:α->List T}{xs:List α}{l h:Int}{x:T}(hc:0<=l/\l<=h/\h<=(xs.length:Int))
  (hx:x.view=some (((xs.drop l.toNat).take (h-l).toNat).length,eF c ((xs.drop l.toNat).take (h-l).toNat))):
  ∀ F g w v,VR F g w (.t (.sl (h-l).toNat fun k=>eF c xs (l.toNat+k))) v->VR F g w (.t x) v:=by
 refine Bw hx (by simp; omega) fun i hi=>?_;simp only[eF,dV,tC,Gh,aA hi]
inductive nI:List PV->List T->Prop
 | nil:nI [] []
 | same {x:T} {l:List PV} {r:List T} (h:nI l r):nI (.t x::l) (x::r)
 | empty {x:T} {f:Nat->List T} {l:List PV} {r:List T} (hx:x.view=some (0,f)) (h:nI l r):nI (.nil::l) (x::r)
 | imp {p:PV} {x:T} {l:List PV} {r:List T} (hp:∀ F g w v,VR F g w p v->VR F g w (.t x) v) (h:nI l r):nI (p::l) (x::r)
theorem nI.get{l:List PV}{r:List T}(h:nI l r):r.length=l.length/\∀ (j:Nat) p x,l[j]? = some p->r[j]? = some x->∀ F g w v,VR F g w p v->VR F g w (.t x) v:=by
 induction h with
 | nil=>simp
 | same _ ih=>grind
 | empty hv _ ih=>
  refine⟨by simp[ih.1],fun j p x hp hx=>?_⟩;cases j with
  | zero=>simp at hp hx; subst hp; subst hx; exact aKF hv
  | succ j=>grind
 | imp hv _ ih=>grind
theorem Xw{l:List PV}{r:List T}(h:nI l r):∀ F g w v,VR F g w (.agg l) v->VR F g w (.t (.agg r)) v:=by
 intro F g w v hv;cases hv with
 | @agg _ vs hs hr=>
  refine .t (.agg (by rw[hs,h.get.1]) fun j x u hx G=>?_);have D:j<l.length:=by grind
  exact(h.get.2 j l[j] x (by simp[D]) hx _ _ _ _ (hr j l[j] u (by simp[D]) G)).cells_t rfl
theorem Ou[Inhabited α](c:α->List T)(xs ys:List α):∀ i,i<xs.length+ys.length->pJ xs.length (eF c xs) (eF c ys) i=eF c (xs++ys) i:=by intro i hi;unfold pJ eF;grind
section
variable {P:Program} {E:Env} {I:Inf} {Q:iK} {st:St}
theorem aCZ{ops l:List Oper}{t:Nat}{b:Bool}(hl:look st.fr t=some (.t (.bool b)))(h1:b=true->fG P E ops Q l { st with fr:=(t,.t (.bool true))::del t st.fr })
  (D:b=false->fG P E ops Q l { st with fr:=(t,.t (.bool false))::del t st.fr }):fG P E ops Q l st:=by
 cases hb:b with
 | true=>subst hb; exact gH (fun _ _=>Rel.slot hl (fun _ _ _ _ h=>h)) (h1 rfl)
 | false=>subst hb; exact gH (fun _ _=>Rel.slot hl (fun _ _ _ _ h=>h)) (D rfl)
end
def iJ{α:Type}(l:List (Nat×α)):List Nat->List (Nat×α)
 | []=>[]
 | t::ts=>match look l t with | some x=>(t,x)::iJ l ts | none=>iJ l ts
theorem vW{α:Type}{l:List (Nat×α)}:∀ {ts:List Nat} e,e∈iJ l ts->e∈l
 | [],e,h=>by simp[iJ]at h
 | t::ts,e,h=>by
  simp only[iJ]at h;split at h
  ·rename_i x hx;rcases bE.1 h with rfl | h
   ·exact aX hx
   ·exact vW e h
  ·exact vW e h
def jN(o:Oper):List Nat:=(o.after.toList.filter (Region.binds .any)).map (·.on)
def fB:List Bool->Nat->Bool->Bool
 | [],_,d=>d
 | b::_,0,_=>b
 | _::l,i+1,d=>fB l i d
theorem eV(l:List Bool)(i:Nat)(d:Bool):fB l i d=l.getD i d:=by
 induction l generalizing i with
 | nil=>rfl
 | cons b l ih=>cases i <;> simp[fB,ih]
def yD:List Bool->Nat->List Bool
 | [],_=>[]
 | _::l,0=>true::l
 | b::l,i+1=>b::yD l i
theorem uY(l:List Bool)(i:Nat):yD l i=l.set i true:=by
 induction l generalizing i with
 | nil=>rfl
 | cons b l ih=>cases i <;> simp[yD,ih]
def aLU(ops:List Oper)(m:List Bool)(i:Nat):Bool:=
 match fB m i true with
 | true=>false
 | false=>match ops[i]? with
  | none=>false
  | some o=>(jN o).all fun j=>fB m j false
inductive Cm:List (Nat×(Bool×Bool))->Prop
 | nil:Cm []
 | cons {i:Nat} {b v:Bool} {l:List (Nat×(Bool×Bool))} (h:b=v) (t:Cm l):Cm ((i,b,v)::l)
theorem Cm.mem{l:List (Nat×(Bool×Bool))}(h:Cm l):∀ e,e∈l->e.2.1=e.2.2:=by
 induction h with
 | nil=>simp
 | cons h _ ih=>simp_all
inductive tJ:List (Nat×List Prop)->Prop
 | nil:tJ []
 | cons {i:Nat} {C:List Prop} {l:List (Nat×List Prop)} (h:All C) (t:tJ l):tJ ((i,C)::l)
theorem tJ.mem{l:List (Nat×List Prop)}(h:tJ l):∀ e,e∈l->All e.2:=by
 induction h with
 | nil=>simp
 | cons h _ ih=>grind
section
variable {P:Program} {E:Env} {I:Inf} {Q:iK} {st st':St}
theorem Eg{ops:List Oper}{m:List Bool}(h:i∈Region.ready .any ops.toArray m.toArray):aLU ops m i=true/\i<ops.length:=by
 obtain⟨h1,o,ho,h2⟩:=mem_ready.1 h;have D:ops[i]? = some o:=by simp_all
 refine⟨?_,(Ir.1 D).1⟩;unfold aLU;have J:fB m i true=false:=by rw[eV]; simp_all
 rw[J,D];simp only[jN,List.all_map,fT,iQ,Function.comp];rintro e ⟨M,G⟩;have:=h2 e (by simp_all) G;rw[eV];simp_all
theorem Rel.same{a:Act}{w:World}(r:Rel E st a w)(G:w'.heap=w.heap)(ho:w'.os=w.os)(Q:w'.tape=w.tape)(M:w'.output=w.output):Rel E st a w':=by
 obtain⟨F,g,r⟩:=r;have hb:∀ b:Nat,w'.heap[b]? = w.heap[b]?:=fun b=>by rw[G]
 have hf:∀ {o x b},bC g w' o x b->bC g w o x b:=fun h=>h.mono rfl (fun _ _=>rfl) (fun c _=>hb c);refine⟨F,g,r.nt,r.df,fun t x hx=>(r.fr t x hx).mono (fun b h=>⟨h,hb b⟩) (fun _ _=>rfl),⟨⟨fun o x hx=>?_,fun o x b hx h=>r.w.hp.own o x b hx (hf h),fun o x J y b hx hy D h Z=>r.w.hp.sep o x J y b hx hy D (hf h) (hf Z)⟩,r.w.f0,fun b h=>?_,?_,r.w.names,r.w.b0⟩⟩
 ·exact(r.w.hp.obj o x hx).mono (fun b h=>⟨h,hb b⟩) rfl (fun _ _=>rfl) (fun b _=>hb b)
 ·rw[G]; exact r.w.f1 b h
 ·exact r.w.ext.trans ho Q M (by simp_all) (fun b _ _=>hb b)
theorem Rel.drew{a:Act}{w:World}(r:Rel E st a w):Rel E st a { w with drawn:=w.drawn+1 }:=r.same rfl rfl rfl rfl
end
def inN:Nat->List Nat->Bool
 | _,[]=>false
 | o,k::l=>match Nat.beq o k with | true=>true | false=>inN o l
theorem dT{o:Nat}:∀ {l:List Nat},inN o l=true↔o∈l
 | []=>by simp[inN]
 | k::l=>by
  simp only[inN];split
  ·simp_all
  ·rename_i h; rw[dT (l:=l)]; simp[pB h]
def rH(hp:Hp)(L:List Nat):Hp:=hp.filter fun e=>!(inN e.1 L)
theorem gS{L:List Nat}{e:Nat×bA}(h:e∈rH hp L):e∈hp/\e.1∉L:=by simp only[rH,iQ,mT]at h;exact⟨h.1,fun hm=>by rw[dT.2 hm]at h; cases h.2⟩
def vS(ns l:List Nat):Bool:=ns.all fun o=>!(inN o l)
theorem uS{D l:List Nat}(h:vS D l=true):∀ o,o∈D->o∉l:=by intro o ho hm;have:=fT.1 h o ho;rw[dT.2 hm]at this; cases this
def Zd(ns l:List Nat):Bool:=ns.all fun o=>inN o l
theorem Ge{D l:List Nat}(h:Zd D l=true):∀ o,o∈D->o∈l:=fun o ho=>dT.1 (fT.1 h o ho)
def qH(st:St)(L N nw:List Nat):Bool:=(st.fr.all fun e=>vS e.2.names nw)&&((rH st.hp L).all fun e=>(!(inN e.1 nw))&&vS e.2.names nw)&&vS N nw
def sX(r:PV)(H:Hp)(l:List Nat):Bool:=Zd r.names l&&H.all fun e=>inN e.1 l&&Zd e.2.names l
section
variable {P:Program} {E:Env} {I:Inf} {Q:iK} {st:St}
theorem xJ(hG:gN P E I){ops:List Oper}{o:Oper}{caps aps bps:List PV}{Qc:PV->Hp->Prop}(L N nw:List Nat)
  (hop:o.op = .call c)(hcal:c.callee = .value f)(hd:o.dst=some d)(hw:cC ops o st=some true)(hnt:Nat.blt d I.nt=true)
  (hf:ev st f=some (.fn (.func k) nf caps))(hargs:iZ st c.args.toList=some aps)(hk:iC P k)(has:lK st [] (caps.take nf++aps++caps.drop nf) bps)
  (hpick:mS st.hp L=some Hs)(hfresh:qH st L I.N nw=true)(hcall:gX P k bps Hs N Qc)
  {K:Act->World->Prop}{a:Act}{w:World}(r:Rel E st a w)
  (hres:∀ r H',Qc r H'->sX r H' (N++nw)=true/\∀ a' w',Rel E (({ fr:=st.fr,hp:=H'++rH st.hp L }:St).put d r) a' w'->K a' w'):
  if Region.wanted o (yielded ops.toArray a.tmps) then o.wp P a w K Q' else K (a.put o.dst undef) w:=by
 obtain⟨F,g,r⟩:=r;have hwt:=iD (ops:=ops.toArray) r (by simpa using hw);obtain⟨hl1,hr1⟩:=uW r _ _ hargs;have hfv:=bT r hf;obtain⟨fv,hfe⟩:∃ u,a.eval f=u:=⟨_,rfl⟩;rw[hfe]at hfv;have J:=pS hpick;cases hfv with
 | @fn _ _ _ us vs hn hs hr=>
  subst hn;rw[aA hwt];unfold Oper.wp;have hrun:(execOp a.eval o).run P w = .ok (.enter k (us++(c.args.map a.eval)++vs)) w:=by unfold execOp;simp[hop,resolve,hcal,hfe,Deferred.ofValue,invoke,zB hk]
  rw[hrun];have hcallW:=hcall F g w (us++c.args.map a.eval++vs) (by
    have:=has.get.1;grind) (fun j q v hq hv=>by
    obtain⟨p,hp,hpq⟩:=has.get.2 j q hq;have hpv:VR F g w p v:=by
     have h2:c.args.size=aps.length:=by simp_all
     have hus:us.size<=caps.length:=by grind
     have htk:(caps.take us.size).length=us.size:=by simp; omega
     by_cases hi:j<us.size
     all_goals grind
    cases hpq with
    | same=>exact hpv
    | nil hx=>cases hpv; exact .t (.nil hx)
    | imp h=>simp_all
    | lend ho=>simp at ho)
   ⟨fun o x hx=>r.w.hp.obj o x (J _ hx).1,fun o x b hx hb=>⟨(r.w.hp.own o x b (J _ hx).1 hb).1,trivial⟩,
    fun o x D y b hx hy=>r.w.hp.sep o x D y b (J _ hx).1 (J _ hy).1⟩ (fun b hb=>(r.w.f1 b hb).1) (hG.glw r.w)
  simp only[Oper.upon];refine hcallW.mono ?_;rintro e w' ⟨v,res,H',F',g',rfl,hQ,hv,hW⟩;obtain⟨hback,hgo⟩:=hres res H' hQ;refine hgo _ _ ?_;rw[hd];have hext:=hW.ext;simp only[qH,cQ,fT,mT]at hfresh;obtain⟨⟨hfr,hrest⟩,hN⟩:=hfresh;simp only[sX,cQ,fT]at hback;obtain⟨hbr,hbH⟩:=hback;let g2:Nat->Value:=fun o=>if inN o nw=true then g' o else g o
  have M:∀ o,o∉nw->g2 o=g o:=fun o ho=>aF (fun h=>ho (dT.1 h));have Z:∀ o,o∈N++nw->g2 o=g' o:=by
   intro o ho;show (if inN o nw=true then g' o else g o)=g' o;split
   ·rfl
   ·rename_i h;rcases dW.1 ho with ho | ho
    ·exact(hW.names o ho).symm
    ·exact absurd (dT.2 ho) h
  have hown:∀ b,Own g w Hs b->b<w.heap.size/\¬ F b:=by rintro b ⟨o,x,hx,hb⟩;exact⟨hb.block (r.w.hp.obj o x (J _ hx).1),(r.w.hp.own o x b (J _ hx).1 hb).1⟩
  have hblk:∀ b,b<w.heap.size->¬ Own g w Hs b->w'.heap[b]? = w.heap[b]?:=fun b hb hB=>hext.block b hb hB;have hFF:∀ b,F b->F' b/\w'.heap[b]? = w.heap[b]?:=fun b hb=>⟨hW.f0 b hb,hblk b (r.w.f1 b hb).1 (fun h=>(hown b h).2 hb)⟩;have hnotown:∀ o x b,(o,x)∈rH st.hp L->bC g w o x b->¬ Own g w Hs b:=by rintro o x b hx hb ⟨D,x',Q,G⟩;obtain⟨h1,h2⟩:=gS hx;exact r.w.hp.sep o x D x' b h1 (J _ Q).1 (fun e=>h2 (e▸(J _ Q).2)) hb G
  have hrn:∀ o x,(o,x)∈rH st.hp L->o∉nw:=fun o x hx hm=>by have:=(hrest _ hx).1;rw[dT.2 hm]at this; cases this
  have hd':d<E.nt:=by rw[hG.nt]; simp_all
  have ftH:∀ o x b,(o,x)∈H'->bC g2 w' o x b->bC g' w' o x b:=fun o x b hx hb=>by have hh:=hbH _ hx;exact hb.mono (Z o (dT.1 hh.1)) (fun D ho'=>Z D (Ge hh.2 D ho')) (fun _ _=>rfl)
  have ftR:∀ o x b,(o,x)∈rH st.hp L->bC g2 w' o x b->bC g w o x b:=fun o x b hx hb=>
   hb.mono (M o (hrn o x hx)) (fun D ho'=>M D (uS (hrest _ hx).2 D ho'))
    (fun c hc=>hblk c ((r.w.hp.obj o x (gS hx).1).block hc) (hnotown o x c hx (.self hc)))
  refine⟨F',g2,r.putW (st':={ fr:=st.fr,hp:=H'++rH st.hp L }) hd' hFF (fun t y hy=>⟨hy,fun o ho=>M o (uS (hfr _ hy) o ho)⟩) ?_
   (hv.mono (fun b hb=>⟨hb,rfl⟩) (fun o ho=>Z o (Ge hbr o ho)))⟩
  refine⟨⟨fun o x hx=>?_,fun o x b hx hb=>?_,fun o x D y b hx hy hne hb G=>?_⟩,fun b hb=>(hFF b (r.w.f0 b hb)).1,fun b hb=>⟨(hW.f1 b hb).1,?_⟩,?_,fun o ho=>?_,r.w.b0⟩
  ·rcases dW.1 hx with hx | hx
   ·have hh:=hbH _ hx;exact(hW.hp.obj o x hx).mono (fun b hb=>⟨hb,rfl⟩) (Z o (dT.1 hh.1)) (fun D ho'=>Z D (Ge hh.2 D ho')) (fun _ _=>rfl)
   ·exact(r.w.hp.obj o x (gS hx).1).mono hFF (M o (hrn o x hx)) (fun D ho'=>M D (uS (hrest _ hx).2 D ho'))
     (fun b hb=>hblk b (hb.block (r.w.hp.obj o x (gS hx).1)) (hnotown o x b hx hb))
  ·rcases dW.1 hx with hx | hx
   ·have hb:=ftH o x b hx hb;refine⟨(hW.hp.own o x b hx hb).1,?_⟩;rcases (hW.hp.own o x b hx hb).2 with⟨D,x',Q,G⟩ | h
    ·exact(r.w.hp.own D x' b (J _ Q).1 G).2
    ·exact .inr (fW r.w.ext.size h)
   ·have hb:=ftR o x b hx hb;have hlt:=hb.block (r.w.hp.obj o x (gS hx).1);have hh:=r.w.hp.own o x b (gS hx).1 hb;refine⟨fun hF'=>?_,hh.2⟩;rcases (hW.f1 b hF').2 with h | h | h
    all_goals grind
  ·have key:∀ o x D y b,(o,x)∈H'->(D,y)∈rH st.hp L->bC g2 w' o x b->bC g2 w' D y b->False:=by
    intro o x D y b hx hy hb G;have hb:=ftH o x b hx hb;have G:=ftR D y b hy G;rcases (hW.hp.own o x b hx hb).2 with h | h
    ·grind
    ·exact absurd (G.block (r.w.hp.obj D y (gS hy).1)) (Nat.not_lt.2 h)
   rcases dW.1 hx with hx | hx
   ·rcases dW.1 hy with hy | hy
    ·exact hW.hp.sep o x D y b hx hy hne (ftH o x b hx hb) (ftH D y b hy G)
    grind
   ·rcases dW.1 hy with hy | hy
    ·grind
    ·exact r.w.hp.sep o x D y b (gS hx).1 (gS hy).1 hne (ftR o x b hx hb) (ftR D y b hy G)
  ·rcases (hW.f1 b hb).2 with h | h | h
   ·exact(r.w.f1 b h).2
   ·obtain⟨D,x',Q,G⟩:=h;rcases (r.w.hp.own D x' b (J _ Q).1 G).2 with h | h
    all_goals simp_all
   ·exact .inr (.inr (fW r.w.ext.size h))
  ·refine r.w.ext.trans hext.os hext.tape hext.output hext.size (fun b hb hB=>hblk b (by have:=r.w.ext.size; omega) ?_);rintro⟨D,x',Q,G⟩;rcases (r.w.hp.own D x' b (J _ Q).1 G).2 with h | h
   all_goals grind
  ·rw[M o (fun hm=>uS hN o (by rw[<-hG.N]; exact ho) hm)];exact r.w.names o ho
theorem Vy(hG:gN P E I){ops l:List Oper}{o:Oper}{rest:List Oper}{D aps bps:List PV}{Qc:PV->Hp->Prop}(L N nw:List Nat)
  (hl:l=o::rest)(hop:o.op = .call c)(hcal:c.callee = .value f)(hd:o.dst=some d)(hw:cC ops o st=some true)(hnt:Nat.blt d I.nt=true)
  (hf:ev st f=some (.fn (.func k) nf D))(hargs:iZ st c.args.toList=some aps)(hk:iC P k)(has:lK st [] (D.take nf++aps++D.drop nf) bps)
  (M:mS st.hp L=some Hs)(G:qH st L I.N nw=true)(Z:gX P k bps Hs N Qc)
  (J:∀ r H',Qc r H'->sX r H' (N++nw)=true/\fG P E ops Q rest (({ fr:=st.fr,hp:=H'++rH st.hp L }:St).put d r)):fG P E ops Q l st:=by
 subst hl;intro a w r;refine wpList_step fun K hK=>xJ hG L N nw hop hcal hd hw hnt hf hargs hk has M G Z r fun r H' hq=>⟨(J r H' hq).1,fun a' w' r'=>hK _ _ ((J r H' hq).2 a' w' r')⟩
end
def vF(p:PV)(H:Hp):PV->Hp->Prop:=fun r H'=>r=p/\H'=H
def rn1(o o' k:Nat):Nat:=match Nat.beq k o with | true=>o' | false=>k
def PV.rn(o o':Nat):PV->PV
 | .ptr k off=>.ptr (rn1 o o' k) off
 | .own k=>.own (rn1 o o' k)
 | .aptr k s i off=>.aptr (rn1 o o' k) s i off
 | .map k=>.map (rn1 o o' k)
 | .fn f n cs=>.fn f n (go cs)
 | .tup l=>.tup (go l)
 | .agg l=>.agg (go l)
 | p=>p
where go:List PV->List PV
 | []=>[]
 | x::l=>x.rn o o'::go l
theorem Cd{o':Nat}{l:List PV}:PV.rn.go o o' l=l.map (PV.rn o o'):=by
 induction l with
 | nil=>rfl
 | cons x l ih=>simp[PV.rn.go,ih]
def bAH(o o':Nat):Option Iter->Option Iter
 | none=>none
 | some i=>some ⟨rn1 o o' i.o,i.rem,i.cur⟩
def bEA(o o':Nat):Option (T×Option PV)->Option (T×Option PV)
 | some (k,some p)=>some (k,some (p.rn o o'))
 | x=>x
def bEX(o o':Nat):Option (Nat×Nat×PV)->Option (Nat×Nat×PV)
 | some (i,j,p)=>some (i,j,p.rn o o')
 | none=>none
def bA.rn(o o':Nat):bA->bA
 | .box l=>.box (PV.rn.go o o' l)
 | .arm e s n f ov=>.arm e s n f (bEX o o' ov)
 | .mp it m ho=>.mp (bAH o o' it) m (bEA o o' ho)
 | x=>x
def aGL(o o':Nat)(st:St):St:=⟨st.fr.map fun e=>(e.1,e.2.rn o o'),st.hp.map fun e=>(rn1 o o' e.1,e.2.rn o o')⟩
def grn(N:List Nat)(o o':Nat)(st:St):Option St:=
 match qG o' N,st.erase o' with
 | true,some st1=>some (aGL o o' st1)
 | _,_=>none
theorem gK(g:Nat->Value)(o o' k:Nat)(h:k≠o'):upd g o' (g o) (rn1 o o' k)=g k:=by
 unfold rn1;split
 ·rename_i hk; rw[bJ,bS hk]
 ·exact bP g _ h
theorem VR.rn{F:Nat->Prop}{g:Nat->Value}{w:World}{o o':Nat}{p:PV}{v:Value}(h:VR F g w p v)(hn:∀ k,k∈p.names->k≠o'):VR F (upd g o' (g o)) w (p.rn o o') v:=by
 induction h with
 | t r=>exact .t r
 | ptr e=>exact .ptr (by rw[gK _ _ _ _ (hn _ (by simp[PV.names]))]; exact e)
 | eptr a hF e=>exact .eptr a hF e
 | own e=>exact .own (by rw[gK _ _ _ _ (hn _ (by simp[PV.names]))]; exact e)
 | aptr e=>exact .aptr (by rw[gK _ _ _ _ (hn _ (by simp[PV.names]))]; exact e)
 | map e=>exact .map (by rw[gK _ _ _ _ (hn _ (by simp[PV.names]))]; exact e)
 | nil=>exact .nil
 | np=>exact .np
 | any h=>exact .any h
 | lit h=>exact .lit h
 | ifx=>exact .ifx
 | fn hfn hs hr ih=>refine .fn hfn (by rw[Cd]; simp_all) fun j x v hx hv=>?_;rw[Cd,gQ]at hx;simp only[kC]at hx;obtain⟨y,hy,rfl⟩:=hx;exact ih j y v hy hv fun k hk=>hn k (by simp only[PV.names]; exact PV.names_go_mem hy hk)
 | tup hs hr ih=>refine .tup (by rw[Cd]; simp_all) fun j x v hx hv=>?_;rw[Cd,gQ]at hx;simp only[kC]at hx;obtain⟨y,hy,rfl⟩:=hx;exact ih j y v hy hv fun k hk=>hn k (by simp only[PV.names]; exact PV.names_go_mem hy hk)
 | agg hs hr ih=>refine .agg (by rw[Cd]; simp_all) fun j x v hx hv=>?_;rw[Cd,gQ]at hx;simp only[kC]at hx;obtain⟨y,hy,rfl⟩:=hx;exact ih j y v hy hv fun k hk=>hn k (by simp only[PV.names]; exact PV.names_go_mem hy hk)
theorem dA.rn{F:Nat->Prop}{g:Nat->Value}{w:World}{o o' k:Nat}{x:bA}(h:dA F g w k x)(hk:k≠o')(hn:∀ k,k∈x.names->k≠o'):dA F (upd g o' (g o)) w (rn1 o o' k) (x.rn o o'):=by
 cases x with
 | box l=>obtain⟨b,vs,ty,h1,h2,h3,h4⟩:=h;refine⟨b,vs,ty,by rw[gK _ _ _ _ hk]; exact h1,h2,by rw[Cd]; simp_all,fun j x v hx hv=>?_⟩;rw[Cd,gQ]at hx;simp only[kC]at hx;obtain⟨y,hy,rfl⟩:=hx;exact(h4 j y v hy hv).rn fun k hk=>hn k (by simp only[bA.names]; exact PV.names_go_mem hy hk)
 | arr e s n f=>
  simp only[bA.rn];rcases h with⟨h1,h2⟩ | ⟨b,cap,cur,h1,h⟩
  ·exact .inl ⟨by rw[gK _ _ _ _ hk]; exact h1,h2⟩
  ·exact .inr ⟨b,cap,cur,by rw[gK _ _ _ _ hk]; exact h1,h⟩
 | mpb n m=>obtain⟨b,es,cl,h1,h⟩:=h;exact⟨b,es,cl,by rw[gK _ _ _ _ hk]; exact h1,h⟩
 | bld ty e s=>obtain⟨b,p,v,h1,h⟩:=h;exact⟨b,p,v,by rw[gK _ _ _ _ hk]; exact h1,h⟩
 | arm e s n f ov=>
  simp only[bA.rn];rcases h with⟨h1,h2,h3⟩ | ⟨b,cap,cur,h1,h2,h3,h4,h5,J⟩
  ·subst h3; exact .inl ⟨by rw[gK _ _ _ _ hk]; exact h1,h2,rfl⟩
  ·refine .inr ⟨b,cap,cur,by rw[gK _ _ _ _ hk]; exact h1,h2,h3,h4,h5,J.len,J.cell,J.sep,J.own,fun i j p e=>?_⟩;rcases ov with _ | ⟨i',j',p'⟩
   ·cases e
   ·simp only[bEX,gJ,gE]at e;obtain⟨rfl,rfl,rfl⟩:=e;obtain⟨q1,q2,q3⟩:=J.ov _ _ _ rfl;exact⟨q1,q2,fun v hv=>(q3 v hv).rn fun q Q=>hn q (by simp[bA.names,ovN,Q])⟩
 | mp it m ho=>
  obtain⟨b,es,cl,h1,h2,l,r,D⟩:=h;refine⟨b,es,cl,by rw[gK _ _ _ _ hk]; exact h1,h2,l,r,D.perm,D.ent,?_,?_,D.born,D.old,D.sep,?_⟩
  ·rcases ho with _ | ⟨k',_ | p⟩
   ·exact D.hole
   ·exact D.hole
   ·obtain⟨e,Z,e2,e3⟩:=D.hole;exact⟨e,Z,e2,e3.rn fun q Q=>hn q (by simp[bA.names,hoN,Q])⟩
  ·have:hoK (bEA o o' ho)=hoK ho:=by rcases ho with _ | ⟨k',_ | p⟩ <;> rfl
   rw[this]; exact D.keys
  ·cases it with
   | none=>exact True.intro
   | some i=>obtain⟨r',G,M,c0,Z,e⟩:=D.it;exact⟨r',G,M,c0,by simp only; rw[gK _ _ _ _ (hn i.o (by simp[bA.names,itN]))]; exact Z,e⟩
theorem bC.rn{g:Nat->Value}{w:World}{o o' k:Nat}{x:bA}{b:Nat}(h:bC (upd g o' (g o)) w (rn1 o o' k) (x.rn o o') b)(hk:k≠o')(hn:∀ k,k∈x.names->k≠o'):bC g w k x b:=by
 have hs:=gK g o o' k hk;cases x with
 | box l=>exact .self (by have:=h.toBlk rfl; rwa [hs]at this)
 | arr e s n f=>exact .self (by have:=h.toBlk rfl; rwa [hs]at this)
 | mpb n m=>exact .self (by have:=h.toBlk rfl; rwa [hs]at this)
 | bld ty e s=>
  simp only[bA.rn]at h;cases h with
  | self h=>rw[hs]at h; exact .self h
  | bld h1 h2 h3=>rw[hs]at h1; exact .bld h1 h2 h3
 | arm e s n f ov=>
  simp only[bA.rn]at h;cases h with
  | self h=>rw[hs]at h; exact .self h
  | arm h1 h2 h3 h4 h5 h6 h7=>rw[hs]at h1; exact .arm h1 h2 h3 h4 h5 h6 h7
 | mp it m ho=>
  simp only[bA.rn]at h;generalize hit:bAH o o' it=it' at h;cases h with
  | self h=>rw[hs]at h; exact .self h
  | iter h=>
   cases it with
   | none=>cases hit
   | some i=>simp only[bAH,gJ]at hit;subst hit;rw[gK _ _ _ _ (hn i.o (by simp[bA.names,itN]))]at h;exact .iter h
  | mem h1 h2 h3 h4 h5 h6 h7=>rw[hs]at h1; exact .mem h1 h2 h3 h4 h5 h6 h7
theorem Le.rn{P:Program}{E:Env}{I:Inf}{st st':St}(hG:gN P E I){o o':Nat}(h:grn I.N o o' st=some st'):Le E st st':=by
 rintro a w ⟨F,g,r⟩;unfold grn at h;split at h
 ·rename_i st1 hn he;cases h;have Z:=St.erase_fr he;have D:=St.erase_hp he;refine⟨F,upd g o' (g o),r.nt,r.df,fun t x hx=>?_,⟨⟨fun k x hx=>?_,fun k x b hx hb=>?_,fun k x k' y b hx hy Q hb hb'=>?_⟩,r.w.f0,r.w.f1,r.w.ext,fun k hk=>?_,r.w.b0⟩⟩
  ·simp only[aGL,cU,gE]at hx;obtain⟨⟨t',y⟩,hy,rfl,rfl⟩:=hx;obtain⟨h1,h2⟩:=Z _ _ hy;exact(r.fr _ _ h1).rn h2
  ·simp only[aGL,cU,gE]at hx;obtain⟨⟨k',y⟩,hy,rfl,rfl⟩:=hx;obtain⟨z,h1,h2,h3,h4,_⟩:=D _ _ hy;exact(h4 _ _ _ (r.w.hp.obj _ _ h1)).rn h2 h3
  ·simp only[aGL,cU,gE]at hx;obtain⟨⟨k',y⟩,hy,rfl,rfl⟩:=hx;obtain⟨z,h1,h2,h3,h4,G⟩:=D _ _ hy;exact r.w.hp.own _ _ b h1 (G _ _ _ (hb.rn h2 h3))
  ·simp only[aGL,cU,gE]at hx hy;obtain⟨⟨k1,y1⟩,M,rfl,rfl⟩:=hx;obtain⟨⟨k2,y2⟩,J,rfl,rfl⟩:=hy;obtain⟨z1,h1,h2,h3,h4,G⟩:=D _ _ M;obtain⟨z2,h1',h2',h3',h4',h5'⟩:=D _ _ J;exact r.w.hp.sep _ _ _ _ b h1 h1' (fun e=>Q (by rw[e])) (G _ _ _ (hb.rn h2 h3)) (h5' _ _ _ (hb'.rn h2' h3'))
  ·rw[bP g _ (fun e:k=o'=>eX hn (by rw[<-e,<-hG.N]; exact hk))];exact r.w.names k hk
 ·cases h
def dZ{α:Type}:List (Nat×α)->List Nat
 | []=>[]
 | e::l=>e.1::dZ l
theorem uT{l:List (Nat×α)}:o∈dZ l↔∃ x,(o,x)∈l:=by
 induction l with
 | nil=>simp[dZ]
 | cons e l ih=>obtain⟨k,y⟩:=e;simp only[dZ,bE,ih,gE];grind
def aTB(Hs:Hp):Option (Nat×bA)->Hp
 | none=>Hs
 | some c=>Hs.map fun e=>match Nat.beq e.1 c.1 with | true=>(e.1,c.2) | false=>e
def mdC:Option (Nat×bA)->Option (Nat×bA×Option Nat)
 | none=>none
 | some (o,x)=>some (o,x,none)
structure aOY (P:Program)(k:Nat)(args:List PV)(r:PV)(Hs:Hp)(ch:Option (Nat×bA)):Prop where
 c:iC P k
 h:(Hs=[]/\ch=none/\∃ bps,(∀ st,lK st [] args bps)/\gX P k bps [] [] (Ret r))\/∃ bps N,(∀ st,lK st [] args bps)/\gX P k bps Hs N (vF r (aTB Hs ch))/\sX r (aTB Hs ch) N=true/\∀ c,ch=some c->c.1∈dZ Hs
 p:r.pure=true
def lkN:Nat:=1000000007
def cN:Nat:=1000000000
def Va(P:Program)(t:TypeId)(args:List PV)(r:PV)(Hs:Hp):Prop:=
 ∀ (F:Nat->Prop) (g:Nat->Value) (w:World) (u kv:Value) (x y:PV),args=[x,y]->VR F g w x u->VR F g w y kv->(∀ e,e∈Hs->dA F g w e.1 e.2)->∃ z,(Instr.lookup t u kv false).run P w = .ok z w/\VR F g w r z
def Rl:PV->Option Nat
 | .own d=>some d
 | .map d=>some d
 | _=>none
inductive Dv (P:Program)(k:Nat)(args:List PV)(r:PV)(Hs:Hp)(ch:Option (Nat×bA)):Prop where
 | call (hk:Nat.blt k cN=true) (hr:Rl r=none) (h:aOY P k args r Hs ch)
 | look (hk:Nat.blt k lkN=false) (h:Va P (k-lkN) args r Hs)
 | new (hk:Nat.blt k cN=true) {d e s n:Nat} {f:Nat->List T} (hr:r = .own d) (hH:Hs=[]) (hc:ch=some (d,.arr e s n f)) (c:iC P k) {bps:List PV} (ha:∀ st,lK st [] args bps)
   (h:gX P k bps [] [] (vF (.own d) [(d,.arr e s n f)]))
 | newH (hk:Nat.blt k cN=true) {d:Nat} {y:bA} (hr:r = .map d) (hc:ch=some (d,y)) (c:iC P k) {bps:List PV} {N:List Nat} (ha:∀ st,lK st [] args bps)
   (h:gX P k bps Hs N (vF (.map d) ((d,y)::Hs))) (hb:sX (.map d) ((d,y)::Hs) (N++[d])=true)
theorem Yt(h:Nat.blt k cN=true)(D:Nat.blt k lkN=false):False:=by
 rw[Nat.blt_eq]at h;have:Nat.blt k lkN=true:=by rw[Nat.blt_eq]; unfold lkN; unfold cN at h; omega
 simp_all
theorem Dv.l{P:Program}{args:List PV}{r:PV}{ch:Option (Nat×bA)}(h:Dv P k args r Hs ch)(hk:Nat.blt k lkN=false):Va P (k-lkN) args r Hs:=by
 cases h with
 | look _ h=>exact h
 | call hk' _ h=>exact(Yt hk' hk).elim
 | new hk'=>exact(Yt hk' hk).elim
 | newH hk'=>exact(Yt hk' hk).elim
theorem gX.renNew{P:Program}{bps:List PV}{e:Nat}{f:Nat->List T}(d:Nat)(h:gX P k bps [] [] (vF (.own o) [(o,.arr e s n f)])):gX P k bps [] [] (vF (.own d) [(d,.arr e s n f)]):=by
 intro F g w vs hs hv hH hF Q;refine(h F g w vs hs hv hH hF Q).mono ?_;rintro ex Z ⟨v,r,H',J,G,he,⟨rfl,rfl⟩,M,D⟩;refine⟨v,_,_,J,fun q=>if q=d then G o else G q,he,⟨rfl,rfl⟩,?_,⟨⟨?_,?_,?_⟩,D.f0,D.f1,D.ext,(fun q hq=>by cases hq),D.b0⟩⟩
 ·cases M with
  | own h=>exact .own (by simp[h])
 ·intro q x hx;obtain⟨rfl,rfl⟩:=Prod.mk.inj (cZ.1 hx);have:=D.hp.obj o _ (cZ.2 rfl);have this:qL J Z (G o) e s n f:=this;show qL J Z _ e s n f;simp_all
 ·intro q x b hx hb;obtain⟨rfl,rfl⟩:=Prod.mk.inj (cZ.1 hx);cases hb with
  | self hb=>exact D.hp.own o _ b (cZ.2 rfl) (.self (by simp_all))
 simp_all
def fzN:Nat:=1000000001
def Qk(P:Program)(k:Nat)(args:List PV)(r:PV)(Hs:Hp)(ch:Option (Nat×bA)):Prop:=
 (Nat.beq k fzN=true/\∃ n f x,args=[.t (.sl n f)]/\r = .t x/\∀ F g w v,VR F g w (.t (.sl n f)) v->VR F g w (.t x) v)\/Dv P k args r Hs ch
inductive Ub (P:Program):List (Nat×(Nat×List PV×PV×Hp×Option (Nat×bA)))->Prop
 | nil:Ub P []
 | cons {i k:Nat} {args:List PV} {r:PV} {Hs:Hp} {ch:Option (Nat×bA)} {l:List (Nat×(Nat×List PV×PV×Hp×Option (Nat×bA)))} (h:Qk P k args r Hs ch) (t:Ub P l):Ub P ((i,k,args,r,Hs,ch)::l)
theorem Ub.mem{P:Program}{l:List (Nat×(Nat×List PV×PV×Hp×Option (Nat×bA)))}(h:Ub P l):∀ e,e∈l->Qk P e.2.1 e.2.2.1 e.2.2.2.1 e.2.2.2.2.1 e.2.2.2.2.2:=by
 induction h with
 | nil=>simp
 | cons h _ ih=>grind
theorem Ko{l:List (Nat×α)}(h:look l o=none)(x:α):(o,x)∉l:=by
 induction l with
 | nil=>simp
 | cons e l ih=>
  obtain⟨k,y⟩:=e;unfold look at h;split at h
  ·cases h
  ·rename_i hb;intro hm;simp_all
theorem Aa{hp hp':Hp}{Hs:Hp}:∀ {Ks:Hp},mS hp (dZ Ks)=some Ks->(∀ e,e∈Ks->e∈Hs)->(∀ e,e∈Hs->look hp e.1=some e.2)->mS (Hs++hp') (dZ Ks)=some Ks
 | [],_,_,_=>rfl
 | (o,x)::Ks,h,hs,hh=>by
  simp only[dZ,mS]at h ⊢;split at h
  ·rename_i y r hy hr;injection h with h;injection h with h1 h2;injection h1 with h3 h4;subst h4; subst h2;rw[Aa hr (fun e he=>hs e (cO _ he)) hh];have hl:∀ {l:Hp},(∀ e,e∈l->look hp e.1=some e.2)->(o,y)∈l->look (l++hp') o=some y:=by
    intro l
    induction l with
    | nil=>simp_all
    | cons e l ih=>
     intro hl hm;obtain⟨k,z⟩:=e;simp only[vM,look];split
     ·simp_all
     ·rename_i hb;rcases bE.1 hm with he | hm
      all_goals simp_all
   rw[hl hh (hs _ (cS ..))]
  ·cases h
structure LOp where
 val:Option PV
 md:Option (Nat×bA×Option Nat)
 fs:List (Nat->Bool)
instance:Inhabited LOp:=⟨⟨none,none,[]⟩⟩
theorem Uc{l r:List (Nat×α)}{t:Nat}{x:α}(h:look l t=some x):look (l++r) t=some x:=by
 induction l with
 | nil=>simp[look]at h
 | cons e l ih=>obtain⟨k,u⟩:=e;simp only[vM];unfold look at h ⊢;grind
theorem Bg{st:St}{x:Operand}{p:PV}(h:ev st x=some p):ev ⟨st.fr++fr,hp⟩ x=some p:=by
 cases x with
 | tmp t=>exact Uc h
 | const v=>exact h
 | func f=>exact h
 | global _=>simp[ev]at h
theorem mM{st:St}{fr:Fr}{hp:Hp}:∀ {l:List Operand} {ps:List PV},iZ st l=some ps->iZ ⟨st.fr++fr,hp⟩ l=some ps
 | [],ps,h=>h
 | x::l,ps,h=>by
  simp only[iZ]at h ⊢;split at h
  ·rename_i p q hp' hq;cases h;rw[Bg hp',mM hq]
  ·cases h
theorem Cb{st:St}{fr:Fr}{hp:Hp}:∀ {l:List (Nat×Operand)} {ps:List (Nat×PV)},gM st l=some ps->gM ⟨st.fr++fr,hp⟩ l=some ps
 | [],ps,h=>h
 | (i,x)::l,ps,h=>by
  simp only[gM]at h ⊢;split at h
  ·rename_i p q hp' hq;cases h;rw[Bg hp',Cb hq]
  ·cases h
theorem oG{st:St}{ops:List Oper}{o:Oper}{b:Bool}(h:cC ops o st=some b):cC ops o ⟨st.fr++fr,hp⟩=some b:=by
 unfold cC at h ⊢;cases hg:o.guard with
 | none=>simp_all
 | some g=>
  obtain⟨j,D⟩:=g;rw[hg]at h;simp only at h ⊢;cases hj:ops[j]? with
  | none=>simp_all
  | some oj=>
   rw[hj]at h;simp only at h ⊢;cases hd:oj.dst with
   | none=>simp_all
   | some d=>
    rw[hd]at h;simp only at h ⊢;cases hl:look st.fr d with
    | none=>simp_all
    | some p=>rw[Uc hl]; simp_all
abbrev Eff:=Option PV×Option (Nat×bA×Option Nat)×List Prop×(List PV×Option Hp)×List (Nat->Bool)
def noA:List PV×Option Hp:=([],some [])
def aHE(ops:List Oper):Operand->Option Nat
 | .tmp t=>match ops.find? (fun o=>match o.dst with | some d=>Nat.beq d t | none=>false) with
  | some o=>match o.op with | .buildSlice _ len _=>some len | _=>none
  | none=>none
 | _=>none
def Fh(ops:List Oper)(x:Operand)(m s:Nat)(f:Nat->List T):Bool×List (Nat->Bool):=match aHE ops x with
 | some n=>(Nat.beq n m&&(List.range n).all fun i=>lF s (f i),[])
 | none=>(true,[fun i=>lF s (f i)])
def aJV(I:Inf)(ops:List Oper)(st:St)(args:List Operand)(ats:List Nat)(d:Nat):Option Eff:=
 match args,ats with
 | [s,x],[t,t']=>match Nat.beq t t',I.ti t,ev st s,ev st x with
  | true,some i,some p,some q=>match i.und,wQ st q with
   | .sl e,some (m,f2,none)=>match I.ti e with
    | some j=>match Nat.ble 1 j.size&&(Nat.ble 1 j.bytes&&(Nat.beq j.zero.length j.size&&(Fh ops x m j.size f2).1)),Nat.blt d I.nt,qG d I.N with
     | true,true,true=>match p with
      | .nil=>some (some (.own d),some (d,.arr e j.size m f2,none),[(0+m)*j.bytes<=140737488355328],noA,(Fh ops x m j.size f2).2)
      | .own o=>match look st.hp o with
       | some (.arr e' s' n f1)=>match Nat.beq e e'&&Nat.beq s' j.size with
        | true=>match aHE ops s with
         | some 0=>match Nat.beq n 0 with
          | true=>some (some (.own d),some (d,.arr e j.size m f2,some o),[(0+m)*j.bytes<=140737488355328],noA,(Fh ops x m j.size f2).2)
          | false=>none
         | _=>some (some (.own d),some (d,.arr e j.size (n+m) (pJ n f1 f2),some o),[(n+m)*j.bytes<=140737488355328],noA,(Fh ops x m j.size f2).2)
        | false=>none
       | _=>none
      | _=>none
     | _,_,_=>none
    | none=>none
   | _,_=>none
  | _,_,_,_=>none
 | _,_=>none
def Ti(I:Inf)(ops:List Oper)(ca:Option (Nat×List PV×PV×Hp×Option (Nat×bA)))(o:Oper)(st:St):Option Eff:=
 match cC ops o st with
 | none=>none
 | some false=>match o.dst with
  | some d=>match Nat.blt d I.nt with | true=>some (some (.tup []),none,[],noA,[]) | false=>none
  | none=>some (none,none,[],noA,[])
 | some true=>match ca with
  | some (k,_,r,Hs,ch)=>match o.op,o.dst with
   | .call c,some d=>match c.callee with
    | .value f=>match ev st f,iZ st c.args.toList,Nat.blt d I.nt with
     | some (.fn (.func k') nf caps),some as,true=>match Nat.beq k' k,Nat.blt k cN,(match Rl r with | some q=>Nat.beq q d&&qG d I.N | none=>true) with
      | true,true,true=>some (some r,mdC ch,[],(caps.take nf++as++caps.drop nf,mS st.hp (dZ Hs)),[])
      | _,_,_=>none
     | _,_,_=>none
    | _=>none
   | .lookup t x kx false,some d=>match ev st x,ev st kx,Nat.blt d I.nt,Nat.beq k (lkN+t) with
    | some (.map ob),some (.t kp),true,true=>some (some r,none,[],([.map ob,.t kp],mS st.hp (dZ Hs)),[])
    | _,_,_,_=>none
   | _,_=>none
  | none=>match o.op,o.dst with
   | .alloc e,some d=>match I.ti e,Nat.blt d I.nt,qG d I.N with
    | some i,true,true=>some (some (.ptr d 0),some (d,.box i.zero,none),[],noA,[])
    | _,_,_=>none
   | .store t a x,none=>match I.ti t,ev st a,ev st x with
    | some i,some (.ptr b off),some q=>match look st.hp b with
     | some (.box l)=>match Nat.beq q.cells.length i.size,Nat.ble (off+i.size) l.length,q.cells.all PV.one with
      | true,true,true=>some (none,some (b,.box (l.take off++q.cells++l.drop (off+i.size)),none),[],noA,[])
      | _,_,_=>none
     | _=>none
    | some i,some (.aptr b s k off),some q=>match look st.hp b,Hh q.cells with
     | some (.arr e s' n f),some c=>match Nat.beq s' s,Nat.beq c.length i.size,Nat.ble (off+i.size) s,q.cells.all PV.one with
      | true,true,true,true=>some (none,some (b,.arr e s' n (vE f k (aOU s' (f k) off c)),none),[k<n],noA,[])
      | _,_,_,_=>none
     | some (.arm e s' n f ov),_=>match Nat.beq s' s,Nat.beq i.size 1,Nat.ble (off+1) s,q.one,Qq ov f k off q with
      | true,true,true,true,some (f',ov')=>some (none,some (b,.arm e s' n f' ov',none),[k<n],noA,[])
      | _,_,_,_,_=>none
     | _,_=>none
    | _,_,_=>none
   | .buildSlice t 0 ⟨[]⟩,some d=>match I.ti t with
    | some i=>match i.und with
     | .sl e=>match I.ti e with
      | some j=>match Nat.ble 1 j.size,Nat.beq j.zero.length j.size,Nat.blt d I.nt,qG d I.N with
       | true,true,true,true=>some (some (.own d),some (d,.arr e j.size 0 (jM [] j.size),none),[],noA,[])
       | _,_,_,_=>none
      | none=>none
     | _=>none
    | none=>none
   | .buildSlice t len parts,some d=>match I.ti t,gM st parts.toList with
    | some i,some ps=>match i.und with
     | .sl e=>match I.ti e with
      | some j=>match Nat.ble (len*j.size) 16777216,Nat.ble 1 j.size,Nat.beq j.zero.length j.size,nU (fun i=>some (i*j.size,j.size)) (fC j (len*j.size)) ps with
       | true,true,true,some c=>match Hh c,Nat.beq c.length (len*j.size),Nat.blt d I.nt with
        | some ts,true,true=>some (some (.t (.sl len (jM ts j.size))),none,[],noA,[])
        | _,_,_=>none
       | _,_,_,_=>none
      | none=>none
     | _=>none
    | _,_=>none
   | .box ..,_=>none
   | .buildSlice ..,_=>none
   | .makeMap ..,_=>none
   | .mapUpdate ..,_=>none
   | .store ..,_=>none
   | .call { callee:=.builtin .append,args:=args,argTypes:=ats },some d=>aJV I ops st args.toList ats.toList d
   | op,some d=>match pev I st op,Nat.blt d I.nt with
    | some (x,C),true=>some (some x,none,oZ (isC st op) C,noA,[])
    | _,_=>none
   | _,none=>none
def jU(o:Oper):Option Nat:=match o.op,o.dst with
 | .alloc _,some d=>some d
 | .buildSlice _ 0 ⟨[]⟩,some d=>some d
 | .call { callee:=.builtin .append,.. },some d=>some d
 | .call { callee:=.value _,.. },some d=>some d
 | _,_=>none
def aVP(I:Inf)(ops:List Oper)(o:Oper)(st:St)(r:PV)(x:Option Eff):Option Eff:=match jU o,o.dst,x,cC ops o st with
 | some d,some d1,some (some (.own d2),some (d3,.arr e s n f,k),C,_,fs),some true=>match Nat.beq d1 d,Nat.beq d2 d,Nat.beq d3 d,qG d I.N with
  | true,true,true,true=>some (some r,some (d,.arr e s 0 f,k),C,([.t (.sl n f)],some []),fs)
  | _,_,_,_=>none
 | _,_,_,_=>none
def aFM(I:Inf)(ops:List Oper)(ca:Option (Nat×List PV×PV×Hp×Option (Nat×bA)))(o:Oper)(st:St):Option Eff:=
 match ca with
 | some (k,a,r,Hs,ch)=>match Nat.beq k fzN with
  | true=>aVP I ops o st r (Ti I ops none o st)
  | false=>Ti I ops (some (k,a,r,Hs,ch)) o st
 | none=>Ti I ops none o st
def Rz:Option Nat->Hp->Hp
 | some k,l=>del k l
 | none,l=>l
def oR(S:St)(d:Option Nat)(v:Option PV)(md:Option (Nat×bA×Option Nat)):St:=
 ⟨match d,v with | some d,some x=>(d,x)::del d S.fr | _,_=>S.fr,match md with | some (o,c,k)=>(o,c)::del o (Rz k S.hp) | none=>S.hp⟩
section
variable {P:Program} {E:Env} {I:Inf} {Q:iK}
theorem Fp{d:Nat}:∀ {l:Hp},(∀ e,e∈l->Nat.beq e.1 d=false/\e.2.mentions d=false)->Tg d l=some l
 | [],_=>rfl
 | (k,x)::l,h=>by
  have h1:=h _ (cS ..);have hx:x.er d=some x:=by
   cases x with
   | box c=>
    have hc:∀ (c:List PV),(∀ k,k∈PV.names.go c->k≠d)->qQ d c=some c:=by
     intro c
     induction c with
     | nil=>intro _; rfl
     | cons y c ih=>
      intro hh;have hy:y.mentions d=false:=by unfold PV.mentions;rw[Sz];intro k hk hb;exact hh k (by simp[PV.names.go,hk]) (bS hb)
      have:=ih fun k hk=>hh k (by simp[PV.names.go,hk]);simp only[qQ,PV.er,hy,this]
    simp only[bA.er];rw[hc c (fun k hk=>bA.not_mentions h1.2 k (by simpa[bA.names] using hk))]
   | arr=>rfl
   | mpb=>rfl
   | bld=>rfl
   | arm e s n f ov=>
    have hn:=bA.not_mentions h1.2;have e1:Ud d ov=ov:=by
     rcases ov with _ | ⟨i,j,p⟩
     ·rfl
     ·have hp:p.mentions d=false:=by unfold PV.mentions;rw[Sz];intro k hk hb;exact hn k (by simp[bA.names,ovN,hk]) (bS hb)
      simp only[Ud,hp]
    simp only[bA.er,e1]
   | mp it m ho=>
    have hn:=bA.not_mentions h1.2;have e1:Qz d it=it:=by
     cases it with
     | none=>rfl
     | some i=>
      have:=hn i.o (by simp[bA.names,itN]);simp only[Qz];split
      all_goals simp_all
    have e2:Oe d ho=ho:=by
     rcases ho with _ | ⟨k',_ | p⟩
     ·rfl
     ·rfl
     ·have hp:p.mentions d=false:=by unfold PV.mentions;rw[Sz];intro k hk hb;exact hn k (by simp[bA.names,hoN,hk]) (bS hb)
      simp only[Oe,hp]
    simp only[bA.er,e1,e2]
  simp only[Tg,h1.1,hx,Fp fun e he=>h e (cO _ he)]
theorem nX{S:St}(h1:∀ e,e∈S.fr->e.2.mentions d=false)(h2:∀ e,e∈S.hp->Nat.beq e.1 d=false/\e.2.mentions d=false):S.erase d=some S:=by
 unfold St.erase;rw[Fp h2];have:S.fr.filter (fun e=>!(e.2.mentions d))=S.fr:=Tq.2 fun e he=>by simp[h1 e he]
 simp[this]
theorem cG.sub{F:Nat->Prop}{g:Nat->Value}{st st':St}{a:Act}{w:World}(r:cG E F g st a w)(hf:∀ e,e∈st'.fr->e∈st.fr)(D:∀ e,e∈st'.hp->e∈st.hp):cG E F g st' a w:=
 ⟨r.nt,r.df,fun t x hx=>r.fr t x (hf _ hx),⟨r.w.hp.sub D,r.w.f0,r.w.f1,r.w.ext,r.w.names,r.w.b0⟩⟩
theorem Lt{l:List Nat}(h:∀ k,k∈l->k≠d):vS l [d]=true:=by
 unfold vS;rw[fT];intro k hk;cases hb:inN k [d] with
 | false=>rfl
 | true=>exact absurd (cZ.1 (dT.1 hb)) (h k hk)
theorem Br{p:PV}(h:p.pure=true):Rl p=none:=by cases p <;> first | rfl | (simp[PV.pure,PV.names]at h)
theorem He{l:List (Nat×α)}{x:Nat×α}(h:x∈del o l):x∈l:=by obtain⟨k,y⟩:=x;exact(bB.1 h).1
theorem aMG{k:Option Nat}{l:Hp}{x:Nat×bA}(h:x∈del o (Rz k l)):x∈l:=by
 have h1:=He h;cases k with
 | none=>exact h1
 | some k=>exact He h1
theorem Rel.fzRow{e:Nat}{f:Nat->List T}(hN:I.N=E.N)(hd:qG d I.N=true)(h1:∀ x,x∈fr->x.2.mentions d=false)(h2:∀ x,x∈hp->Nat.beq x.1 d=false/\x.2.mentions d=false){a:Act}{w:World}
  (r:Rel E ⟨(d,.own d)::fr,(d,.arr e s n f)::hp⟩ a w):Rel E ⟨(d,.t (.sl n f))::fr,(d,.arr e s 0 f)::hp⟩ a w:=by
 obtain⟨F,g,r⟩:=r;have Q:=r.w.hp.obj d (.arr e s n f) cS;have Z:Rd (fun b=>F b\/blk (g d)=some b) w (.sl n f) (g d):=Fl Q (fun b hb=>.inl hb) (fun b hb=>.inr hb) rfl;have J:∀ x,x∈hp->x.1≠d:=fun x hx e=>by have:=(h2 x hx).1; simp_all
 have D:∀ k y b,(k,y)∈hp->bC (upd g d (.slice none 0 0)) w k y b->bC g w k y b:=fun k y b hy hb=>
  hb.mono (bP g _ (J _ hy)) (fun q M=>bP g _ (bA.not_mentions (h2 _ hy).2 q M)) (fun _ _=>rfl)
 have hno:∀ b,¬ bC (upd g d (.slice none 0 0)) w d (.arr e s 0 f) b:=fun b hb=>by have hb:=hb.toBlk rfl; rw[bJ]at hb; simp[blk]at hb
 refine⟨fun b=>F b\/blk (g d)=some b,upd g d (.slice none 0 0),r.nt,r.df,fun t x hx=>?_,⟨⟨fun k y hy=>?_,fun k y b hy hb=>?_,fun k y k' y' b hy G hkk hb hb'=>?_⟩,fun b hb=>.inl (r.w.f0 b hb),fun b hb=>?_,r.w.ext,fun k hk=>?_,r.w.b0⟩⟩
 ·rcases bE.1 hx with hx | hx
  ·cases hx;have:=r.fr d (.own d) cS;generalize a.tmps.getD d undef=u at this;have he:u=g d:=by cases this with | own hg=>simp_all
   rw[he];exact .t Z
  ·exact(r.fr t x (cO _ hx)).mono (fun b hb=>⟨.inl hb,rfl⟩) (fun q M=>bP g _ (PV.not_mentions (h1 _ hx) q M))
 ·rcases bE.1 hy with hy | hy
  ·cases hy; exact .inl ⟨bJ ..,rfl⟩
  ·exact(r.w.hp.obj k y (cO _ hy)).mono (fun b hb=>⟨.inl hb,rfl⟩) (bP g _ (J _ hy)) (fun q M=>bP g _ (bA.not_mentions (h2 _ hy).2 q M)) (fun _ _=>rfl)
 ·rcases bE.1 hy with hy | hy
  ·simp_all
  ·have hb:=D k y b hy hb;have:=r.w.hp.own k y b (cO _ hy) hb;refine⟨?_,this.2⟩;rintro (h | h)
   ·simp_all
   ·exact r.w.hp.sep k y d _ b (cO _ hy) cS (J _ hy) hb (.self h)
 ·rcases bE.1 hy with hy | hy
  ·simp_all
  ·rcases bE.1 G with G | G
   ·simp_all
   ·exact r.w.hp.sep k y k' y' b (cO _ hy) (cO _ G) hkk (D k y b hy hb) (D k' y' b G hb')
 ·rcases hb with hb | hb
  ·exact r.w.f1 b hb
  ·have:=(r.w.hp.own d _ b cS (.self hb)).2;exact⟨Q.block hb,this.elim (fun h=>.inr (.inl h)) (fun h=>.inr (.inr h))⟩
 ·rw[bP g _ (fun e:k=d=>eX hd (hN▸e▸hk))];exact r.w.names k hk
theorem Ny(Z:gN P E I){ops:List Oper}{o:Oper}{S st:St}{ca:Option (Nat×List PV×PV×Hp×Option (Nat×bA))}(hca:∀ k args r Hs ch,ca=some (k,args,r,Hs,ch)->Dv P k args r Hs ch)(hfr:∀ e,e∈st.fr->e∈S.fr)
  (Q:∀ e,e∈st.hp->e∈S.hp){v:Option PV}{md:Option (Nat×bA×Option Nat)}{as:List PV×Option Hp}{fs:List (Nat->Bool)}(huq:∀ k x y,(k,x)∈S.hp->(k,y)∈S.hp->x=y)(h:Ti I ops ca o st=some (v,md,Cs,as,fs))(hC:All Cs)(hfs:∀ f,f∈fs->∀ i,f i=true)
  (has:∀ k args r Hs ch,ca=some (k,args,r,Hs,ch)->cC ops o st=some true->as=(args,some Hs))(G:∀ d,jU o=some d->(∀ e,e∈S.fr->e.2.mentions d=false)/\∀ e,e∈S.hp->Nat.beq e.1 d=false/\e.2.mentions d=false){a:Act}{w:World}(r:Rel E S a w)
  {K:Act->World->Prop}(hk:∀ a' w',Rel E (oR S o.dst v md) a' w'->K a' w'):
  if Region.wanted o (yielded ops.toArray a.tmps) then o.wp P a w K Q' else K (a.put o.dst undef) w:=by
 obtain⟨F,g,r⟩:=r;have ri:=r.sub hfr Q;unfold Ti at h;split at h
 ·cases h
 ·
  rename_i hw;rw[aF (by rw[iD (ops:=ops.toArray) ri (by simpa using hw)]; simp)];split at h
  ·rename_i d J;split at h
   ·rename_i hlt;cases h;refine hk _ _ ?_;rw[J];exact⟨F,g,r.put (by rw[Z.nt]; simp_all) (.tup rfl (fun j x v hx=>by simp at hx))⟩
   ·cases h
  ·rename_i J;cases h;refine hk _ _ ?_;rw[J];exact⟨F,g,r⟩
 ·rename_i hw;have hwt:=iD (ops:=ops.toArray) ri (by simpa using hw);split at h
  ·
   rename_i k args res Hs ch;have hok:=hca _ _ _ _ _ rfl;have has':=has _ _ _ _ _ rfl hw;split at h
   ·rename_i c d D J;split at h
    ·rename_i f hcal;split at h
     ·rename_i k' nf caps as' hf hargs hnt;split at h
      ·rename_i hkk hkl hno;have hkk:=bS hkk;subst hkk;cases h;injection has' with has1 has2;subst has1;cases hok with
       | look hk' _=>exact(Yt hkl hk').elim
       | @new _ d' e s n f hr hH hch hcc bps hb1 hb2=>
        subst hr hH hch;simp only[Rl,cQ]at hno;obtain⟨hno1,hno2⟩:=hno;have hno1:=bS hno1;subst hno1;obtain⟨hcl1,hcl2⟩:=G _ (by unfold jU; rw[D,J]; obtain⟨cc,ca,ct⟩:=c; simp only at hcal; subst hcal; rfl);have r2:Rel E ⟨st.fr++S.fr,S.hp⟩ a w:=⟨F,g,r.sub (fun e he=>by grind) (fun e he=>he)⟩;refine xJ Z [] [] [d'] (bps:=bps) D hcal J (oG hw) hnt (Bg hf) (mM hargs) hcc (hb1 _) rfl ?_ hb2 r2 (fun r' H' hr=>?_)
        ·simp only[qH,rH,cQ,fT];refine⟨⟨fun e he=>?_,fun e he=>?_⟩,?_⟩
         ·have:=hcl1 e (by grind);exact Lt (PV.not_mentions this)
         ·obtain⟨h1,h2⟩:=hcl2 e (iQ.1 he).1;refine⟨?_,Lt (bA.not_mentions h2)⟩;rw[mT];cases hb:inN e.1 [d'] with
          | false=>rfl
          | true=>rw[cZ.1 (dT.1 hb),Ci]at h1; cases h1
         ·exact Lt fun k hk e=>eX hno2 (e▸hk)
        ·unfold vF at hr;obtain⟨rfl,rfl⟩:=hr;refine⟨by simp[sX,Zd,PV.names,bA.names,inN],fun a' w' r'=>hk a' w' ?_⟩;refine r'.sub (fun e he=>?_) (fun e he=>?_)
         ·simp only[oR,J]at he;simp only[St.put];rcases bE.1 he with rfl | he
          ·exact cS ..
          ·refine cO _ ?_;obtain⟨k,y⟩:=e;obtain⟨h1,h2⟩:=bB.1 he;exact bB.2 ⟨sT _ h1,h2⟩
         ·simp only[oR,mdC,Rz]at he;simp only[St.put,dW];rcases bE.1 he with rfl | he
          ·simp_all
          ·obtain⟨k,y⟩:=e;obtain⟨h1,h2⟩:=bB.1 he;exact .inr (iQ.2 ⟨h1,by rfl⟩)
       | @newH _ d' y hr hch hcc bps N hb1 hb2 hb3=>
        subst hr hch;simp only[Rl,cQ]at hno;obtain⟨hno1,hno2⟩:=hno;have hno1:=bS hno1;subst hno1;obtain⟨hcl1,hcl2⟩:=G _ (by unfold jU; rw[D,J]; obtain⟨cc,ca,ct⟩:=c; simp only at hcal; subst hcal; rfl);have hin:∀ e,e∈Hs->e∈st.hp:=fun e he=>(pS has2 e he).1;have r2:Rel E ⟨st.fr++S.fr,Hs++S.hp⟩ a w:=⟨F,g,r.sub (fun e he=>by
         rcases dW.1 he with he | he
         ·exact hfr e he
         ·exact he) (fun e he=>by
         rcases dW.1 he with he | he
         ·exact Q e (hin e he)
         ·exact he)⟩
        have hlk:∀ e,e∈Hs->look st.hp e.1=some e.2:=by
         intro e he;have hm:=hin e he;obtain⟨x,hx⟩:∃ x,look st.hp e.1=some x:=by
          cases hl:look st.hp e.1 with
          | some x=>exact⟨x,rfl⟩
          | none=>exact absurd hm (Ko hl e.2)
         rw[hx,huq e.1 x e.2 (Q _ (aX hx)) (Q _ hm)]
        refine xJ Z (dZ Hs) N [d'] (bps:=bps) D hcal J (oG hw) hnt (Bg hf) (mM hargs) hcc (hb1 _) (Aa has2 (fun e he=>he) hlk) ?_ hb2 r2 (fun r' H' hr=>?_)
        ·simp only[qH,cQ,fT];refine⟨⟨fun e he=>?_,fun e he=>?_⟩,?_⟩
         ·have:=hcl1 e (by grind);exact Lt (PV.not_mentions this)
         ·have he2:e∈S.hp:=by
           rcases dW.1 (gS he).1 with h | h
           all_goals simp_all
          obtain⟨h1,h2⟩:=hcl2 e he2;refine⟨?_,Lt (bA.not_mentions h2)⟩;rw[mT];cases hb:inN e.1 [d'] with
          | false=>rfl
          | true=>rw[cZ.1 (dT.1 hb),Ci]at h1; cases h1
         ·exact Lt fun k hk e=>eX hno2 (e▸hk)
        ·unfold vF at hr;obtain⟨rfl,rfl⟩:=hr;refine⟨hb3,fun a' w' r'=>hk a' w' ?_⟩;refine r'.sub (fun e he=>?_) (fun e he=>?_)
         ·simp only[oR,J]at he;simp only[St.put];rcases bE.1 he with rfl | he
          ·exact cS ..
          ·refine cO _ ?_;obtain⟨k,y⟩:=e;obtain⟨h1,h2⟩:=bB.1 he;exact bB.2 ⟨sT _ h1,h2⟩
         ·simp only[oR,mdC,Rz]at he;simp only[St.put,dW];rcases bE.1 he with rfl | he
          ·simp_all
          ·obtain⟨k,y⟩:=e;obtain⟨h1,h2⟩:=bB.1 he;by_cases hke:k∈dZ Hs
           ·obtain⟨z,hz⟩:=uT.1 hke;grind
           ·refine .inr (iQ.2 ⟨sT _ h1,?_⟩);cases hb:inN k (dZ Hs) with
            | false=>rfl
            | true=>exact absurd (dT.1 hb) hke
       | call _ _ hok=>
       rcases hok.h with⟨-,hch,bps,hb1,hb2⟩ | ⟨bps,N,hb1,hb2,hb3,hb4⟩
       ·have r2:Rel E ⟨st.fr++S.fr,S.hp⟩ a w:=⟨F,g,r.sub (fun e he=>by grind) (fun e he=>he)⟩;refine aCB Z [] (bps:=bps) D hcal J (oG hw) hnt (Bg hf) (mM hargs) hok.c (hb1 _) hb2 r2 (fun r' H' hr=>?_);unfold Ret at hr;subst hr;refine⟨hok.p,fun a' w' r'=>hk a' w' ?_⟩;subst hch;refine r'.sub (fun e he=>?_) (fun e he=>he);simp only[oR,J]at he;simp only[St.put];rcases bE.1 he with rfl | he
        ·simp_all
        ·refine cO _ ?_;obtain⟨k,y⟩:=e;obtain⟨h1,h2⟩:=bB.1 he;exact bB.2 ⟨sT _ h1,h2⟩
       ·have hin:∀ e,e∈Hs->e∈st.hp:=fun e he=>(pS has2 e he).1;have r2:Rel E ⟨st.fr++S.fr,Hs++S.hp⟩ a w:=⟨F,g,r.sub (fun e he=>by
         rcases dW.1 he with he | he
         ·exact hfr e he
         ·exact he) (fun e he=>by
         rcases dW.1 he with he | he
         ·exact Q e (hin e he)
         ·exact he)⟩
        have hlk:∀ e,e∈Hs->look st.hp e.1=some e.2:=by
         intro e he;have hm:=hin e he;obtain⟨x,hx⟩:∃ x,look st.hp e.1=some x:=by
          cases hl:look st.hp e.1 with
          | some x=>exact⟨x,rfl⟩
          | none=>exact absurd hm (Ko hl e.2)
         rw[hx,huq e.1 x e.2 (Q _ (aX hx)) (Q _ hm)]
        refine xJ Z (dZ Hs) N [] (bps:=bps) D hcal J (oG hw) hnt (Bg hf) (mM hargs) hok.c (hb1 _) (Aa has2 (fun e he=>he) hlk) (by simp[qH,vS,inN]) hb2 r2 (fun r' H' hr=>?_);unfold vF at hr;obtain⟨rfl,rfl⟩:=hr;refine⟨by simp_all,fun a' w' r'=>hk a' w' ?_⟩;refine r'.sub (fun e he=>?_) (fun e he=>?_)
        ·simp only[oR,J]at he;simp only[St.put];rcases bE.1 he with rfl | he
         ·simp_all
         ·refine cO _ ?_;obtain⟨k,y⟩:=e;obtain⟨h1,h2⟩:=bB.1 he;exact bB.2 ⟨sT _ h1,h2⟩
        ·simp only[St.put,dW];cases hch:ch with
         | none=>
          rw[hch]at he;simp only[oR,mdC]at he;by_cases hke:e.1∈dZ Hs
          ·obtain⟨x,hx⟩:=uT.1 hke;have:=huq e.1 x e.2 (Q _ (hin _ hx)) he;subst this;exact .inl hx
          ·refine .inr (iQ.2 ⟨sT _ he,?_⟩);cases hb:inN e.1 (dZ Hs) with
           | false=>rfl
           | true=>exact absurd (dT.1 hb) hke
         | some c=>
          have hk1:=hb4 c hch;rw[hch]at he;obtain⟨o',x'⟩:=c;simp only[oR,mdC,Rz]at he;rcases bE.1 he with rfl | he
          ·obtain⟨z,hz⟩:=uT.1 hk1;refine .inl (cU.2 ⟨_,hz,?_⟩);simp_all
          ·obtain⟨k,y⟩:=e;obtain⟨h1,h2⟩:=bB.1 he;by_cases hke:k∈dZ Hs
           ·obtain⟨z,hz⟩:=uT.1 hke;have:=huq k z y (Q _ (hin _ hz)) h1;subst this;refine .inl (cU.2 ⟨_,hz,?_⟩);have hb:Nat.beq k o'=false:=by
             cases hb:Nat.beq k o' with
             | false=>rfl
             | true=>simp_all
            simp_all
           ·refine .inr (iQ.2 ⟨sT _ h1,?_⟩);cases hb:inN k (dZ Hs) with
            | false=>rfl
            | true=>exact absurd (dT.1 hb) hke
      ·cases h
     ·cases h
    ·cases h
   ·
    rename_i t x kx d D J;split at h
    ·rename_i ob kp hx hkx hnt hkt;have hkt:=bS hkt;subst hkt;have hl:=hok.l (by cases hb:Nat.blt (lkN+t) lkN with | false=>rfl | true=>rw[Nat.blt_eq]at hb; omega)
     rw[Nat.add_sub_cancel_left]at hl;cases h;injection has' with has1 has2;obtain⟨z,h1,h2⟩:=hl F g w _ _ _ _ has1.symm (bT ri hx) (bT ri hkx) (fun e he=>r.w.hp.obj _ _ (Q _ (pS has2 e he).1));rw[aA hwt];unfold Oper.wp;have M:(execOp a.eval o).run P w = .ok (.value z) w:=by unfold execOp; simp_all
     rw[M];refine hk _ _ ?_;rw[J];exact⟨F,g,r.put (by rw[Z.nt]; simp_all) h2⟩
    ·cases h
   ·cases h
  ·split at h
   ·
    rename_i e d D J;split at h
    ·rename_i i hi hnt hN;cases h;have he:S.erase d=some S:=nX (G d (by unfold jU; rw[D,J])).1 (G d (by unfold jU; rw[D,J])).2;obtain⟨v,w',h1,h2⟩:=Rg Z.ti Z.N Z.nt r hi (st':=_) (by unfold fS; rw[hnt,hN,he]);rw[aA hwt];unfold Oper.wp;have M:(execOp a.eval o).run P w = .ok (.value v) w':=by unfold execOp; simp_all
     rw[M];simp only[Oper.upon];refine hk _ _ ?_;rw[J];refine h2.sub (fun e he=>he) (fun e he=>?_);simp only[oR]at he;rcases bE.1 he with rfl | he
     ·exact cS ..
     ·exact cO _ (bB.1 he).1
    ·cases h
   ·
    rename_i t x y D J;split at h
    ·rename_i i b off q hi hx hy;split at h
     ·rename_i l hl;split at h
      ·rename_i c1 c2 c3;cases h;have hmem:(b,bA.box l)∈S.hp:=Q _ (aX hl);have r1:cG E F g ⟨S.fr,(b,.box l)::S.hp⟩ a w:=r.sub (fun e he=>he) (fun e he=>by grind);obtain⟨-,w',h1,h2⟩:=uQ (P:=P) r1 (Z.ti _ _ hi) (d:=none) (p:=.ptr b off) (x:=q) (C:=True)
        (by unfold vU; simp only[look,Ci,c1,c2,c3]; rfl) trivial (bT ri hx) (bT ri hy)
       rw[aA hwt];unfold Oper.wp;have M:(execOp a.eval o).run P w = .ok .skip w':=by unfold execOp; simp[D,h1]
       rw[M];simp only[Oper.upon];refine hk _ _ ?_;rw[J];refine⟨F,g,h2.sub (fun e he=>he) (fun e he=>?_)⟩;simp only[oR]at he;rcases bE.1 he with rfl | he
       ·exact cS ..
       ·refine cO _ ?_;obtain⟨k,y⟩:=e;obtain⟨h3,h4⟩:=bB.1 he;exact bB.2 ⟨cO _ h3,h4⟩
      ·cases h
     ·cases h
    ·rename_i i b ss kk off q hi hx hy;split at h
     ·rename_i e s' n f c hl hc;split at h
      ·rename_i c1 c2 c3 c4;cases h;have hmem:(b,bA.arr e s' n f)∈S.hp:=Q _ (aX hl);have r1:cG E F g ⟨S.fr,(b,.arr e s' n f)::S.hp⟩ a w:=r.sub (fun e he=>he) (fun e he=>by grind);obtain⟨-,w',h1,h2⟩:=uQ (P:=P) r1 (Z.ti _ _ hi) (d:=none) (p:=.aptr b ss kk off) (x:=q) (C:=kk<n)
        (by unfold vU; simp only[look,Ci,hc,c1,c2,c3,c4]; rfl) hC (bT ri hx) (bT ri hy)
       rw[aA hwt];unfold Oper.wp;have M:(execOp a.eval o).run P w = .ok .skip w':=by unfold execOp; simp[D,h1]
       rw[M];simp only[Oper.upon];refine hk _ _ ?_;rw[J];refine⟨F,g,h2.sub (fun e he=>he) (fun e he=>?_)⟩;simp only[oR]at he;rcases bE.1 he with rfl | he
       ·exact cS ..
       ·refine cO _ ?_;obtain⟨k,y⟩:=e;obtain⟨h3,h4⟩:=bB.1 he;exact bB.2 ⟨cO _ h3,h4⟩
      ·cases h
     ·rename_i e s' n f ov hl;split at h
      ·rename_i f' ov' c1 c2 c3 c4 c5;cases h;have hmem:(b,bA.arm e s' n f ov)∈S.hp:=Q _ (aX hl);have r1:cG E F g ⟨S.fr,(b,.arm e s' n f ov)::S.hp⟩ a w:=r.sub (fun e he=>he) (fun e he=>by grind);obtain⟨-,w',h1,h2⟩:=uQ (P:=P) r1 (Z.ti _ _ hi) (d:=none) (p:=.aptr b ss kk off) (x:=q) (C:=kk<n)
        (by unfold vU; simp only[look,Ci,c1,c2,c3,c4,c5]; rfl) hC (bT ri hx) (bT ri hy)
       rw[aA hwt];unfold Oper.wp;have M:(execOp a.eval o).run P w = .ok .skip w':=by unfold execOp; simp[D,h1]
       rw[M];simp only[Oper.upon];refine hk _ _ ?_;rw[J];refine⟨F,g,h2.sub (fun e he=>he) (fun e he=>?_)⟩;simp only[oR]at he;rcases bE.1 he with rfl | he
       ·exact cS ..
       ·refine cO _ ?_;obtain⟨k,y⟩:=e;obtain⟨h3,h4⟩:=bB.1 he;exact bB.2 ⟨cO _ h3,h4⟩
      ·cases h
     ·cases h
    ·cases h
   ·
    rename_i t d D J;split at h
    case h_2=>cases h
    rename_i i hi;split at h
    case h_2=>cases h
    rename_i e hu;split at h
    case h_2=>cases h
    rename_i j hj;split at h
    case h_2=>cases h
    rename_i c1 c2 c3 c4;cases h;have hte:=(Z.ti _ _ hi).und;rw[hu]at hte;obtain⟨k1,k2⟩:=G d (by unfold jU; simp_all);have he:S.erase d=some S:=nX k1 k2;obtain⟨u,w',h1,h2⟩:=oM (P:=P) (d:=d) (len:=0) (parts:=#[]) (ps:=[]) (c:=[]) (ts:=[]) (st':=_) Z.N Z.nt r hte (Z.ti _ _ hj) rfl (by omega) (fI c1) (bS c2)
     (by simp[nU,fC]) ⟨rfl,fun j p x hp=>by simp at hp⟩ (by simp) (by unfold fS; rw[c3,c4,he])
    rw[aA hwt];unfold Oper.wp;have M:(execOp a.eval o).run P w = .ok (.value u) w':=by simp at h1; unfold execOp; simp_all
    rw[M];simp only[Oper.upon];refine hk _ _ ?_;rw[J];refine h2.sub (fun e he=>he) (fun e he=>?_);simp only[oR,Rz]at he;rcases bE.1 he with rfl | he
    ·exact cS ..
    ·exact cO _ (bB.1 he).1
   ·
    rename_i t len parts d _ D J;split at h
    case h_2=>cases h
    rename_i i ps hi hps;split at h
    case h_2=>cases h
    rename_i e hu;split at h
    case h_2=>cases h
    rename_i j hj;split at h
    case h_2=>cases h
    rename_i c c1 c2 c3 hc;split at h
    case h_2=>cases h
    rename_i ts hts c4 c5;cases h;have hte:=(Z.ti _ _ hi).und;rw[hu]at hte;have r2:cG E F g ⟨st.fr++S.fr,S.hp⟩ a w:=r.sub (fun e he=>by grind) (fun e he=>he);obtain⟨u,w',F',h1,h2⟩:=rC (P:=P) (d:=d) Z.nt r2 hte (Z.ti _ _ hj) (Cb hps) (fI c1) (fI c2) (bS c3) hc (.of hts) (bS c4) (by simp_all);rw[aA hwt];unfold Oper.wp;have M:(execOp a.eval o).run P w = .ok (.value u) w':=by unfold execOp; simp_all
    rw[M];simp only[Oper.upon];refine hk _ _ ?_;rw[J];refine⟨F',g,h2.sub (fun e he=>?_) (fun e he=>he)⟩;simp only[oR]at he;simp only[St.put];rcases bE.1 he with rfl | he
    ·simp_all
    ·refine cO _ ?_;obtain⟨k,y⟩:=e;obtain⟨h3,h4⟩:=bB.1 he;exact bB.2 ⟨sT _ h3,h4⟩
   all_goals try (cases h; done)
   ·
    rename_i args ats d D J;obtain⟨k1,k2⟩:=G d (by unfold jU; rw[D,J]);unfold aJV at h;split at h
    case h_2=>cases h
    rename_i s x t t' ha ht;have ha':args=#[s,x]:=by rw[<-nH (xs:=args),ha]
    have ht':ats=#[t,t']:=by rw[<-nH (xs:=ats),ht]
    subst ha'; subst ht';split at h
    case h_2=>cases h
    rename_i i p q c1 hi hp hq;have c1:=bS c1;subst c1;split at h
    case h_2=>cases h
    rename_i e m f2 hu hq';have hte:=(Z.ti _ _ hi).und;rw[hu]at hte;split at h
    case h_2=>cases h
    rename_i j hj;split at h
    case h_2=>cases h
    rename_i c2 c3 c4;simp only[cQ]at c2;obtain⟨c2,c5,c6,c7⟩:=c2;have c2:=fI c2;have c5:=fI c5;have c6:=bS c6;have src:(∀ f,f∈(Fh ops x m j.size f2).2->∀ i,f i=true)->∃ news,Src F w j.size m f2 (a.eval x) news:=by
     intro hfs;refine Ab ri (bT ri hq) hq' c2 rfl fun i hi=>?_;unfold Fh at c7 hfs;split at c7
     ·rename_i n hn;simp only[cQ,fT,Hi]at c7;exact c7.2 i (by rw[bS c7.1]; exact hi)
     simp_all
    have fin:∀ (pv:bA) (ko:Option Nat) (u:Value) (w':World) (S':St),(Builtin.append_ #[t,t] o.type #[a.eval s,a.eval x]).run P w = .ok u w'->Rel E S' (a.put (some d) u) w' ->
      (∀ e,e∈(d,PV.own d)::del d S.fr->e∈S'.fr)->(∀ e,e∈(d,pv)::del d (Rz ko S.hp)->e∈S'.hp)->v=some (.own d)->md=some (d,pv,ko) ->
      if Region.wanted o (yielded ops.toArray a.tmps) then o.wp P a w K Q' else K (a.put o.dst undef) w:=by
     intro pv ko u w' S' h1 h2 h3 h4 hv hm;subst hv hm;rw[aA hwt];unfold Oper.wp;have M:(execOp a.eval o).run P w = .ok (.value u) w':=by unfold execOp; simp[D,resolve,invoke,builtin,h1]
     rw[M];simp only[Oper.upon];refine hk _ _ ?_;rw[J];exact h2.sub (fun e he=>h3 e he) (fun e he=>h4 e he)
    have hpv:=bT ri hp;split at h
    case h_3=>cases h
    ·
     cases h;obtain⟨news,hs⟩:=src hfs;have he:S.erase d=some S:=nX k1 k2;obtain⟨v0,hv0⟩:∃ u,a.eval s=u:=⟨_,rfl⟩;rw[hv0]at hpv;cases hpv with
     | nil=>
      obtain⟨u,w',h1,h2⟩:=oI (P:=P) Z.N Z.nt r hte (Z.ti _ _ hj) o.type c5 c6 hs (by have h:(0+m)*j.bytes<=140737488355328:=hC; simpa using h) (st':=_) (by unfold fS; rw[c3,c4,he]);refine fin _ none u w' _ (by grind) h2 (fun e he=>he) (fun e he=>?_) rfl rfl;rcases bE.1 he with rfl | he
      ·exact cS ..
      ·exact cO _ (bB.1 he).1
    ·rename_i o';split at h
     case h_2=>cases h
     rename_i e' s' n f1 hl;split at h
     case h_2=>cases h
     rename_i c8;simp only[cQ]at c8;have c9:=bS c8.1;have c10:=bS c8.2;subst c9; subst c10;have r0:cG E F g ⟨S.fr,(o',.arr e j.size n f1)::del o' S.hp⟩ a w:=r.sub (fun e he=>he) (fun e he=>by
      rcases bE.1 he with rfl | he
      ·exact Q _ (aX hl)
      ·exact(bB.1 he).1)
     have less:Th o' ⟨S.fr,(o',.arr e j.size n f1)::del o' S.hp⟩ ⟨S.fr,del o' S.hp⟩:=⟨fun t y h=>h,fun t y h=>⟨y,cO _ h,(bB.1 h).2,fun _ _ _ h=>h,fun _ _ _ h=>h⟩⟩;have he:(⟨S.fr,del o' S.hp⟩:St).erase d=some ⟨S.fr,del o' S.hp⟩:=nX k1 fun e he=>k2 e (by obtain⟨k,y⟩:=e; exact(bB.1 he).1);have run:∀ {f},f=pJ n f1 f2->(∀ f,f∈(Fh ops x m j.size f2).2->∀ i,f i=true)->(n+m)*j.bytes<=140737488355328->∃ u w',(Builtin.append_ #[t,t] o.type #[a.eval s,a.eval x]).run P w = .ok u w'/\Rel E (({ fr:=S.fr,hp:=(d,.arr e j.size (n+m) f)::del o' S.hp }:St).put d (.own d)) (a.put (some d) u) w':=by rintro f rfl hfs hc;obtain⟨news,hs⟩:=src hfs;exact vP (P:=P) (n:=n) (f1:=f1) (f:=f2) Z.N Z.nt r0 hte (Z.ti _ _ hj) o.type c5 c6 hpv hs hc (by simp[look]) less (by unfold fS; rw[c3,c4,he])
     have sb:∀ (pv:bA) e,e∈(d,pv)::del d (Rz (some o') S.hp)->e∈(d,pv)::del o' S.hp:=by
      intro pv e he;rcases bE.1 he with rfl | he
      ·grind
      ·exact cO _ (bB.1 he).1
     split at h
     ·split at h
      case h_2=>cases h
      rename_i c11;have c11:=bS c11;subst c11;cases h;obtain⟨u,w',h1,h2⟩:=run (f:=f2) (by funext i; rfl) hfs (by have h:(0+m)*j.bytes<=140737488355328:=hC; exact h);rw[iY]at h2;exact fin _ (some o') u w' _ h1 h2 (fun e he=>he) (sb _) rfl rfl
     ·cases h;obtain⟨u,w',h1,h2⟩:=run rfl hfs (by have h:(n+m)*j.bytes<=140737488355328:=hC; exact h);exact fin _ (some o') u w' _ h1 h2 (fun e he=>he) (sb _) rfl rfl
   rename_i J _ _ _ _ _ _ _ _;split at h
   ·rename_i x C hp hlt;cases h;have hcc:C:=by
     cases hc:isC st o.op with
     | false=>exact aKY hp hc
     | true=>rw[hc]at hC; exact hC
    obtain⟨v,h1,h2⟩:=aHY Z.ti ri o hp hcc;rw[aA hwt];unfold Oper.wp;rw[h1];refine hk _ _ ?_;rw[J];exact⟨F,g,r.put (by rw[Z.nt]; simp_all) h2⟩
   ·cases h
theorem aZA(hG:gN P E I){ops:List Oper}{o:Oper}{S st:St}{ca:Option (Nat×List PV×PV×Hp×Option (Nat×bA))}(hca:∀ k args r Hs ch,ca=some (k,args,r,Hs,ch)->Qk P k args r Hs ch)(Q:∀ e,e∈st.fr->e∈S.fr)
  (J:∀ e,e∈st.hp->e∈S.hp){v:Option PV}{md:Option (Nat×bA×Option Nat)}{as:List PV×Option Hp}{fs:List (Nat->Bool)}(G:∀ k x y,(k,x)∈S.hp->(k,y)∈S.hp->x=y)(h:aFM I ops ca o st=some (v,md,Cs,as,fs))(hC:All Cs)(M:∀ f,f∈fs->∀ i,f i=true)
  (Z:∀ k args r Hs ch,ca=some (k,args,r,Hs,ch)->cC ops o st=some true->as=(args,some Hs))(D:∀ d,jU o=some d->(∀ e,e∈S.fr->e.2.mentions d=false)/\∀ e,e∈S.hp->Nat.beq e.1 d=false/\e.2.mentions d=false){a:Act}{w:World}(r:Rel E S a w)
  {K:Act->World->Prop}(hk:∀ a' w',Rel E (oR S o.dst v md) a' w'->K a' w'):
  if Region.wanted o (yielded ops.toArray a.tmps) then o.wp P a w K Q' else K (a.put o.dst undef) w:=by
 unfold aFM at h;split at h
 ·rename_i k args res Hs ch;split at h
  ·rename_i hfz;unfold aVP at h;split at h
   ·rename_i d d1 d2 d3 e s n f k' C as0 fs0 hal hd he hwt;split at h
    ·rename_i b1 b2 b3 b4;have b1:=bS b1;have b2:=bS b2;have b3:=bS b3;subst b1 b2 b3;cases h;obtain⟨c1,c2⟩:=D _ hal;rcases hca _ _ _ _ _ rfl with⟨_,n',f',x,ha,hr,himp⟩ | hx
     ·have:=Z _ _ _ _ _ rfl hwt;injection this with h1 h2;subst hr;rw[ha]at h1;cases h1;refine Ny hG (ca:=none) (fun _ _ _ _ _ h=>by cases h) Q J G he hC M (fun _ _ _ _ _ h=>by cases h) D r (fun a' w' r'=>hk a' w' ?_);rw[hd]at r' ⊢;simp only[oR]at r' ⊢;obtain⟨F,g,q⟩:=Rel.fzRow hG.N.symm b4 (fun x hx=>c1 x (He hx)) (fun x hx=>c2 x (aMG hx)) r';exact⟨F,g,q.nt,q.df,fun t z hz=>by
       rcases bE.1 hz with hz | hz
       ·cases hz; exact himp _ _ _ _ (q.fr _ _ cS)
       ·exact q.fr _ _ (cO _ hz),q.w⟩
     ·have hfz':=bS hfz;subst hfz';cases hx with
      | call hk'=>exact absurd hk' (by decide)
      | new hk'=>exact absurd hk' (by decide)
      | newH hk'=>exact absurd hk' (by decide)
      | look hk'=>exact absurd hk' (by decide)
    ·cases h
   ·cases h
  ·rename_i hfz;refine Ny hG (fun k' a' r' H' c' hc=>?_) Q J G h hC M Z D r hk;rcases hca k' a' r' H' c' hc with⟨h1,_⟩ | h1
   all_goals simp_all
 ·exact Ny hG (ca:=none) (fun _ _ _ _ _ h=>by cases h) Q J G h hC M Z D r hk
def Uq(ops:List Oper):List (List Nat):=ops.map jN
def aWL(l r:List Nat):List Nat:=match l with | []=>r | x::l=>match inN x r with | true=>aWL l r | false=>aWL l (x::r)
def Sk:List (List Nat)->List (List Nat)->List (List Nat)
 | [],acc=>acc
 | d::l,acc=>Sk l (acc++[aWL (d.flatMap fun j=>acc.getD j []) d])
def tK(p:Nat->Bool):Nat->List Oper->List LOp->Fr
 | _,[],_=>[]
 | i,_::os,[]=>tK p (i+1) os []
 | i,o::os,l::ls=>match p i,o.dst,l.val with
  | true,some d,some x=>(d,x)::tK p (i+1) os ls
  | _,_,_=>tK p (i+1) os ls
def aDZ(lo:List LOp)(o j:Nat):Option bA:=match lo.getD j default with | ⟨_,some (o',c,_),_⟩=>(match Nat.beq o' o with | true=>some c | false=>none) | _=>none
def lV(lo:List LOp)(p:Nat->Bool)(o:Nat)(c:Option bA):List Nat->Option bA
 | []=>c
 | j::js=>match p j with
  | true=>lV lo p o (aDZ lo o j) js
  | false=>lV lo p o c js
abbrev OL:=List (Nat×Bool×List Nat)
def ini(hp:Hp)(o:Nat)(new:Bool):Option bA:=match new with | true=>none | false=>look hp o
def Ji(hp:Hp)(lo:List LOp)(p:Nat->Bool):OL->Hp
 | []=>[]
 | (o,new,js)::l=>match lV lo p o (ini hp o new) js with
  | some x=>(o,x)::Ji hp lo p l
  | none=>Ji hp lo p l
def wrB(p:Nat->Bool)(t:Nat):Nat->List Oper->Bool
 | _,[]=>false
 | i,o::os=>match (match o.dst with | some d=>Nat.beq d t&&p i | none=>false) with | true=>true | false=>wrB p t (i+1) os
theorem Et{p:Nat->Bool}{t:Nat}:∀ {i:Nat} {os:List Oper},wrB p t i os=true↔∃ k o,os[k]? = some o/\o.dst=some t/\p (i+k)=true
 | i,[]=>by simp[wrB]
 | i,o::os=>by
  simp only[wrB];constructor
  ·intro h;split at h
   ·rename_i h1;split at h1
    ·rename_i d hd;simp only[cQ]at h1;exact⟨0,o,rfl,by rw[hd,bS h1.1],by simp_all⟩
    ·cases h1
   ·obtain⟨k,o',h1,h2,h3⟩:=Et.1 h;exact⟨k+1,o',by simp_all,h2,by grind⟩
  ·rintro⟨k,o',h1,h2,h3⟩;split
   ·rfl
   ·rename_i hn;cases k with
    | zero=>simp_all
    | succ k=>exact Et.2 ⟨k,o',by simp_all,h2,by grind⟩
def frP(p:Nat->Bool)(ops:List Oper)(fr0:Fr):Fr:=fr0.filter fun e=>!(wrB p e.1 0 ops)
theorem tR{p:Nat->Bool}{ops:List Oper}{D:Fr}{e:Nat×PV}:e∈frP p ops D↔e∈D/\∀ k o,ops[k]? = some o->o.dst=some e.1->p k=false:=by
 simp only[frP,iQ,mT];refine and_congr_right fun _=>?_;constructor
 ·intro h k o h1 h2;cases hp:p k with
  | false=>rfl
  | true=>rw[Et.2 ⟨k,o,h1,h2,by simp_all⟩]at h; cases h
 ·intro h;cases hw:wrB p e.1 0 ops with
  | false=>rfl
  | true=>obtain⟨k,o,h1,h2,h3⟩:=Et.1 hw;simp_all
def stP(st:St)(fr0:Fr)(ops:List Oper)(lo:List LOp)(ol:OL)(p:Nat->Bool):St:=⟨frP p ops fr0++tK p 0 ops lo,Ji st.hp lo p ol⟩
def knw(pre:List (List Nat))(i:Nat)(ol:OL):OL:=ol.filter fun e=>e.2.2.all fun j=>Nat.beq j i || inN j (pre.getD i []) || inN i (pre.getD j [])
def stI(st:St)(fr0:Fr)(ops:List Oper)(lo:List LOp)(ol:OL)(pre:List (List Nat))(i:Nat):St:=
 ⟨frP (fun j=>!((Nat.beq j i || inN i (pre.getD j [])) || Nat.ble pre.length j)) ops fr0++tK (fun j=>inN j (pre.getD i [])) 0 ops lo,Ji st.hp lo (fun j=>inN j (pre.getD i [])) (knw pre i ol)⟩
def bFR(I:Inf)(ops:List Oper)(calls:List (Nat×(Nat×List PV×PV×Hp×Option (Nat×bA))))(lits:List (Nat×(Bool×Bool)))(st:St)(fr0:Fr)(ol:OL)(pre:List (List Nat)):Nat->List Oper->List LOp->List LOp
 | _,[],lo=>lo
 | i,o::os,lo=>bFR I ops calls lits st fr0 ol pre (i+1) os (lo++[match aFM I ops (look calls i) o (stI st fr0 ops lo ol pre i) with
  | some (v,md,_,_,fs)=>⟨match look lits i with | some (_,b)=>some (.t (.bool b)) | none=>v,md,fs⟩
  | none=>⟨none,none,[]⟩])
def aCG(I:Inf)(ops:List Oper)(calls:List (Nat×(Nat×List PV×PV×Hp×Option (Nat×bA))))(st:St)(fr0:Fr)(lo:List LOp)(ol:OL)(pre:List (List Nat)):Nat->List Oper->List (Option Eff)
 | _,[]=>[]
 | i,o::os=>aFM I ops (look calls i) o (stI st fr0 ops lo ol pre i)::aCG I ops calls st fr0 lo ol pre (i+1) os
def bCH(ops:List Oper)(calls:List (Nat×(Nat×List PV×PV×Hp×Option (Nat×bA))))(lits:List (Nat×(Bool×Bool)))(conds:List (Nat×List Prop))(st:St)(lo:List LOp)(i:Nat)(o:Oper):Option Eff:=
 some (match look lits i with | some (b,_)=>some (.t (.bool b)) | none=>(lo.getD i default).val,(lo.getD i default).md,match look conds i with | some l=>l | none=>[],
  match look calls i,cC ops o st with | some (_,as,_,Hs,_),some true=>(as,some Hs) | _,_=>noA,(lo.getD i default).fs.map fun _ _=>true)
def aDU(ops:List Oper)(calls:List (Nat×(Nat×List PV×PV×Hp×Option (Nat×bA))))(lits:List (Nat×(Bool×Bool)))(conds:List (Nat×List Prop))(st:St)(fr0:Fr)(lo:List LOp)(ol:OL)(pre:List (List Nat)):Nat->List Oper->List (Option Eff)
 | _,[]=>[]
 | i,o::os=>bCH ops calls lits conds (stI st fr0 ops lo ol pre i) lo i o::aDU ops calls lits conds st fr0 lo ol pre (i+1) os
def Zq(d:Nat):List Nat->Bool
 | []=>true
 | k::l=>!(Nat.beq k d)&&Zq d l
def rS:List Nat->Bool
 | []=>true
 | k::l=>Zq k l&&rS l
def aEM(ops:List Oper):List Nat:=ops.filterMap (·.dst)
def Fg(pre:List (List Nat))(i d:Nat):Nat->List LOp->Bool
 | _,[]=>true
 | j,l::ls=>(match l.val with | some x=>!(x.mentions d) || inN i (pre.getD j []) || Nat.beq j i | none=>true) &&
   (match l.md with | some (_,c,_)=>!(c.mentions d) || inN i (pre.getD j []) || Nat.beq j i | none=>true)&&Fg pre i d (j+1) ls
def Iv(hp:Hp)(d:Nat):OL->Bool
 | []=>true
 | (o,new,_)::l=>(match Nat.beq o d with | true=>new | false=>true)&&(match ini hp o new with | some c=>!(c.mentions d) | none=>true)&&Iv hp d l
def Dq(pre:List (List Nat))(st:St)(fr0:Fr)(lo:List LOp)(ol:OL):Nat->List Oper->Bool
 | _,[]=>true
 | i,o::os=>(match jU o with
   | some d=>Fg pre i d 0 lo&&Iv st.hp d ol&&fr0.all (fun e=>!(e.2.mentions d))&&ol.all (fun e=>!(Nat.beq e.1 d) || e.2.2.all fun j=>Nat.beq j i || inN i (pre.getD j []))
   | none=>true)&&Dq pre st fr0 lo ol (i+1) os
def Ya(ol:OL):Nat->List LOp->Bool
 | _,[]=>true
 | i,l::ls=>(match l.md with
   | some (o,_,k)=>ol.any (fun e=>Nat.beq e.1 o&&inN i e.2.2)&&(match k with
    | none=>ol.all (fun e=>Nat.beq e.1 o || !(inN i e.2.2))
    | some k=>ol.all fun e=>Nat.beq e.1 o || (match Nat.beq e.1 k with | true=>inN i e.2.2 | false=>!(inN i e.2.2)))
   | none=>ol.all fun e=>!(inN i e.2.2))&&Ya ol (i+1) ls
def Qj(pre:List (List Nat)):List Nat->Bool
 | []=>true
 | j::js=>js.all (fun k=>inN j (pre.getD k []))&&Qj pre js
def aSA(ops:List Oper)(pre:List (List Nat)):Nat->List Oper->Bool
 | _,[]=>true
 | i,o::os=>(jN o).all (fun j=>Nat.blt j i)&&(pre.getD i []).all (fun k=>Nat.blt k i&&(inN k (jN o) || (jN o).any fun j=>inN k (pre.getD j [])))&&aSA ops pre (i+1) os
def aIT(o:Oper):Bool:=match o.guard,o.op with
 | none,.move _=>true
 | none,.assign _=>true
 | none,.extract _ _=>true
 | _,_=>false
def aFP(L:List Oper)(j:Nat):Bool:=(List.range L.length).all fun i=>Nat.ble i j || (match L[i]? with | some o=>(jN o).any fun k=>Nat.ble j k | none=>true)
def Ra(L:List Oper)(j:Nat):List Bool:=(List.range L.length).map fun k=>Nat.blt k j
def aSF(L:List Oper):List Oper->Nat->Bool
 | [],_=>true
 | o::t,j=>aIT o&&Region.free .any L.toArray (Ra L j).toArray j&&aSF L t (j+1)
def chT(L:List Oper):Nat->List Oper->Bool
 | _,[]=>true
 | j,o::t=>(Region.noSelect L.toArray&&aSF L (o::t) j) || (aFP L j&&chT L (j+1) t)
def tlB(L:List Oper)(pre:List (List Nat))(n:Nat):List Oper->Bool
 | []=>true
 | o::l=>((List.range n).all fun k=>inN k (jN o) || (jN o).any fun j=>inN k (pre.getD j []))&&(aFP L n&&chT L (n+1) l)
theorem Su{L:List Oper}{j:Nat}{o:Oper}(h:aFP L j=true)(hi:L[i]? = some o)(G:j<i):∃ k,k∈jN o/\j<=k:=by
 have D:i<L.length:=(Ir.1 hi).1;have:=fT.1 h i (Hi.2 D);rw[hi]at this;simp only[qA,List.any_eq_true]at this;rcases this with h | ⟨k,h1,h2⟩
 ·have:=fI h; omega
 ·exact⟨k,h1,fI h2⟩
theorem Oper.wp_monoQ{P:Program}{o:Oper}{a:Act}{w:World}{K J:Act->World->Prop}{Q:Exit->Act->World->Prop}(h:∀ a w,K a w->J a w)(G:∀ e a w,Q e a w->Q' e a w)
  (D:o.wp P a w K Q):o.wp P a w J Q':=by
 have hl:LetsOut Q->LetsOut Q':=fun⟨a,w,h⟩=>⟨a,w,G _ _ _ h⟩;unfold Oper.wp at *
 generalize (execOp a.eval o).run P w=r at *
 cases r with
 | ok n w'=>
  cases n <;> simp only[Oper.upon]at D ⊢ <;>
   first
    | exact h _ _ D
    | exact Calls.mono D (fun e M he=>by cases e <;> first | exact h _ _ he | exact G _ _ _ he | exact hl he)
    | exact Rows.mono D (fun _ _ he=>h _ _ he)
 | halt x w'=>cases x <;> simp only[Oper.upon]at D ⊢ <;> first | simp_all | exact D
theorem nZ{P:Program}{md:Region.Mode}{ops:Array Oper}{Q Q':Exit->Act->World->Prop}(hQ:∀ e a w,Q e a w->Q' e a w):∀ (fuel:Nat) (m:Array Bool) (a:Act) (w:World),wpAny P md ops Q fuel m a w->wpAny P md ops Q' fuel m a w
 | 0,_,_,_,h=>⟨h.1,hQ _ _ _ h.2⟩
 | fuel+1,m,a,w,h=>⟨fun h0=>hQ _ _ _ (h.1 h0),fun i hi=>by
   have h1:=h.2 i hi;unfold wpOp at h1 ⊢;split
   ·rename_i hn;rw[hn]at h1;exact nZ hQ fuel _ _ _ h1
   ·rename_i o ho;rw[ho]at h1;simp only at h1;split
    ·rename_i hw;rw[aA hw]at h1;rcases h1 with h1 | ⟨h1,a',w',h2⟩
     ·exact .inl (Oper.wp_monoQ (fun a w h=>nZ hQ fuel _ _ _ h) hQ h1)
     ·exact .inr ⟨h1,a',w',hQ _ _ _ h2⟩
    ·rename_i hw;rw[aF hw]at h1;exact nZ hQ fuel _ _ _ h1⟩
theorem aQW{P:Program}{o:Oper}(hs:aIT o=true){a:Act}{w:World}{K:Act->World->Prop}{Q:Exit->Act->World->Prop}(D:o.wp P a w K Q\/(o.asks P a w/\LetsOut Q)):
  ∃ v,(∀ w',(execOp a.eval o).run P w' = .ok (.value v) w')/\K (a.put o.dst v) w:=by
 have J:∀ v,execOp a.eval o=pure (.value v)->∃ v,(∀ w',(execOp a.eval o).run P w' = .ok (.value v) w')/\K (a.put o.dst v) w:=fun v he=>by
  refine⟨v,fun w'=>by rw[he]; rfl,?_⟩;rcases D with D | ⟨D,_⟩
  ·unfold Oper.wp at D;rw[he]at D; exact D
  ·have h1:=D.1;rw[he]at h1;exact absurd h1 (Array.not_mem_empty _)
 have bad:∀ M,execOp a.eval o=stuck M->False:=fun M he=>by
  rcases D with D | ⟨D,_⟩
  ·unfold Oper.wp at D;rw[he]at D; exact D
  ·have h1:=D.1;rw[he]at h1;exact absurd h1 (Array.not_mem_empty _)
 unfold aIT at hs;split at hs
 ·rename_i G; exact J _ (by unfold execOp; rw[G])
 ·rename_i G; exact J _ (by unfold execOp; rw[G])
 ·rename_i x i _ G;have he:execOp a.eval o=(do pure (.value (<-Instr.extract (a.eval x) i))):=by unfold execOp; rw[G]
  unfold Instr.extract at he;split at he
  ·split at he
   ·exact J _ he
   ·exact(bad _ he).elim
  ·exact(bad _ he).elim
 ·cases hs
theorem aCK{o:Oper}(hs:aIT o=true):o.guard=none:=by unfold aIT at hs;split at hs <;> first | assumption | cases hs
def noP(Q:Exit->Act->World->Prop):Exit->Act->World->Prop:=fun e a w=>Q e a w/\∀ c,e ≠ .panic c
def wfL(L l tl:List Oper)(pre:List (List Nat))(st:St)(_ts:List Nat)(fr0:Fr)(lo:List LOp)(ol:OL):Bool:=
 aSA L pre 0 L&&rS (aEM L)&&rS (ol.map (·.1))&&Ya ol 0 lo&&ol.all (fun e=>Qj pre e.2.2)&&Dq pre st fr0 lo ol 0 l &&
  (Nat.beq lo.length l.length&&Nat.beq pre.length l.length)&&tlB L pre l.length tl
theorem Ln{P:Program}{L:Array Oper}{Q:Exit->Act->World->Prop}{m:Array Bool}{a:Act}{w:World}(h:Region.ready .any L m=[])(hq:Q .normal a w):∀ fuel,wpAny P .any L Q fuel m a w
 | 0=>⟨h,hq⟩
 | _+1=>⟨fun _=>hq,fun i hi=>by simp_all⟩
def aKC(lits:List (Nat×(Bool×Bool)))(lo:List LOp):Bool:=lits.all fun e=>match (lo.getD e.1 default).val,e.2.2 with
 | some (.t (.bool true)),true=>true
 | some (.t (.bool false)),false=>true
 | _,_=>false
theorem pF{p:Nat->Bool}:∀ {i:Nat} {os:List Oper} {ls:List LOp} {e:Nat×PV},e∈tK p i os ls->∃ k o l,os[k]? = some o/\ls[k]? = some l/\p (i+k)=true/\o.dst=some e.1/\l.val=some e.2
 | _,[],_,e,h=>by simp[tK]at h
 | i,_::os,[],e,h=>by simp only[tK]at h;obtain⟨k,o,l,h1,h2,_⟩:=pF h;simp at h2
 | i,o::os,l::ls,e,h=>by
  have tail:e∈tK p (i+1) os ls->∃ k o' l',(o::os)[k]? = some o'/\(l::ls)[k]? = some l'/\p (i+k)=true/\o'.dst=some e.1/\l'.val=some e.2:=by intro h;obtain⟨k,o',l',h1,h2,h3,h4⟩:=pF h;exact⟨k+1,o',l',by simp_all,by simp_all,by grind,h4⟩
  simp only[tK]at h;split at h
  ·rename_i d x hp hd hv;rcases bE.1 h with rfl | h
   ·exact⟨0,o,l,by simp,by simp,by omega,hd,hv⟩
   simp_all
  simp_all
theorem Ij{p:Nat->Bool}{d:Nat}{x:PV}:∀ {i k:Nat} {os:List Oper} {ls:List LOp} {o:Oper} {l:LOp},os[k]? = some o->ls[k]? = some l->p (i+k)=true->o.dst=some d->l.val=some x->(d,x)∈tK p i os ls
 | _,_,[],_,_,_,h,_,_,_,_=>by simp at h
 | _,_,_::_,[],_,_,_,h,_,_,_=>by simp at h
 | i,0,o::os,l::ls,o',l',h1,h2,h3,h4,h5=>by simp at h1 h2; subst h1 h2;simp only[yV]at h3;simp[tK,h3,h4,h5]
 | i,k+1,o::os,l::ls,o',l',h1,h2,h3,h4,h5=>by have:=Ij (i:=i+1) (k:=k) (os:=os) (ls:=ls) (by simp_all) (by simp_all) (by rw[Gf,Nat.add_comm 1 k]; exact h3) h4 h5;simp only[tK];grind
theorem nS{lo:List LOp}{p q:Nat->Bool}{o:Nat}:∀ {js:List Nat} {c:Option bA},(∀ j,j∈js->p j=q j)->lV lo p o c js=lV lo q o c js
 | [],_,_=>rfl
 | j::js,c,h=>by
  simp only[lV,h j (by simp)];split
  ·exact nS fun k hk=>h k (cO _ hk)
  ·exact nS fun k hk=>h k (cO _ hk)
theorem Bi{lo:List LOp}{q:Nat->Bool}{o:Nat}:∀ {js:List Nat} {c:Option bA},(∀ j,j∈js->q j=false)->lV lo q o c js=c
 | [],_,_=>rfl
 | j::js,c,h=>by simp only[lV,h j (by simp)]; exact Bi fun k hk=>h k (cO _ hk)
theorem tU{lo:List LOp}{pre:List (List Nat)}{q:Nat->Bool}{i o:Nat}(hi:q i=true):∀ {js:List Nat} {c:Option bA},Qj pre js=true->i∈js->(∀ j,j∈js->i∈pre.getD j []->q j=false) ->
  lV lo q o c js=aDZ lo o i
 | [],_,_,h,_=>by simp at h
 | j::js,c,hc,h,hq=>by
  simp only[Qj,cQ,fT]at hc;by_cases hj:j=i
  ·subst hj;simp only[lV,hi];exact Bi fun k hk=>hq k (cO _ hk) (dT.1 (hc.1 k hk))
  ·have hm:i∈js:=by grind
   simp only[lV];split
   ·exact tU hi hc.2 hm fun k hk=>hq k (cO _ hk)
   ·exact tU hi hc.2 hm fun k hk=>hq k (cO _ hk)
theorem uM{lo:List LOp}{p:Nat->Bool}{o:Nat}{x:bA}:∀ {js:List Nat} {c:Option bA},lV lo p o c js=some x->c=some x\/∃ j,j∈js/\p j=true/\aDZ lo o j=some x
 | [],_,h=>.inl h
 | j::js,c,h=>by
  simp only[lV]at h;split at h
  ·rename_i hp;rcases uM h with h | ⟨k,h1,h2,h3⟩
   all_goals grind
  ·rcases uM h with h | ⟨k,h1,h2,h3⟩
   all_goals grind
theorem nF{hp:Hp}{lo:List LOp}{p:Nat->Bool}:∀ {ol:OL} {e:Nat×bA},e∈Ji hp lo p ol->∃ new js,(e.1,new,js)∈ol/\lV lo p e.1 (ini hp e.1 new) js=some e.2
 | [],e,h=>by simp[Ji]at h
 | (o,new,js)::l,e,h=>by
  have tail:e∈Ji hp lo p l->∃ new' js',(e.1,new',js')∈(o,new,js)::l/\lV lo p e.1 (ini hp e.1 new') js'=some e.2:=by intro h;obtain⟨n',j',h1,h2⟩:=nF h;grind
  simp only[Ji]at h;grind
theorem wZ{hp:Hp}{lo:List LOp}{p:Nat->Bool}{o:Nat}{new:Bool}{js:List Nat}{x:bA}:∀ {ol:OL},(o,new,js)∈ol->lV lo p o (ini hp o new) js=some x->(o,x)∈Ji hp lo p ol
 | [],h,_=>by simp at h
 | (o',n',j')::l,h,hx=>by
  simp only[Ji];rcases bE.1 h with e | h
  ·simp_all
  ·split
   ·exact cO _ (wZ h hx)
   ·exact wZ h hx
theorem If{d:Nat}:∀ {l:List Nat},Zq d l=true->d∉l
 | [],_=>by simp
 | k::l,h=>by simp only[Zq,cQ,mT]at h;simp only[bE,not_or];exact⟨fun e=>pB h.1 e.symm,If h.2⟩
theorem aRB{ops:List Oper}:rS (aEM ops)=true->∀ {i k:Nat} {o o':Oper} {d:Nat},ops[i]? = some o->ops[k]? = some o'->o.dst=some d->o'.dst=some d->i=k:=by
 induction ops with
 | nil=>simp_all
 | cons x ops ih=>
  intro hn i k o o' d h1 h2 h3 h4;have M:∀ {k:Nat} {o':Oper},ops[k]? = some o'->o'.dst=some d->d∈aEM ops:=by intro k o' hk D;exact List.mem_filterMap.2 ⟨o',lL hk,D⟩
  have J:rS (aEM ops)=true/\∀ G,x.dst=some G->G∉aEM ops:=by
   unfold aEM at hn ⊢;simp only[List.filterMap_cons]at hn;split at hn
   ·simp_all
   ·rename_i Q hx;simp only[rS,cQ]at hn;exact⟨hn.2,fun G D=>by rw[hx]at D; cases D; exact If hn.1⟩
  grind
theorem Ow{ops:List Oper}{pre:List (List Nat)}:∀ {os:List Oper} {i0:Nat},aSA ops pre i0 os=true->∀ {k:Nat} {o:Oper},os[k]? = some o ->
  (∀ j,j∈jN o->j<i0+k)/\∀ x,x∈pre.getD (i0+k) []->x<i0+k/\(x∈jN o\/∃ j,j∈jN o/\x∈pre.getD j [])
 | [],_,_,k,o,h=>by simp at h
 | y::os,i0,hp,k,o,h=>by
  simp only[aSA,cQ,fT]at hp;obtain⟨⟨h1,h2⟩,h3⟩:=hp;cases k with
  | zero=>
   simp at h; subst h;refine⟨fun j hj=>by simp_all,fun x hx=>?_⟩;have:=h2 x hx;simp only[qA,List.any_eq_true]at this;refine⟨by simp_all,?_⟩;rcases this.2 with h | ⟨j,hj,h⟩
   ·exact .inl (dT.1 h)
   ·exact .inr ⟨j,hj,dT.1 h⟩
  | succ k=>have:=Ow (i0:=i0+1) h3 (k:=k) (o:=o) (by simpa using h);grind
theorem Iy{pre:List (List Nat)}{st:St}{fr0:Fr}{lo:List LOp}{ol:OL}:∀ {os:List Oper} {i0:Nat},Dq pre st fr0 lo ol i0 os=true->∀ {k:Nat} {o:Oper} {d:Nat},os[k]? = some o->jU o=some d ->
  Fg pre (i0+k) d 0 lo=true/\Iv st.hp d ol=true/\(∀ e,e∈fr0->e.2.mentions d=false)/\∀ e,e∈ol->e.1=d->∀ j,j∈e.2.2->j=i0+k\/(i0+k)∈pre.getD j []
 | [],_,_,k,o,d,h,_=>by simp at h
 | y::os,i0,hp,k,o,d,h,ha=>by
  simp only[Dq,cQ]at hp;cases k with
  | zero=>
   simp at h; subst h;rw[ha]at hp;simp only[cQ,fT,mT,qA]at hp;obtain⟨⟨⟨⟨h1,h2⟩,h3⟩,h4⟩,_⟩:=hp;refine⟨h1,h2,h3,fun e he hed j hj=>?_⟩;rcases h4 e he with h | h
   ·simp_all
   ·rcases h j hj with h | h
    ·simp_all
    ·exact .inr (dT.1 h)
  | succ k=>have:=Iy (i0:=i0+1) hp.2 (k:=k) (o:=o) (by simpa using h) ha;grind
theorem Bd{pre:List (List Nat)}{i d:Nat}:∀ {ls:List LOp} {j0:Nat},Fg pre i d j0 ls=true->∀ {k:Nat} {l:LOp},ls[k]? = some l ->
  (∀ x,l.val=some x->x.mentions d=false\/i∈pre.getD (j0+k) []\/j0+k=i)/\∀ o c kk,l.md=some (o,c,kk)->c.mentions d=false\/i∈pre.getD (j0+k) []\/j0+k=i
 | [],_,_,k,l,h=>by simp at h
 | y::ls,j0,hp,k,l,h=>by
  simp only[Fg,cQ]at hp;obtain⟨⟨h1,h2⟩,h3⟩:=hp;cases k with
  | zero=>
   simp at h; subst h;refine⟨fun x hx=>?_,fun o c kk hm=>?_⟩
   ·rw[hx]at h1;simp only[qA,mT]at h1;rcases h1 with (h | h) | h
    ·exact .inl h
    ·exact .inr (.inl (dT.1 h))
    simp_all
   ·rw[hm]at h2;simp only[qA,mT]at h2;rcases h2 with (h | h) | h
    ·exact .inl h
    ·exact .inr (.inl (dT.1 h))
    simp_all
  | succ k=>have:=Bd (j0:=j0+1) h3 (k:=k) (l:=l) (by simpa using h);grind
theorem Jw{hp:Hp}{d:Nat}:∀ {ol:OL},Iv hp d ol=true->∀ {o:Nat} {new:Bool} {js:List Nat},(o,new,js)∈ol->(o=d->new=true)/\∀ c,ini hp o new=some c->c.mentions d=false
 | [],_,o,new,js,h=>by simp at h
 | (o',n',j')::l,hc,o,new,js,h=>by
  simp only[Iv,cQ]at hc;rcases bE.1 h with e | h
  ·cases e;refine⟨fun hd=>?_,fun c hi=>?_⟩
   all_goals simp_all
  ·exact Jw hc.2 h
theorem Sb{ol:OL}:∀ {ls:List LOp} {i0:Nat},Ya ol i0 ls=true->∀ {k:Nat} {l:LOp},ls[k]? = some l ->
  (∀ o c q,l.md=some (o,c,q)->(∃ e,e∈ol/\e.1=o/\i0+k∈e.2.2)/\∀ e,e∈ol->e.1=o\/(q=some e.1/\i0+k∈e.2.2)\/(q≠some e.1/\i0+k∉e.2.2))/\(l.md=none->∀ e,e∈ol->i0+k∉e.2.2)
 | [],_,_,k,l,h=>by simp at h
 | y::ls,i0,hp,k,l,h=>by
  simp only[Ya,cQ]at hp;have nin:∀ {x:Nat} {l:List Nat},inN x l=false->x∉l:=fun h hm=>by rw[dT.2 hm]at h; cases h
  cases k with
  | zero=>
   simp at h; subst h;refine⟨fun o c q hm=>?_,fun hm=>?_⟩
   ·have:=hp.1;rw[hm]at this;simp only[cQ,List.any_eq_true]at this;obtain⟨⟨e,h1,h2,h3⟩,h4⟩:=this;refine⟨⟨e,h1,bS h2,dT.1 h3⟩,fun e he=>?_⟩;cases q with
    | none=>
     simp only[fT,qA,mT]at h4;rcases h4 e he with h | h
     all_goals simp_all
    | some q=>
     simp only[fT,qA]at h4;rcases h4 e he with h | h
     ·simp_all
     ·split at h
      ·rename_i hb;exact .inr (.inl ⟨by rw[bS hb],dT.1 h⟩)
      ·rename_i hb;exact .inr (.inr ⟨by simp only[ne_eq,gJ]; exact fun h'=>pB hb h'.symm,nin (by simpa using h)⟩)
   grind
  | succ k=>have:=Sb (i0:=i0+1) hp.2 (k:=k) (l:=l) (by simpa using h);grind
theorem Gi:∀ {ol:OL},rS (ol.map (·.1))=true->∀ {e e':Nat×Bool×List Nat},e∈ol->e'∈ol->e.1=e'.1->e=e'
 | [],_,e,e',h,_,_=>by simp at h
 | x::ol,hn,e,e',h,h',he=>by
  simp only[fY,rS,cQ]at hn;have hx:=If hn.1;rcases bE.1 h with q | h
  ·grind
  ·rcases bE.1 h' with q' | h'
   ·grind
   ·exact Gi hn.2 h h' he
theorem aAL{ops:List Oper}{calls:List (Nat×(Nat×List PV×PV×Hp×Option (Nat×bA)))}{st:St}{fr0:Fr}{lo:List LOp}{ol:OL}{pre:List (List Nat)}{lits:List (Nat×(Bool×Bool))}{conds:List (Nat×List Prop)}:
  ∀ {os:List Oper} {i0:Nat},aCG I ops calls st fr0 lo ol pre i0 os=aDU ops calls lits conds st fr0 lo ol pre i0 os->∀ {k:Nat} {o:Oper},os[k]? = some o ->
  aFM I ops (look calls (i0+k)) o (stI st fr0 ops lo ol pre (i0+k))=bCH ops calls lits conds (stI st fr0 ops lo ol pre (i0+k)) lo (i0+k) o
 | [],_,_,k,o,h=>by simp at h
 | y::os,i0,he,k,o,h=>by
  simp only[aCG,aDU,List.cons.injEq]at he;cases k with
  | zero=>simp_all
  | succ k=>have:=aAL (i0:=i0+1) he.2 (k:=k) (o:=o) (by simpa using h);grind
theorem aWT{z:PV}{b:Bool}(h:(match (some z:Option PV),b with | some (.t (.bool true)),true=>true | some (.t (.bool false)),false=>true | _,_=>false)=true):z = .t (.bool b):=by grind
theorem aLX(hG:gN P E I)(hm:P.follows .mixedOrders=true){L l tl:List Oper}(hL:L=l++tl){st stF:St}{calls:List (Nat×(Nat×List PV×PV×Hp×Option (Nat×bA)))}{lits:List (Nat×(Bool×Bool))}{conds:List (Nat×List Prop)}{ol:OL}
  {ts:List Nat}{J:Fr}{pre:List (List Nat)}{lo:List LOp}(hf0:∀ e,e∈J->e∈st.fr/\e.1∈ts)(hc:Ub P calls)(hl:Cm lits)(hA:tJ conds)(ts' os':List Nat)
  (hw:wfL L l tl pre st ts J lo ol=true)(hlit:aKC lits lo=true)(he:aCG I L calls st J lo ol pre 0 l=aDU L calls lits conds st J lo ol pre 0 l)
  (hF:(stP st J L lo ol (fun j=>Nat.blt j l.length)).keep ts' os'=some stF)(hk:fG P E L Q tl stF):pwp P E (.region id L.toArray true) Q st:=by
 intro a w r;simp only[wfL,cQ]at hw;obtain⟨⟨⟨⟨⟨⟨⟨hpre,hnd⟩,hol⟩,hmods⟩,M⟩,hall⟩,hlen,hplen⟩,htl⟩:=hw;have M:=fT.1 M;have hlen:=bS hlen;have hplen:=bS hplen;have hLl:L.length=l.length+tl.length:=by rw[hL]; simp
 have hat:∀ {i:Nat},i<l.length->L[i]? = l[i]?:=fun hi=>by rw[hL,pO hi]
 let SS:(Nat->Bool)->St:=stP st J L lo ol;have lo_at:∀ {k:Nat} {o:Oper},l[k]? = some o->∃ x,lo[k]? = some x/\lo.getD k default=x:=by grind
 have md_at:∀ {k:Nat} {x:LOp} {o o':Nat} {c:bA} {q:Option Nat},lo[k]? = some x->x.md=some (o,c,q)->aDZ lo o' k=(match Nat.beq o o' with | true=>some c | false=>none):=by
  intro k x o o' c q hx hmd;have:lo.getD k default=x:=by simp_all
  unfold aDZ;rw[this];cases x with
  | mk v md fs=>simp_all
 have hdlt:∀ {i:Nat} {o:Oper},L[i]? = some o->∀ j,j∈jN o->j<i:=by intro i o hi j hj;have:=(Ow hpre hi).1 j hj;omega
 have rdy:∀ m:List Bool,m.length=L.length->∀ i o,L[i]? = some o->fB m i false=false->(∀ j,j∈jN o->fB m j false=true)->i∈Region.ready .any L.toArray m.toArray:=by
  intro m D i o ho hb hd;have hi':i<m.length:=by grind
  rw[mem_ready];refine⟨?_,o,by simp_all,fun e hee hbd=>?_⟩
  ·rw[eV]at hb;have:m[i]=false:=by grind
   simp[Array.getD_eq_getD_getElem?,hi',this]
  ·have hdep:e.on∈jN o:=by simp only[jN,cU,iQ];grind
   have:=hd e.on hdep;rw[eV]at this;simp_all
 have done:∀ m:List Bool,m.length=L.length->(∀ i,i<l.length->i∉Region.ready .any L.toArray m.toArray)->∀ i,i<l.length->fB m i false=true:=by
  intro m D hr i
  induction i using Nat.strongRecOn with
  | _ i ih=>grind
 have toF:∀ m:List Bool,(∀ i,i<l.length->fB m i false=true)->(∀ i,l.length<=i->fB m i false=false)->∀ {a w},Rel E (SS fun j=>fB m j false) a w->Rel E stF a w:=by
  intro m h1 h2 a w r;have hp:(fun j=>fB m j false)=fun j=>Nat.blt j l.length:=by
   funext j;by_cases hj:j<l.length
   ·simp_all
   ·rw[h2 j (by omega)];cases hb:Nat.blt j l.length with
    | false=>rfl
    | true=>exact absurd (by simp_all) hj
  rw[hp]at r;exact r.keep hF
 have late:∀ i o,l.length<i->L[i]? = some o->∃ k,k∈jN o/\l.length<=k:=by
  intro i o hi ho;have ho':=ho;rw[hL,nD (by omega)]at ho'
  match tl,htl with
  | [],_=>simp at ho'
  | x::t,h=>simp only[tlB,cQ]at h;exact Su h.2.1 ho hi
 have htl2:chT L l.length tl=true:=by
  match tl,htl with
  | [],_=>rfl
  | x::t,h=>simp only[tlB,cQ]at h;simp only[chT,qA,cQ];exact .inr h.2
 have notyet:∀ (m:List Bool) (i:Nat),aLU L m i=true->i<m.length->fB m i false=false/\∀ o,L[i]? = some o->∀ j,j∈jN o->fB m j false=true:=by
  intro m i Z him;constructor
  ·unfold aLU at Z;split at Z
   ·cases Z
   ·rename_i hb;rw[eV]at hb ⊢;grind
  ·intro o ho;unfold aLU at Z;grind
 have sil:Region.noSelect L.toArray=true->∀ (t:List Oper) (j:Nat),L.drop j=t->aSF L t j=true->∀ (fuel:Nat) (m:List Bool),m.length=L.length->(∀ i,i<j->i<L.length->fB m i false=true)->(∀ i,j<=i->fB m i false=false)->t.length<=fuel ->
   ∀ a w,wpList P L.toArray (rO E Q) t a w->wpAny P .any L.toArray (noP (rO E Q)) fuel m.toArray a w:=by
  intro hns t
  induction t with
  | nil=>intro j hd _ fuel m D hT hFs _ a w hq;refine Ln (List.eq_nil_iff_forall_not_mem.2 fun i hi=>?_) ⟨by simpa only[wpList] using hq,fun c h=>by cases h⟩ fuel;obtain⟨Z,hiL⟩:=Eg hi;grind
  | cons o t ih=>
   intro j hd hsb fuel m D hT hFs hfu a w hq;have ho:L[j]? = some o:=by rw[<-List.head?_drop,hd]; rfl
   have hjL:j<L.length:=(Ir.1 ho).1;have hd':L.drop (j+1)=t:=by rw[<-List.tail_drop,hd]; rfl
   obtain⟨f,rfl⟩:∃ f,fuel=f+1:=⟨fuel-1,by simp only[fX]at hfu; omega⟩;simp only[aSF,cQ]at hsb;obtain⟨⟨hs1,hs2⟩,hs3⟩:=hsb;have hw:Region.wanted o (yielded L.toArray a.tmps)=true:=by unfold Region.wanted; rw[aCK hs1]
   simp only[wpList]at hq;rw[aA hw]at hq;obtain⟨v,hv,hK⟩:=aQW hs1 hq;have hm:m=Ra L j:=by
    refine Rr (by unfold Ra; simp[D]) fun k h1 h2=>?_;have e1:fB m k false=m[k]:=by rw[eV]; grind
    have e2:(Ra L j)[k]=Nat.blt k j:=by simp[Ra]
    rw[e2,<-e1];by_cases hkj:k<j
    ·rw[hT k hkj (by omega)]; exact(by simpa[Nat.blt_eq] using hkj:Nat.blt k j=true).symm
    ·rw[hFs k (by omega)];cases hb:Nat.blt k j with
     | false=>rfl
     | true=>exact absurd (by simpa[Nat.blt_eq] using hb) hkj
   have hset:(m.toArray).setIfInBounds j true=(yD m j).toArray:=by rw[uY]; simp
   have hjm:j<m.length:=by omega
   have G:∀ k,fB (yD m j) k false=(if k=j then true else fB m k false):=by intro k;rw[uY,eV,eV];grind
   refine wpAny_take (i:=j) (oi:=o) (v:=v) (by simpa using ho) hns (by grind) (by grind) (fun c a w h=>absurd rfl (h.2 c)) (.inl ⟨hw,hv⟩) ?_;rw[hset];refine ih (j+1) hd' hs3 f (yD m j) (by grind) (fun k hk hkL=>?_) (fun k hk=>?_) (by grind) _ w hK
   ·rw[G];grind
   grind
 have tail:∀ (t:List Oper) (j:Nat),l.length<=j->L.drop j=t->chT L j t=true->∀ (fuel:Nat) (m:List Bool),m.length=L.length->(∀ i,i<j->i<L.length->fB m i false=true)->(∀ i,j<=i->fB m i false=false)->t.length<=fuel ->
   ∀ a w,wpList P L.toArray (rO E Q) t a w->wpAny P .any L.toArray (rO E Q) fuel m.toArray a w:=by
  intro t
  induction t with
  | nil=>intro j _ hd _ fuel m D hT hFs _ a w hq;refine Ln (List.eq_nil_iff_forall_not_mem.2 fun i hi=>?_) (by simpa only[wpList] using hq) fuel;obtain⟨Z,hiL⟩:=Eg hi;grind
  | cons o t ih=>
   intro j hj hd hch fuel m D hT hFs hfu a w hq;simp only[chT,qA,cQ]at hch;rcases hch with⟨hns,hsb⟩ | ⟨honly,hch⟩
   ·exact nZ (fun e a w h=>h.1) fuel _ a w (sil hns (o::t) j hd hsb fuel m D hT hFs hfu a w hq)
   have ho:L[j]? = some o:=by rw[<-List.head?_drop,hd]; rfl
   have hjL:j<L.length:=(Ir.1 ho).1;have hd':L.drop (j+1)=t:=by rw[<-List.tail_drop,hd]; rfl
   obtain⟨f,rfl⟩:∃ f,fuel=f+1:=⟨fuel-1,by simp only[fX]at hfu; omega⟩;refine⟨fun hr=>?_,fun i hi=>?_⟩
   ·grind
   ·obtain⟨Z,hiL⟩:=Eg hi;have him:i<m.length:=by omega
    obtain⟨n1,n2⟩:=notyet m i Z him;have hij:i=j:=by
     refine Rt fun hne=>?_;have hlt:j<i:=by grind
     obtain⟨k,hk1,hk2⟩:=Su honly (iE hiL) hlt;grind
    subst hij;have hset:(m.toArray).setIfInBounds i true=(yD m i).toArray:=by rw[uY]; simp
    have G:∀ k,fB (yD m i) k false=(if k=i then true else fB m k false):=by intro k;rw[uY,eV,eV];grind
    have go:∀ a w,wpList P L.toArray (rO E Q) t a w->wpAny P .any L.toArray (rO E Q) f (m.toArray.setIfInBounds i true) a w:=by
     intro a w h;rw[hset];refine ih (i+1) (by omega) hd' hch f (yD m i) (by grind) (fun k hk hkL=>?_) (fun k hk=>?_) (by grind) a w h
     ·rw[G];grind
     ·rw[G,aF]; grind
    simp only[wpList]at hq;unfold wpOp;rw[show (L.toArray)[i]? = some o by simpa using ho];simp only;split
    ·rename_i hw;rw[aA hw]at hq;rcases hq with hq | hq
     ·exact .inl (Oper.wp_mono go hq)
     grind
    grind
 have key:∀ (fuel:Nat) (m:List Bool),m.length=L.length->(∀ i k,fB m i false=true->k∈pre.getD i []->fB m k false=true)->(∀ i,l.length<=i->fB m i false=false)->m.count false<=fuel->∀ a w,Rel E (SS fun j=>fB m j false) a w ->
   wpAny P .any L.toArray (rO E Q) fuel m.toArray a w:=by
  have fin:∀ (fuel:Nat) (m:List Bool),m.length=L.length->(∀ i,l.length<=i->fB m i false=false)->m.count false<=fuel->(∀ i,i<l.length->fB m i false=true)->∀ a w,Rel E (SS fun j=>fB m j false) a w->wpAny P .any L.toArray (rO E Q) fuel m.toArray a w:=by
   intro fuel m D hts hcnt hall a w r;refine tail tl l.length (cM _) (by rw[hL]; simp) htl2 fuel m D (fun i hi _=>hall i hi) hts ?_ a w (hk a w (toF m hall hts r));have h1:(m.drop l.length).count false=(m.drop l.length).length:=by refine List.count_eq_length.2 fun b hb=>?_;obtain⟨q,hq,rfl⟩:=Cq.1 hb;have h2:=hts (l.length+q) (by omega);rw[eV]at h2;grind
   have h4:m.count false=(m.take l.length).count false+(m.drop l.length).count false:=by rw[<-List.count_append,gV]
   grind
  intro fuel
  induction fuel with
  | zero=>
   intro m D hcl hts hcnt a w r;refine fin 0 m D hts hcnt (fun i hi=>?_) a w r;have him:i<m.length:=by omega
   cases hb:fB m i false with
   | true=>rfl
   | false=>exfalso;rw[eV]at hb;grind
  | succ fuel ih=>
   intro m D hcl hts hcnt a w r;by_cases hall0:∀ i,i<l.length->fB m i false=true
   ·grind
   refine⟨fun hr=>absurd (done m D fun i _ h=>by grind) hall0,fun i hi=>?_⟩;obtain⟨Z,hiL⟩:=Eg hi;have him:i<m.length:=by omega
   obtain⟨hmi0,hdeps0⟩:=notyet m i Z him;have hil:i<l.length:=by
    refine Rt fun hn=>?_;have ho:=iE hiL;by_cases hin:i=l.length
    ·subst hin;have hd:=hdeps0 _ ho;refine hall0 fun k hk'=>?_;have e0:L[l.length]? = tl[0]?:=by rw[hL,nD (cM _),Nat.sub_self]
     have hoT:tl[0]? = some L[l.length]:=e0.symm.trans ho
     match tl,htl,hoT with
     | x::t,h,hoT=>
      simp only[tlB,cQ]at h;have hx:x=L[l.length]:=by grind
      have:=fT.1 h.1 k (Hi.2 hk');rw[hx]at this;simp only[qA,List.any_eq_true]at this;rcases this with h | ⟨j,hj,h⟩
      ·exact hd k (dT.1 h)
      ·exact hcl j k (hd j hj) (dT.1 h)
    grind
   have hol0:l[i]? = some l[i]:=iE hil;have ho:L[i]? = some l[i]:=by grind
   have hmi:fB m i false=false:=by omega
   have hdeps:∀ j,j∈jN l[i]->fB m j false=true:=by grind
   have hpi:=Ow hpre ho;simp only[iY]at hpi;have hprem:∀ k,k∈pre.getD i []->fB m k false=true:=by
    intro k hk;rcases (hpi.2 k hk).2 with h | ⟨j,hj,h⟩
    all_goals grind
   have hinot:i∉pre.getD i []:=fun h=>Kq _ (hpi.2 i h).1;have hsucc:∀ j,i∈pre.getD j []->fB m j false=false:=by grind
   have hsub1:∀ e,e∈(stI st J L lo ol pre i).fr->e∈(SS fun j=>fB m j false).fr:=by
    intro e he;simp only[stI,dW]at he;show e∈frP _ L J++tK _ 0 L lo;rw[dW];rcases he with he | he
    ·obtain⟨h1,h2⟩:=tR.1 he;refine .inl (tR.2 ⟨h1,fun k o h3 h4=>?_⟩);have:=h2 k o h3 h4;simp only[Bool.not_eq_false',qA]at this;rcases this with (h | h) | h
     ·rw[bS h]; exact hmi
     ·exact hsucc k (dT.1 h)
     ·exact hts k (by have:=fI h; omega)
    ·obtain⟨k,o,x,h1,h2,h3,h4,h5⟩:=pF he;exact .inr (Ij h1 h2 (by rw[iY]at h3 ⊢; exact hprem k (dT.1 h3)) h4 h5)
   have hsub2:∀ e,e∈(stI st J L lo ol pre i).hp->e∈(SS fun j=>fB m j false).hp:=by
    intro e he;obtain⟨new,js,h1,h2⟩:=nF he;obtain⟨h1,h3⟩:=iQ.1 h1;refine wZ h1 ?_;rw[<-h2];refine nS fun j hj=>?_;have:=fT.1 h3 j hj;simp only[qA]at this;cases hin:inN j (pre.getD i []) with
    | true=>exact hprem j (dT.1 hin)
    | false=>
     rcases this with (h | h) | h
     ·rw[bS h]; exact hmi
     ·grind
     ·exact hsucc j (dT.1 h)
   have huq:∀ k x y,(k,x)∈(SS fun j=>fB m j false).hp->(k,y)∈(SS fun j=>fB m j false).hp->x=y:=by intro k x y h1 h2;obtain⟨n1,j1,h3,h4⟩:=nF h1;obtain⟨n2,j2,h5,h6⟩:=nF h2;have:=Gi hol h3 h5 rfl;grind
   obtain⟨x,hx,hxd⟩:=lo_at hol0;have heff:=aAL he hol0;rw[iY]at heff;unfold bCH at heff;rw[hxd]at heff;have hCs:All (match look conds i with | some l=>l | none=>[]):=by
    split
    ·rename_i h; exact hA.mem _ (aX h)
    ·exact trivial
   unfold wpOp;rw[show (L.toArray)[i]? = some l[i] by simpa using ho];simp only;have fin2:(if Region.wanted l[i] (yielded L.toArray a.tmps) then l[i].wp P a w (wpAny P .any L.toArray (rO E Q) fuel (m.toArray.setIfInBounds i true)) (rO E Q) else wpAny P .any L.toArray (rO E Q) fuel (m.toArray.setIfInBounds i true) (a.put l[i].dst undef) w) ->
     (if Region.wanted l[i] (yielded L.toArray a.tmps) then l[i].wp P a w (wpAny P .any L.toArray (rO E Q) fuel (m.toArray.setIfInBounds i true)) (rO E Q)\/l[i].asks P a w/\LetsOut (rO E Q) else wpAny P .any L.toArray (rO E Q) fuel (m.toArray.setIfInBounds i true) (a.put l[i].dst undef) w):=by
    grind
   refine fin2 (aZA hG (fun k args r Hs ch hca=>hc.mem _ (aX hca)) hsub1 hsub2 huq heff hCs (fun f hf i=>by grind) (fun k args r Hs ch hca hwt=>by rw[hca,hwt]) (fun d hia=>?_) r fun a' w' r'=>?_)
   ·
    obtain⟨c1,c2,c3,c4⟩:=Iy hall hol0 hia;simp only[iY]at c1 c4;refine⟨fun e he=>?_,fun e he=>?_⟩
    ·change e∈frP _ L J++tK _ 0 L lo at he;rcases dW.1 he with he | he
     ·exact c3 e (tR.1 he).1
     ·obtain⟨k,o,y,h1,h2,h3,h4,h5⟩:=pF he;rw[iY]at h3;rcases (Bd c1 h2).1 _ h5 with h | h | h
      all_goals grind
    ·obtain⟨new,js,h1,h2⟩:=nF he;obtain⟨d1,d2⟩:=Jw c2 h1;constructor
     ·cases hb:Nat.beq e.1 d with
      | false=>rfl
      | true=>
       exfalso;have hed:=bS hb;have hnew:=d1 hed;rcases uM h2 with h | ⟨j,hj,hpj,_⟩
       ·rw[hnew]at h; simp[ini]at h
       ·rcases c4 _ h1 hed j hj with h | h
        all_goals grind
     ·rcases uM h2 with h | ⟨j,hj,hpj,hmd⟩
      ·exact d2 _ h
      ·have hjl:j<lo.length:=by grind
       have hlj:lo[j]? = some lo[j]:=iE hjl;have hgd:lo.getD j default=lo[j]:=by grind
       unfold aDZ at hmd;rw[hgd]at hmd;split at hmd
       ·rename_i v0 o0 c0 q0 f0 hv0;split at hmd
        case h_2=>cases hmd
        cases hmd;rcases (Bd c1 hlj).2 o0 e.2 q0 (by rw[hv0]) with h | h | h
        all_goals grind
       ·cases hmd
   ·
    have hset:(m.toArray).setIfInBounds i true=(yD m i).toArray:=by rw[uY]; simp
    rw[hset];have G:∀ j,fB (yD m i) j false=(if j=i then true else fB m j false):=by intro j;rw[uY,eV,eV];simp only[dV,List.getElem?_set];grind
    refine ih (yD m i) (by grind) (fun j k hj hk=>?_) (fun j hj=>by rw[G,aF]; exact hts j hj) ?_ a' w' ?_
    ·rw[G]at hj ⊢;by_cases hki:k=i
     ·simp[hki]
     ·rw[aF hki];by_cases hji:j=i
      all_goals grind
    ·have hmi2:m[i]=false:=by rw[eV]at hmi; grind
     grind
    ·refine r'.sub (fun e he=>?_) (fun e he=>?_)
     ·change e∈frP _ L J++tK _ 0 L lo at he;have old:e∈(SS fun j=>fB m j false).fr->(∀ d,l[i].dst=some d->e.1≠d)->e∈(oR (SS fun j=>fB m j false) l[i].dst (match look lits i with | some (b,_)=>some (PV.t (T.bool b)) | none=>x.val) x.md).fr:=by
       intro h1 h2;unfold oR;simp only;split
       ·rename_i d y hd _;obtain⟨k,z⟩:=e;exact cO _ (bB.2 ⟨h1,h2 d hd⟩)
       omega
      rcases dW.1 he with he | he
      ·obtain⟨h1,h2⟩:=tR.1 he;refine old (Uk _ (tR.2 ⟨h1,fun k o h3 h4=>?_⟩)) fun d hd hed=>?_
       ·have:=h2 k o h3 h4;rw[G]at this;split at this
        all_goals grind
       grind
      ·obtain⟨k,o,y,h1,h2,h3,h4,h5⟩:=pF he;rw[iY,G]at h3;by_cases hki:k=i
       ·subst hki;have h1:l[k]=o:=by grind
        have h2:x=y:=by grind
        subst h2;rw[h1];unfold oR;simp only;cases hlk:look lits k with
        | none=>grind
        | some bv=>obtain⟨b,v⟩:=bv;have hbv:b=v:=hl.mem _ (aX hlk);subst hbv;have:=fT.1 hlit _ (aX hlk);simp only[hxd,h5]at this;simp only[h4];have hee:e=(e.1,PV.t (T.bool b)):=Prod.ext rfl (aWT this);grind
       ·rw[aF hki]at h3;refine old (sT _ (Ij h1 h2 (by grind) h4 h5)) fun d hd hed=>?_;exact hki (aRB hnd h1 ho h4 (by rw[hd,hed]))
     ·obtain⟨new,js,h1,h2⟩:=nF he;have hmo:=Sb hmods hx;simp only[iY]at hmo;have old:i∉js->e∈(SS fun j=>fB m j false).hp:=by intro hnj;refine wZ h1 ?_;rw[<-h2];refine nS fun j hj=>?_;have hji:j≠i:=fun h=>hnj (h▸hj);rw[G,aF hji]
      unfold oR;simp only;split
      ·rename_i o c q hmd;obtain⟨⟨e0,q1,q2,q3⟩,q4⟩:=hmo.1 o c q hmd;by_cases heo:e.1=o
       ·have:e0=(e.1,new,js):=Gi hol q1 h1 (by rw[q2,heo]);subst this;have:=tU (o:=e.1) (q:=fun j=>fB (yD m i) j false) (by simp[G]) (M _ h1) q3 (c:=ini st.hp e.1 new) (lo:=lo) (fun j _ hj=>by have hji:j≠i:=fun h=>hinot (h▸hj);grind);rw[this,md_at hx hmd,<-heo,Ci]at h2;grind
       ·refine cO _ ?_;obtain⟨k,z⟩:=e;rcases q4 _ h1 with h | ⟨h,h'⟩ | ⟨h,h'⟩
        ·omega
        ·exfalso;have:=tU (o:=k) (q:=fun j=>fB (yD m i) j false) (by simp[G]) (M _ h1) h' (c:=ini st.hp k new) (lo:=lo) (fun j _ hj=>by have hji:j≠i:=fun h=>hinot (h▸hj);grind);rw[this,md_at hx hmd]at h2;have hb:Nat.beq o k=false:=by
          cases hb:Nat.beq o k with
          | false=>rfl
          | true=>exact absurd (bS hb).symm heo
         grind
        ·refine bB.2 ⟨?_,heo⟩;cases q with
         | none=>exact old h'
         | some q=>exact bB.2 ⟨old h',fun hh=>h (by rw[hh])⟩
      grind
 refine wp_region_any hm ?_;have h0:=key L.length (List.replicate L.length false) (by simp) (fun i k h=>by rw[eV]at h; simp[Ck]at h; split at h <;> simp at h) (fun i _=>by rw[eV]; simp[Ck]; split <;> rfl) (by simp) a _ (r.drew.sub (fun e he=>?_) (fun e he=>?_))
 ·simpa using h0
 ·change e∈frP _ L J++tK _ 0 L lo at he;rcases dW.1 he with he | he
  ·exact(hf0 e (tR.1 he).1).1
  ·obtain⟨k,o,y,h1,h2,h3,h4,h5⟩:=pF he;rw[eV]at h3;simp[Ck]at h3;split at h3 <;> simp at h3
 ·obtain⟨new,js,h1,h2⟩:=nF he;rw[Bi (fun j _=>by rw[eV]; simp[Ck]; split <;> rfl)]at h2;unfold ini at h2;split at h2
  ·cases h2
  ·exact aX h2
def Up(I:Inf)(L l:List Oper)(calls:List (Nat×(Nat×List PV×PV×Hp×Option (Nat×bA))))(lits:List (Nat×(Bool×Bool)))(st:St)(ts:List Nat)(ol:OL):List LOp:=
 bFR I L calls lits st (iJ st.fr ts) ol (Sk (Uq l) []) 0 l []
theorem wJ{α:Type}{l:List (Nat×α)}:∀ {ts:List Nat} e,e∈iJ l ts->e.1∈ts
 | [],e,h=>by simp[iJ]at h
 | t::ts,e,h=>by
  simp only[iJ]at h;split at h
  ·rcases bE.1 h with rfl | h
   ·simp
   ·exact cO _ (wJ e h)
  ·exact cO _ (wJ e h)
theorem aQG(hG:gN P E I)(hm:P.follows .mixedOrders=true){L l tl:List Oper}(Z:L=l++tl){st G:St}(calls:List (Nat×(Nat×List PV×PV×Hp×Option (Nat×bA))))(lits:List (Nat×(Bool×Bool)))(conds:List (Nat×List Prop))(ol:OL)
  (ts:List Nat)(hc:Ub P calls)(hl:Cm lits)(hA:tJ conds)(D J:List Nat)
  (M:(wfL L l tl (Sk (Uq l) []) st ts (iJ st.fr ts) (Up I L l calls lits st ts ol) ol&&aKC lits (Up I L l calls lits st ts ol))=true)
  (he:aCG I L calls st (iJ st.fr ts) (Up I L l calls lits st ts ol) ol (Sk (Uq l) []) 0 l=aDU L calls lits conds st (iJ st.fr ts) (Up I L l calls lits st ts ol) ol (Sk (Uq l) []) 0 l)
  (hF:(stP st (iJ st.fr ts) L (Up I L l calls lits st ts ol) ol (fun j=>Nat.blt j l.length)).keep D J=some G)(hk:fG P E L Q tl G):pwp P E (.region id L.toArray true) Q st:=by
 simp only[cQ]at M;exact aLX hG hm Z (fun e he=>⟨vW e he,wJ e he⟩) hc hl hA D J M.1 M.2 he hF hk
end
def bBJ(L:List Nat)(x:PV):Bool:=match L with | []=>x.pure | _=>x.scalar
section
variable {P:Program} {E:Env} {I:Inf} {Q:iK} {st:St}
end
def Il:T->T->Bool
 | .int k _,.int k' _=>decide (k=k')
 | .str _,.str _=>true
 | _,_=>false
class MKey (K:Type) where
 kT:K->T
 lt:K->K->Bool
 eq:DecidableEq K
 inj:∀ a b,kT a=kT b->a=b
 same:∀ a b,Il (kT a) (kT b)=true
instance (K:Type)[MKey K]:DecidableEq K:=MKey.eq
instance:MKey ByteArray where
 kT:=.str
 lt a b:=Op.bytesLess a.toList b.toList
 eq:=inferInstance
 inj a b h:=by injection h
 same _ _:=by rfl
instance:MKey Int where
 kT n:=.int .i64 n
 lt a b:=decide (a<b)
 eq:=inferInstance
 inj a b h:=by injection h
 same _ _:=by rfl
section
variable {K V:Type} [MKey K]
def mdel(v:List (K×V))(k:K):List (K×V):=v.filter fun p=>decide (p.1≠k)
def mins(k:K)(c:V):List (K×V)->List (K×V)
 | []=>[(k,c)]
 | p::l=>match MKey.lt k p.1 with | true=>(k,c)::p::l | false=>p::mins k c l
def mput(v:List (K×V))(k:K)(c:V):List (K×V):=mins k c (mdel v k)
def bG:List (K×V)->K->Option V
 | [],_=>none
 | p::l,k=>if p.1=k then some p.2 else bG l k
def eM(enc:V->Mem)(v:List (K×V)):List (T×Mem):=v.map fun p=>(MKey.kT p.1,enc p.2)
def aY(v:List (K×V)):List K:=v.map (·.1)
def kTs(l:List K):List T:=l.map MKey.kT
theorem Bp(k:K)(c:V):∀ l:List (K×V),(mins k c l).Perm ((k,c)::l)
 | []=>.refl _
 | p::l=>by
  simp only[mins];split
  ·rfl
  ·exact((Bp k c l).cons p).trans (.swap ..)
theorem Am(v:List (K×V))(k:K)(c:V):(mput v k c).Perm ((k,c)::mdel v k):=Bp k c _
theorem aLN(v:List (K×V))(k:K):k∉aY (mdel v k):=by simp[aY,mdel]
theorem kG{v:List (K×V)}{k:K}(h:bG v k=none):k∉aY v:=by
 induction v with
 | nil=>simp[aY]
 | cons p l ih=>
  simp only[bG]at h;split at h
  ·cases h
  ·rename_i hp;have:=ih h;simp only[aY,fY,bE,not_or]at this ⊢;grind
theorem rW{v:List (K×V)}{k:K}(h:k∉aY v):mdel v k=v:=by refine Tq.2 fun p hp=>?_;simp only[jX];intro e;exact h (e▸Jo hp)
theorem Wa{v:List (K×V)}{k:K}{c:V}(hn:(aY v).Nodup)(h:bG v k=some c):v.Perm ((k,c)::mdel v k):=by
 induction v with
 | nil=>simp[bG]at h
 | cons p l ih=>
  simp only[aY,fY,xE]at hn;simp only[bG]at h;split at h
  ·rename_i hp;injection h with h;have:mdel (p::l) k=l:=by have hl:mdel l k=l:=rW (hp▸hn.1);unfold mdel at hl ⊢;grind
   rw[this,<-h,<-hp]
  ·rename_i hp;have:=ih hn.2 h;have e:mdel (p::l) k=p::mdel l k:=by unfold mdel;rw[Ju (by simp_all)]
   rw[e];exact(this.cons p).trans (.swap ..)
theorem aAS{enc:V->Mem}{v D:List (K×V)}(h:v.Perm D):(eM enc v).Perm (eM enc D):=h.map _
theorem Fb{enc:V->Mem}{v:List (K×V)}:(eM enc v).map (·.1)=kTs (aY v):=by simp[eM,kTs,aY,Function.comp_def]
theorem Yp{l:List K}{k:K}:MKey.kT k∈kTs l↔k∈l:=by simp only[kTs,cU];exact⟨fun⟨a,h1,h2⟩=>MKey.inj _ _ h2▸h1,fun h=>⟨k,h,rfl⟩⟩
theorem aCR{l:List K}(h:(kTs l).Nodup):l.Nodup:=by
 induction l with
 | nil=>simp
 | cons a l ih=>simp only[kTs,fY,xE]at h;exact xE.2 ⟨fun hm=>h.1 (Jo hm),ih h.2⟩
theorem aMU{enc:V->Mem}{v:List (K×V)}(h:((eM enc v).map (·.1)).Nodup):(aY v).Nodup:=aCR (by rw[<-Fb (enc:=enc)]; exact h)
end
section
variable {F:Nat->Prop} {g:Nat->Value} {w:World} {b clock:Nat} {es:Array MapEntry} {it:Option Iter}
theorem mV.perm{β:Type}{R:α->β->Prop}{l D:List α}(hp:l.Perm D):∀ {r:List β},mV R l r->∃ r':List β,mV R D r'/\(l.zip r).Perm (D.zip r')/\r.Perm r':=by
 induction hp with
 | nil=>intro r h; cases h; exact⟨[],.nil,.refl _,.refl _⟩
 | cons x _ ih=>
  intro r h;cases h with
  | cons h t=>obtain⟨r',h1,h2,h3⟩:=ih t;exact⟨_::r',.cons h h1,by simp_all,h3.cons _⟩
 | swap x y l=>
  intro r h;cases h with
  | cons h t=>cases t with
   | cons h' t=>exact⟨_::_::_,.cons h' (.cons h t),by simpa using .swap ..,.swap ..⟩
 | trans _ _ ih1 ih2=>intro r h;obtain⟨Q,h1,h2,h3⟩:=ih1 h;obtain⟨G,h4,M,J⟩:=ih2 h1;exact⟨G,h4,h2.trans M,h3.trans J⟩
def Sf(z:List ((T×Mem)×MapEntry)):Prop:=z.Pairwise fun a c=>a.1.2.owned=true->c.1.2.owned=true->∀ x,blk a.2.val=some x->blk c.2.val=some x->False
theorem aOO{m:List (T×Mem)}{l:List MapEntry}(h:∀ (i j:Nat) x y e e' c,m[i]? = some x->m[j]? = some y->l[i]? = some e->l[j]? = some e'->i≠j->x.2.owned=true->y.2.owned=true->blk e.val=some c->blk e'.val=some c->False):
  Sf (m.zip l):=by
 unfold Sf;rw[Bu];intro i j hi J hlt ho G x hx D;simp only[List.length_zip]at hi J;rw[List.getElem_zip]at ho G hx D;exact h i j m[i] m[j] l[i] l[j] x (iE (by omega)) (iE (by omega)) (iE (by omega)) (iE (by omega)) (by omega) ho G hx D
theorem aQN{m:List (T×Mem)}{l:List MapEntry}(h:Sf (m.zip l)):∀ (i j:Nat) x y e e' c,m[i]? = some x->m[j]? = some y->l[i]? = some e->l[j]? = some e'->i≠j->x.2.owned=true->y.2.owned=true->blk e.val=some c->blk e'.val=some c->False:=by unfold Sf at h;rw[Bu]at h;grind
theorem Sf.perm{z J:List ((T×Mem)×MapEntry)}(h:Sf z)(hp:z.Perm J):Sf J:=by unfold Sf at h ⊢;exact(hp.pairwise_iff (fun {a c} h ho G x hx D=>h G ho x D hx)).1 h
theorem MpR.permM{m D:List (T×Mem)}{ho:Option (T×Option PV)}{l:List MapEntry}(h:MpR F g w b es clock it m ho l r)(hp:m.Perm D):∃ l',MpR F g w b es clock it D ho l' r:=by obtain⟨l',h1,h2,h3⟩:=h.ent.perm hp;refine⟨l',((h3.append_right r).symm).trans h.perm,h1,h.hole,?_,h.born,h.old,aQN ((aOO h.sep).perm h2),h.it⟩;exact(((hp.map _).append_right _).nodup_iff).1 h.keys
theorem MpR.focus{m:List (T×Mem)}{k:T}{y:Mem}{l:List MapEntry}(h:MpR F g w b es clock it ((k,y)::m) none l r){g':Nat->Value}{p:Option PV}(hp:∀ q,p=some q->∀ v,It F w y v->(∃ e,e∈es.toList/\e.val=v/\KeyR k e.key)->VR F g' w q v)
  (hit:ItR g' w b es clock it):∃ e l',l=e::l'/\KeyR k e.key/\It F w y e.val/\e∈es.toList/\MpR F g' w b es clock it m (some (k,p)) l' [e]:=by
 have hr:=h.hole;simp only[rI]at hr;subst hr;have D:=h.perm;cases hent:h.ent with
 | @cons _ e _ l' hR t=>
  have he:e∈es.toList:=D.mem_iff.1 (by simp);refine⟨e,l',rfl,hR.1,hR.2,he,⟨?_,t,?_,?_,h.born,h.old,fun i j x G M J c hx hy h1 h2 Q=>h.sep (i+1) (j+1) x G M J c (by simp_all) (by simp_all) (by simp_all) (by simp_all) (by omega),hit⟩⟩
  ·rw[eQ]at D;refine List.Perm.trans ?_ D;simp_all
  ·cases p with
   | none=>exact .inr ⟨e,rfl,hR.1⟩
   | some q=>exact⟨e,rfl,hR.1,hp q rfl _ hR.2 ⟨e,he,rfl,hR.1⟩⟩
  ·have hk:=h.keys;simp only[fY,hoK,eQ]at hk ⊢;grind
end
def Ur:T->Option TypeDesc
 | .int k _=>some (.int k)
 | .str _=>some .string
 | _=>none
section
variable {P:Program} {w:World}
theorem Gs{k:T}{kv:Value}(hk:KeyR k kv){kd:TypeDesc}(hd:Ur k=some kd):∀ (es:List MapEntry) (i:Nat),(∀ e,e∈es->∃ k',KeyR k' e.key/\Il k k'=true) ->
  (Instr.findNow kd kv es i=some none/\∀ e,e∈es->¬ KeyR k e.key)\/∃ j e,es[j]? = some e/\KeyR k e.key/\Instr.findNow kd kv es i=some (some (i+j,e.val))
 | [],i,_=>.inl ⟨rfl,by simp⟩
 | e::es,i,h=>by
  obtain⟨k',h1,h2⟩:=h e (by simp);have ih:=Gs hk hd es (i+1) fun e' he=>h e' (cO _ he);have hs:∃ q,Instr.sameNow kd kv e.key=some q/\(q=true↔k=k'):=by
   generalize e.key=u at h1;cases hk with
   | int q n=>
    cases h1 with
    | int q' n'=>simp only[Il,jX]at h2;subst h2;simp only[Ur,gJ]at hd;subst hd;exact⟨n==n',by simp[Instr.sameNow],by simp⟩
    | str s=>cases h2
   | str s=>
    cases h1 with
    | int q' n'=>cases h2
    | str s'=>simp only[Ur,gJ]at hd;subst hd;exact⟨s==s',by rfl,by rw[MapKept.bytes_beq]; simp_all⟩
  obtain⟨q,hs,hq⟩:=hs;simp only[Instr.findNow,hs];cases q with
  | true=>have hkk:=hq.1 rfl;subst hkk;exact .inr ⟨0,e,by simp,h1,rfl⟩
  | false=>
   have hkk:k≠k':=fun e=>by simp_all
   rcases ih with⟨h3,h4⟩ | ⟨j,e',h3,h4,h5⟩
   ·refine .inl ⟨h3,fun x hx=>?_⟩;rcases bE.1 hx with rfl | hx
    ·exact fun hk'=>hkk (hk'.inj h1)
    simp_all
   ·exact .inr ⟨j+1,e',by simp_all,h4,by rw[h5,Gf,Nat.add_comm 1 j]⟩
structure aMF (P:Program)(t:TypeId)(k:T)(kt et:TypeId)(kd:TypeDesc):Prop where
 und:P.underlying t=some (.map kt et)
 key:P.underlying kt=some kd
 d:Ur k=some kd
theorem qY{k:T}(G:aMF P t k kt et kd)(J:Bool)(v:Value)(n:Nat):(Instr.checkKey J (n+1) kt v).run P w = .ok () w:=by
 have D:=G.d;unfold Instr.checkKey;simp only[Sem.run_bind,run_underlying G.key,Result.andThen_ok];cases k with
 | int q m=>simp only[Ur,gJ]at D; subst D; cases v <;> rfl
 | str s=>simp only[Ur,gJ]at D; subst D; cases v <;> rfl
 | _=>cases D
theorem Cn{k:T}(G:aMF P t k kt et kd){D:Value}(hk:KeyR k D)(es:List MapEntry)(h:∀ e,e∈es->∃ k',KeyR k' e.key/\Il k k'=true):
  ((Instr.findKey kt D es).run P w = .ok none w/\∀ e,e∈es->¬ KeyR k e.key)\/∃ j e,es[j]? = some e/\KeyR k e.key/\(Instr.findKey kt D es).run P w = .ok (some (j,e.val)) w:=by
 have hf:=Gs hk G.d es 0 h;unfold Instr.findKey;simp only[Sem.run_bind,run_underlying G.key,Result.andThen_ok];rcases hf with⟨h1,h2⟩ | ⟨j,e,h1,h2,h3⟩
 ·simp_all
 ·exact .inr ⟨j,e,h1,h2,by simp_all⟩
theorem qX{k:T}(G:aMF P t k kt et kd){D:Value}(hk:KeyR k D){b clock:Nat}{es:Array MapEntry}(hb:w.heap[b]? = some (.map es clock))(h:∀ e,e∈es.toList->∃ k',KeyR k' e.key/\Il k k'=true)
  {info:TypeInfo}{z:Value}(hi:P.info? et=some info)(J:info.zero=some z):
  ((Instr.lookup t (.map (some b)) D false).run P w = .ok z w/\∀ e,e∈es.toList->¬ KeyR k e.key)\/∃ e,e∈es.toList/\KeyR k e.key/\(Instr.lookup t (.map (some b)) D false).run P w = .ok e.val w:=by
 have hf:=Cn (w:=w) G hk es.toList h;unfold Instr.lookup;simp only[Sem.run_bind,run_underlying G.und,Result.andThen_ok,Go.run_getObj_map w b es clock hb,Sem.run_pure,qY G];rcases hf with⟨h1,h2⟩ | ⟨j,e,h1,h2,h3⟩
 ·exact .inl ⟨by rw[h1]; simp[zeroValue,typeInfo,hi,J],h2⟩
 ·exact .inr ⟨e,lL h1,h2,by rw[h3]; simp⟩
end
def nE(N:List Nat)(o d:Nat)(x' y:bA)(st:St):Option St:=
 match qG d N,Nat.beq d o,st.erase d with
 | true,false,some st1=>some { fr:=st1.fr,hp:=(d,y)::(o,x')::del o st1.hp }
 | _,_,_=>none
section
variable {P:Program} {E:Env} {I:Inf} {F:Nat->Prop} {g:Nat->Value} {st st2:St} {a:Act} {w:World}
theorem cG.focus(hN:E.N=I.N)(r:cG E F g st a w){x x' y:bA}(u:Value)(hl:look st.hp o=some x)(hs:nE I.N o d x' y st=some st2)
  (hx':∀ g',(∀ k,k≠d->g' k=g k)->g' d=u->dA F g' w o x')(hy:∀ g',(∀ k,k≠d->g' k=g k)->g' d=u->dA F g' w d y)
  (fx:∀ g' b,(∀ k,k≠d->g' k=g k)->g' d=u->bC g' w o x' b->bC g w o x b)(fy:∀ g' b,(∀ k,k≠d->g' k=g k)->g' d=u->bC g' w d y b->bC g w o x b)
  (dis:∀ g' b,(∀ k,k≠d->g' k=g k)->g' d=u->bC g' w o x' b->bC g' w d y b->False):
  d≠o/\∃ g',g' d=u/\(∀ k,k≠d->g' k=g k)/\cG E F g' st2 a w:=by
 unfold nE at hs;split at hs
 ·rename_i st1 hn hdo he;cases hs;have hdo:=pB hdo;have ho:=fun k (hk:k≠d)=>bP g u hk;have hlm:=aX hl;refine⟨hdo,upd g d u,bJ ..,ho,r.nt,r.df,fun t z hz=>?_,⟨?_,r.w.f0,r.w.f1,r.w.ext,fun k hk=>?_,r.w.b0⟩⟩
  ·obtain⟨h1,h2⟩:=St.erase_fr he t z hz;exact(r.fr t z h1).mono (fun b hb=>⟨hb,rfl⟩) (fun k hk=>ho k (h2 k hk))
  ·have old:∀ k z,(k,z)∈del o st1.hp->k≠o/\∃ G,(k,G)∈st.hp/\dA F (upd g d u) w k z/\∀ b,bC (upd g d u) w k z b->bC g w k G b:=by
    intro k z hz;obtain⟨h1,h2⟩:=bB.1 hz;obtain⟨G,h3,h4,h5,h6,h7⟩:=St.erase_hp he k z h1;exact⟨h2,G,h3,(h6 _ _ _ (r.w.hp.obj k G h3)).mono (fun b hb=>⟨hb,rfl⟩) (ho k h4) (fun J hk'=>ho J (h5 J hk')) (fun _ _=>rfl),
     fun b hb=>h7 _ _ _ (hb.mono (ho k h4) (fun J hk'=>ho J (h5 J hk')) (fun _ _=>rfl))⟩
   have foot:∀ k z b,(k,z)∈(d,y)::(o,x')::del o st1.hp->bC (upd g d u) w k z b->∃ J G,(J,G)∈st.hp/\bC g w J G b/\(k=J\/k=d/\J=o):=by
    intro k z b hz hb;rcases bE.1 hz with e | hz
    ·cases e; exact⟨o,x,hlm,fy _ b ho (bJ ..) hb,.inr ⟨rfl,rfl⟩⟩
    ·rcases bE.1 hz with e | hz
     ·cases e; exact⟨o,x,hlm,fx _ b ho (bJ ..) hb,.inl rfl⟩
     grind
   refine⟨fun k z hz=>?_,fun k z b hz hb=>?_,fun k z J G b hz hz' hne hb hb'=>?_⟩
   ·rcases bE.1 hz with e | hz
    ·cases e; exact hy _ ho (bJ ..)
    ·rcases bE.1 hz with e | hz
     ·cases e; exact hx' _ ho (bJ ..)
     grind
   ·obtain⟨J,G,h1,h2,_⟩:=foot k z b hz hb;exact r.w.hp.own J G b h1 h2
   ·have M:∀ k z,(k,z)∈(d,y)::(o,x')::del o st1.hp->k=d/\z=y\/k=o/\z=x'\/k≠o/\(k,z)∈del o st1.hp:=by grind
    obtain⟨q,z1,h1,h2,h3⟩:=foot k z b hz hb;obtain⟨q',z1',h1',h2',D⟩:=foot J G b hz' hb';by_cases hq:q=q'
    ·subst hq;rcases h3 with h3 | ⟨h3,h4⟩
     ·rcases D with D | ⟨D,h4'⟩
      ·omega
      ·subst D; subst h4'; subst h3;rcases M _ _ hz with⟨e1,Z⟩ | ⟨e1,Z⟩ | ⟨e1,Z⟩
       ·omega
       ·subst Z;rcases M _ _ hz' with⟨_,Q⟩ | ⟨e3,Q⟩ | ⟨e3,Q⟩
        ·subst Q; exact dis _ b ho (bJ ..) hb hb'
        ·omega
        ·obtain⟨G,h3,h4,_⟩:=St.erase_hp he _ _ (bB.1 Q).1;omega
       omega
     ·subst h3; subst h4;rcases D with D | ⟨D,h4'⟩
      ·subst D;rcases M _ _ hz' with⟨e1,Z⟩ | ⟨e1,Z⟩ | ⟨e1,Z⟩
       ·omega
       ·subst Z;rcases M _ _ hz with⟨_,Q⟩ | ⟨e3,Q⟩ | ⟨e3,Q⟩
        ·subst Q; exact dis _ b ho (bJ ..) hb' hb
        ·omega
        ·obtain⟨G,h3,h4,_⟩:=St.erase_hp he _ _ (bB.1 Q).1;omega
       omega
      omega
    ·exact r.w.hp.sep q z1 q' z1' b h1 h1' hq h2 h2'
  ·rw[ho k (fun e:k=d=>eX hn (by simp_all))];exact r.w.names k hk
 ·cases hs
theorem fN{ops l:List Oper}{o:Oper}{rest:List Oper}{Q:iK}(hl:l=o::rest)(J:cC ops o st=some true)
  (h:∀ F g a w,cG E F g st a w->∃ n v w' st',(execOp a.eval o).run P w = .ok n w'/\(n = .value v\/(n = .skip/\v=undef))/\Rel E st' (a.put o.dst v) w'/\fG P E ops Q rest st'):fG P E ops Q l st:=by
 subst hl;intro a w r;refine wpList_step fun K G=>?_;obtain⟨F,g,r⟩:=r;have D:=iD (ops:=ops.toArray) r (by simpa using J);obtain⟨n,v,w',st',h1,h2,h3,h4⟩:=h F g a w r;rw[aA D];unfold Oper.wp;rw[h1];rcases h2 with rfl | ⟨rfl,rfl⟩
 ·exact G _ _ (h4 _ _ h3)
 ·exact G _ _ (h4 _ _ h3)
def pH(ti:Nat->Option dO)(t:Nat)(k:T):Option Nat:=
 match ti t with
 | some i=>match i.und with
  | .mp kt et=>match ti kt with
   | some j=>match j.und,k with
    | .int .i64,.int .i64 _=>some et
    | .str,.str _=>some et
    | _,_=>none
   | none=>none
  | _=>none
 | none=>none
theorem tE(G:mP P I.ti){t et:Nat}{k:T}(h:pH I.ti t k=some et):∃ kt kd,aMF P t k kt et kd:=by
 unfold pH at h;split at h
 ·rename_i i hi;split at h
  ·rename_i kt Q J;split at h
   ·rename_i j M;have hm:=(G _ _ hi).und; rw[J]at hm;have hk:=(G _ _ M).und;split at h
    ·rename_i D ; rw[D]at hk; cases h; exact⟨kt,_,hm,hk,rfl⟩
    ·rename_i D ; rw[D]at hk; cases h; exact⟨kt,_,hm,hk,rfl⟩
    ·cases h
   ·cases h
  ·cases h
 ·cases h
def Ii(P:Program)(t:TypeId)(z:Value):Prop:=∃ info,P.info? t=some info/\info.zero=some z
theorem uR{z:Value}(h:(P.info? t).bind (·.zero)=some z):Ii P t z:=by
 cases hi:P.info? t with
 | none=>simp_all
 | some i=>rw[hi]at h; exact⟨i,hi,h⟩
end
section
variable {F:Nat->Prop} {g:Nat->Value} {w:World} {b clock:Nat} {es:Array MapEntry} {it:Option Iter} {K V:Type} [MKey K] {enc:V->Mem}
theorem MpR.kinds{v:List (K×V)}{ho:Option (T×Option PV)}{l:List MapEntry}(h:MpR F g w b es clock it (eM enc v) ho l r)(G:∀ k p,ho=some (k,p)->∃ k':K,k=MKey.kT k')(k:K):
  ∀ e,e∈es.toList->∃ k',KeyR k' e.key/\Il (MKey.kT k) k'=true:=by
 intro e he;rcases dW.1 (h.perm.mem_iff.2 he) with hl | hr
 ·obtain⟨j,y,hy,_,J⟩:=h.ent.memr hl;have:=lL hy;simp only[eM,cU]at this;obtain⟨p,_,rfl⟩:=this;exact⟨_,J.1,MKey.same _ _⟩
 ·have D:=h.hole;rcases ho with _ | ⟨q,p⟩
  ·simp only[rI]at D; simp_all
  ·obtain⟨k',rfl⟩:=G q p rfl;have:KeyR (MKey.kT k') e.key:=by
    cases p with
    | none=>
     rcases D with rfl | ⟨M,rfl,h2⟩
     all_goals simp_all
    | some p=>obtain⟨M,rfl,h2,_⟩:=D;simp_all
   exact⟨_,this,MKey.same _ _⟩
end
end Go.PL
