/-
  Parts: From the reading of arguments to plain data; the frame of a law's row. Own work. What reads as data of the argument types reads as plain data of ours. Printed by a program of our own. The kept part of a plain-law text (strip.py). Own work. The kept part of a plain-law text (strip.py). Own work. The kept part of a plain-law text (strip.py). Own work. The kept part of a plain-law text (strip.py). Own work. The kept part of a plain-law text (strip.py). Own work. The kept part of a plain-law text (strip.py). Own work. The kept part of a plain-law text (strip.py). Own work. The kept part of a plain-law text (strip.py). Own work. The kept part of a plain-law text (strip.py). Own work. The kept part of a plain-law text (strip.py). Own work. The kept part of a plain-law text (strip.py). Own work. The kept part of a plain-law text (strip.py). Own work. The kept part of a plain-law text (strip.py). Own work. The kept part of a plain-law text (strip.py). Own work. The kept part of a plain-law text (strip.py). Own work. The kept part of a plain-law text (strip.py). Own work. The kept part of a plain-law text (strip.py). Own work. The kept part of a plain-law text (strip.py). Own work. The kept part of a plain-law text (strip.py). Own work. The kept part of a plain-law text (strip.py). Own work. The kept part of a plain-law text (strip.py). Own work. Plain law of expressions: the value of a typed expression has its type. Own work. The kept part of a plain-law text (strip.py). Own work. The kept part of a plain-law text (strip.py). Own work. Plain law of the meanings: what is right, what fits, what is given. Own work. The kept part of a plain-law text (strip.py). Own work. The kept part of a plain-law text (strip.py). Own work. The kept part of a plain-law text (strip.py). Own work. The kept part of a plain-law text (strip.py). Own work. The kept part of a plain-law text (strip.py). Own work. The kept part of a plain-law text (strip.py). Own work. The kept part of a plain-law text (strip.py). Own work.
-/
import Derived.Test.YtjefblkdnolgaaaGreatDoorMh
import Derived.Test.YtjefblkdnolgaaaGreatDoorRows
import Derived.JoinedCond
import Derived.ProofKit
import Derived.OpenShut
import Derived.Carry
import Derived.DataReads
import Derived.ChangeAnyMap
import Derived.KernelRfl
set_option maxHeartbeats 4000000
namespace Go.PL
open Go Go.RowKit
open Go.Proofs.YtjefblkdnolgaaaGreatDoor.Rows (uptoBulk uptoBulkAll)
variable {X:Type} {fuel:Nat} {ps:List MemPlace} {t:TypeId} {v:Value}
def RdL(F:Nat->Prop)(W:World)(l:List T)(cs:List Value):Prop:=cs.length=l.length/\∀ (j:Nat) x v,l[j]? = some x->cs[j]? = some v->Rd F W x v
theorem RdL.append{F:Nat->Prop}{W:World}{l G:List T}{cs D:List Value}(h:RdL F W l cs)(M:RdL F W G D):RdL F W (l++G) (cs++D):=by
 refine⟨by simp[h.1,M.1],fun j x v hx hv=>?_⟩;by_cases J:j<l.length
 ·rw[pO J]at hx;rw[pO (by rw[h.1]; exact J)]at hv;exact h.2 j x v hx hv
 ·rw[nD (by omega)]at hx;rw[nD (by rw[h.1]; omega),h.1]at hv;exact M.2 _ x v hx hv
def eZ(n:Int):Prop:=-9223372036854775808<=n/\n<=9223372036854775807
section
variable {H:Type} {enc:TypeId×Value->H} {P:Program} {W:World}
def fH(enc:TypeId×Value->H)(P:Program)(W:World)(t:TypeId)(c:X->List T)(ok:X->Prop)(fuel:Nat):Prop:=
 ∀ cs d ps,DataW.trod enc P W 0 (fun _=>true) true fuel t cs=some (d,ps)->uptoBulk d<=1048576->∃ x,RdL (fun b=>b<W.heap.size) W (c x) cs/\ok x
theorem cV{c:X->List T}{ok:X->Prop}:fH enc P W t c ok 0:=fun cs d ps h=>by simp[DataW.trod]at h
theorem RdL.one{F:Nat->Prop}{W:World}{x:T}(h:Rd F W x v):RdL F W [x] [v]:=by
 refine⟨rfl,fun j y u hy D=>?_⟩;cases j with
 | zero=>simp at hy D; subst hy; subst D; exact h
 | succ j=>simp at hy
theorem dG(J:P.underlying t=some (.int .i64))(fuel:Nat):fH enc P W t bI eZ fuel:=by
 cases fuel with
 | zero=>exact cV
 | succ fuel=>
  intro cs d ps h _;unfold DataW.trod at h;rw[J]at h;split at h <;> try (simp_all; done)
  rename_i k M n hk;split at h
  ·rename_i G;cases hk;obtain⟨rfl,D⟩:=G;refine⟨n,RdL.one (.int _ _),?_⟩;simp[Lit.wf,IntKind.min,IntKind.max,IntKind.signed,IntKind.bits]at D;exact⟨by omega,by omega⟩
  ·cases h
def vO(s:ByteArray):Prop:=s.size<=1048576
theorem gL(G:P.underlying t=some .string)(fuel:Nat):fH enc P W t Jl vO fuel:=by
 cases fuel with
 | zero=>exact cV
 | succ fuel=>
  intro cs d ps h D;unfold DataW.trod at h;rw[G]at h;split at h <;> try (simp_all; done)
  rename_i s hk;split at h
  ·cases h;refine⟨s,RdL.one (.str _),?_⟩;have:s.data.toList.length+1<=1048576:=D;have:s.size=s.data.toList.length:=rfl;unfold vO;omega
  ·cases h
theorem yR{α β:Type}{f:α->Option β}:∀ {l:List α} {r:List β},l.mapM f=some r->r.length=l.length/\∀ (i:Nat) a b,l[i]? = some a->r[i]? = some b->f a=some b
 | [],r,h=>by simp at h; subst h; simp
 | x::l,r,h=>by
  rw[List.mapM_cons]at h;simp only[Option.bind_eq_bind,Pi]at h;obtain⟨y,hy,ys,hys,hr⟩:=h;simp at hr; subst hr;obtain⟨h1,h2⟩:=yR hys;refine⟨by simp[h1],fun i a b ha hb=>?_⟩;cases i with
  | zero=>simp at ha hb; subst ha; subst hb; exact hy
  | succ i=>exact h2 i a b (by simpa using ha) (by simpa using hb)
theorem Nr:∀ d:DataW H,1<=uptoBulk d
 | .lit l=>by unfold uptoBulk; split <;> omega
 | .nil=>by simp[uptoBulk]
 | .ptr d=>by simp[uptoBulk]
 | .slice e s=>by simp[uptoBulk]
 | .agg p=>by simp[uptoBulk]
 | .iface t d=>by simp[uptoBulk]
 | .map e=>by simp[uptoBulk]
 | .held h=>by simp[uptoBulk]
theorem Co:∀ l:List (DataW H),l.length<=uptoBulkAll l
 | []=>by simp
 | d::l=>by simp only[uptoBulkAll,fX]; have:=Nr d; have:=Co l; omega
theorem Bx:∀ {l:List (DataW H)} {d:DataW H},d∈l->uptoBulk d<=uptoBulkAll l
 | x::l,d,h=>by
  simp only[uptoBulkAll];rcases bE.1 h with rfl | h
  ·omega
  ·have:=Bx h; omega
def okL(_b:Nat)(ok:X->Prop)(xs:List X):Prop:=xs.length<=1048576/\∀ x,x∈xs->ok x
theorem fP{t e b:Nat}(ht:P.underlying t=some (.slice e))(hn:Nat.blt 0 (P.cellsOf e)=true)(hb:P.bytesOf e=b){X:Type}[Inhabited X]{c:X->List T}{ok:X->Prop}{fuel:Nat}(he:fH enc P W e c ok fuel)(mk:List X->T)
  (hmk:∀ xs,(mk xs).view=some (xs.length,fun i=>c (xs.getD i default))):fH enc P W t (fun xs=>[mk xs]) (okL b ok) (fuel+1):=by
 have hz:0<P.cellsOf e:=by simpa[Nat.blt_eq] using hn
 clear hn;subst hb;intro cs d ps h hw;unfold DataW.trod at h;rw[ht]at h;split at h <;> try (simp_all; done)
 ·
  rename_i hk;cases hk;refine⟨[],RdL.one (.nil (hmk [])),by simp,by simp⟩
 ·rename_i e' a len cap hk;cases hk;simp only at h;split at h
  ·rename_i Q;simp only[Pi,kC]at h;obtain⟨D,hel,rest,hrest,hd⟩:=h;simp only[gE]at hd;obtain⟨rfl,rfl⟩:=hd;obtain⟨J,M⟩:=yR hel;simp only[List.length_range]at J;have hwt:uptoBulkAll (D.map (·.1))<=1048576:=by have hw2:uptoBulkAll (D.map (·.1))+uptoBulkAll (rest.map (·.1))+1<=1048576:=hw;omega
   have hl:len<=1048576:=by have:=Co (D.map (·.1));simp only[dH,J]at this;omega
   have Z:∀ i,i<len->∃ x vs,W.cells? 0 (a.add (i*P.cellsOf e)) (P.cellsOf e)=some vs/\RdL (fun b=>b<W.heap.size) W (c x) vs/\ok x:=by
    intro i hi;have hi':i<D.length:=by omega
    have:=M i i D[i] (by simp[hi]) (by simp[hi']);simp only[Pi]at this;obtain⟨vs,hvs,htr⟩:=this;obtain⟨x,h1,h2⟩:=he vs D[i].1 D[i].2 htr (fW (Bx (Jo (Ri hi'))) hwt);exact⟨x,vs,hvs,h1,h2⟩
   have all:∃ xs:List X,xs.length=len/\∀ i,i<len->∃ vs,W.cells? 0 (a.add (i*P.cellsOf e)) (P.cellsOf e)=some vs/\RdL (fun b=>b<W.heap.size) W (c (xs.getD i default)) vs/\ok (xs.getD i default):=by
    clear hel hrest M hw hwt hl J Q
    induction len with
    | zero=>exact⟨[],rfl,fun i hi=>absurd hi (mX _)⟩
    | succ len ih=>
     obtain⟨xs,h1,h2⟩:=ih fun i hi=>Z i (by omega);obtain⟨x,vs,h3,h4,h5⟩:=Z len (by omega);refine⟨xs++[x],by simp[h1],fun i hi=>?_⟩;by_cases hil:i<len
     ·have:(xs++[x]).getD i default=xs.getD i default:=by simp[pO (show i<xs.length by omega)]
      rw[this]; exact h2 i hil
     ·have hil:i=len:=by omega
      subst hil;have:(xs++[x]).getD i default=x:=by simp[<-h1]
      rw[this]; exact⟨vs,h3,h4,h5⟩
   obtain⟨xs,hxl,hxs⟩:=all;refine⟨xs,RdL.one ?_,by rw[hxl]; exact hl,fun x hx=>?_⟩
   ·have hsz:∀ i,i<len->(c (xs.getD i default)).length=P.cellsOf e:=by intro i hi;obtain⟨vs,h1,h2,_⟩:=hxs i hi;rw[<-h2.1];unfold World.cells? at h1;rw[aA (yM _)]at h1;have:=(yR h1).1; simpa using this
    have G:∀ i j,i<len->j<P.cellsOf e->∃ u,W.cell? (a.add (i*P.cellsOf e+j))=some u/\∀ x,(c (xs.getD i default))[j]? = some x->Rd (fun b=>b<W.heap.size) W x u:=by intro i j hi hj;obtain⟨vs,h1,h2,_⟩:=hxs i hi;unfold World.cells? at h1;rw[aA (yM _)]at h1;obtain⟨h3,h4⟩:=yR h1;simp only[List.length_range]at h3;have:=h4 j j vs[j] (by simp[hj]) (by simp[h3,hj]);rw[Addr.add_add]at this;exact⟨vs[j],this,fun x hx=>h2.2 j x vs[j] hx (by simp[h3,hj])⟩
    let vsf:Nat->Nat->Value:=fun i j=>(W.cell? (a.add (i*P.cellsOf e+j))).getD undef;refine .sl a cap (P.cellsOf e) vsf (n:=len) (f:=fun i=>c (xs.getD i default)) (by rw[hmk,hxl]) Q.2.1 (fun hn=>?_) hsz (fun i j hi hj=>?_) (fun i j x hi hx=>?_)
    ·obtain⟨u,hu,_⟩:=G 0 0 hn hz;have hb:=World.block_lt_of_cell? W _ hu;have:(a.add (0*P.cellsOf e+0)).block=a.block:=by unfold Addr.add; split <;> rfl
     rw[this]at hb;exact hb
    ·obtain⟨u,hu,_⟩:=G i j hi hj;simp[vsf,hu]
    ·have hj:j<P.cellsOf e:=by rw[<-hsz i hi]; exact(Ir.1 hx).1
     obtain⟨u,hu,hr⟩:=G i j hi hj;simp only[vsf,hu,sH];exact hr x hx
   ·obtain⟨i,hi,rfl⟩:=Oa hx;obtain⟨_,_,_,h⟩:=hxs i (by omega);simpa[dV,hi] using h
  ·cases h
def Mr(enc:TypeId×Value->H)(P:Program)(W:World)(off:Nat)(fs:List Field)(c:X->List T)(ok:X->Prop)(fuel:Nat):Prop:=
 ∀ (cs:List Value) xs,fs.mapM (fun f=>DataW.trod enc P W 0 (fun _=>true) true fuel f.type ((cs.drop f.offset).take (P.cellsOf f.type)))=some xs ->
  uptoBulkAll (xs.map (·.1))<=1048576->cs.length=off+(fs.map fun f=>P.cellsOf f.type).sum->∃ x,RdL (fun b=>b<W.heap.size) W (c x) (cs.drop off)/\ok x
theorem iG{off:Nat}:Mr enc P W off [] (fun (_:Unit)=>[]) (fun _=>True) fuel:=by intro cs xs _ _ hl;simp at hl;exact⟨(),⟨by simp[hl],by simp⟩,trivial⟩
theorem bD{off:Nat}{f:Field}{fs:List Field}{Y:Type}{c:X->List T}{J:Y->List T}{ok:X->Prop}{D:Y->Prop}(ho:f.offset=off)(h:fH enc P W f.type c ok fuel)
  (Z:Mr enc P W (off+P.cellsOf f.type) fs J D fuel):Mr enc P W off (f::fs) (fun (x:X×Y)=>c x.1++J x.2) (fun x=>ok x.1/\D x.2) fuel:=by
 intro cs xs hx Q hl;rw[List.mapM_cons]at hx;simp only[Option.bind_eq_bind,Pi]at hx;obtain⟨y,hy,ys,G,hr⟩:=hx;simp at hr; subst hr;simp only[fY,uptoBulkAll]at Q;obtain⟨x,h1,h2⟩:=h _ _ _ hy (by omega);simp only[fY,List.sum_cons]at hl;obtain⟨M,h3,h4⟩:=Z cs ys G (by omega) (by omega);refine⟨(x,M),?_,h2,h4⟩;have:cs.drop off=(cs.drop f.offset).take (P.cellsOf f.type)++cs.drop (off+P.cellsOf f.type):=by rw[ho,<-wG,gV]
 rw[this];exact h1.append h3
theorem fR{fs:Array Field}(M:P.underlying t=some (.struct fs)){c:X->List T}{ok:X->Prop}(h:Mr enc P W 0 fs.toList c ok fuel)
  (hs:P.cellsOf t=(fs.toList.map fun f=>P.cellsOf f.type).sum):fH enc P W t c ok (fuel+1):=by
 intro cs d ps D J;unfold DataW.trod at D;rw[M]at D;split at D <;> try (simp_all; done)
 rename_i cs0 _ _ Z hk;cases hk;split at D
 ·rename_i hl;simp only[kC]at D;obtain⟨xs,G,D⟩:=D;simp only[gE]at D;obtain⟨rfl,_⟩:=D;have Q:uptoBulkAll (xs.map (·.1))+1<=1048576:=J;have:=h _ xs G (by omega) (by rw[hl,hs]; simp);simpa using this
 ·cases D
theorem fH.map{Y:Type}{c:X->List T}{ok:X->Prop}{G:Y->List T}{D:Y->Prop}(h:fH enc P W t c ok fuel)(g:X->Y)(hc:∀ x,G (g x)=c x)(ho:∀ x,ok x->D (g x)):
  fH enc P W t G D fuel:=by
 intro cs d ps M J;obtain⟨x,h1,h2⟩:=h cs d ps M J;exact⟨g x,by rw[hc]; exact h1,ho x h2⟩
end
theorem RdL.agg{F:Nat->Prop}{W:World}{l:List T}{v:Value}(h:RdL F W l v.cells.toList)(hv:∃ vs,v = .agg vs):Rd F W (.agg l) v:=by obtain⟨vs,rfl⟩:=hv;simp only[Value.cells]at h;exact .agg (by simpa using h.1) fun j x v hx hv=>h.2 j x v hx (by simpa using hv)
section
variable {H:Type} {enc:TypeId×Value->H} {P:Program} {W:World} {r:Reach} {base:Nat}
theorem Uz{fs:Array Field}(G:P.underlying t=some (.struct fs)){c:X->List T}{ok:X->Prop}(J:∀ fuel,fH enc P W t c ok fuel){d:DataW H} 
  (hv:Value.okWide P W r base t v)(h:DataW.Trod enc P W 0 (fun _=>true) true t v d ps)(D:uptoBulk d<=1048576):∃ x,Rd (fun b=>b<W.heap.size) W (.agg (c x)) v/\ok x:=by
 obtain⟨cs,rfl,_⟩:=Go.WideShapes.okWide_struct G hv;obtain⟨fuel,hf⟩:=h;obtain⟨x,h1,h2⟩:=J fuel _ _ _ hf D;exact⟨x,h1.agg ⟨cs,rfl⟩,h2⟩
theorem aPK{c:X->T}{ok:X->Prop}(G:∀ fuel,fH enc P W t (fun x=>[c x]) ok fuel){d:DataW H} 
  (hv:v.cells=#[v])(h:DataW.Trod enc P W 0 (fun _=>true) true t v d ps)(D:uptoBulk d<=1048576):∃ x,Rd (fun b=>b<W.heap.size) W (c x) v/\ok x:=by
 obtain⟨fuel,hf⟩:=h;obtain⟨x,h1,h2⟩:=G fuel _ _ _ hf D;exact⟨x,h1.2 0 _ _ (by simp) (by simp[hv]),h2⟩
theorem tZ{e:TypeId}(G:P.underlying t=some (.slice e)){c:X->T}{ok:X->Prop}(J:∀ fuel,fH enc P W t (fun x=>[c x]) ok fuel){d:DataW H} 
  (hv:Value.okWide P W r base t v)(h:DataW.Trod enc P W 0 (fun _=>true) true t v d ps)(D:uptoBulk d<=1048576):∃ x,Rd (fun b=>b<W.heap.size) W (c x) v/\ok x:=by
 obtain⟨a,l,q,rfl⟩:=Go.WideShapes.okWide_slice G hv;exact aPK J rfl h D
end
theorem Jm{W G:World}(h:Below W.heap.size W G)(D:MemPlace->Prop):W.keptBut G D:=by
 refine⟨h.os,h.output,fun i hi=>?_⟩;rw[h.block i hi];cases W.heap[i]? with
 | none=>trivial
 | some o=>cases o <;> simp
section
variable {H:Type} {enc:TypeId×Value->H} {P:Program}
theorem vH(hl:laidOutB P=true){W W':World}(hb:Below W.heap.size W W'):∀ {ts:List TypeId} {vs:List Value} {ds:List (DataW H)} {ps:List MemPlace},
  (∀ t,t∈ts->P.readableRec t=true/\t<P.types.size)->DataW.TrodAll enc P W 0 (fun _=>true) true ts vs ds ps->(∀ x,x∈ps->x.block<W.heap.size) ->
  DataW.TrodAll enc P W' 0 (fun b=>decide (b<W.heap.size)) true ts vs ds ps
 | [],[],[],ps,_,h,_=>h
 | t::ts,v::vs,d::ds,ps,hr,h,hp=>by obtain⟨p,q,h1,h2,rfl⟩:=h;obtain⟨r1,r2⟩:=hr t (by simp);exact⟨p,q,Go.RowKit.Below.trod hl r1 r2 h1 hb (fun x hx=>hp x (Uk _ hx)),vH hl hb (fun t ht=>hr t (cO _ ht)) h2 (fun x hx=>hp x (sT _ hx)),rfl⟩
 | [],_::_,_,_,_,h,_=>by simp[DataW.TrodAll]at h
 | [],[],_::_,_,_,h,_=>by simp[DataW.TrodAll]at h
 | _::_,[],_,_,_,h,_=>by simp[DataW.TrodAll]at h
 | _::_,_::_,[],_,_,h,_=>by simp[DataW.TrodAll]at h
theorem aLV(hlay:laidOutB P=true){f:Func}{s:ChangeSpec}{W W':World}{args:Array Value}{ds gs:List (DataW H)}{G:List MemPlace}{tb:TypeId}(D:s.vars=[])
  (hW:DataW.Whole enc P f.params.toList s.vars false W args.toList ds gs G)(hb:Below W.heap.size W W')(Z:f.resultTypes=#[tb])(htb:P.underlying tb=some .bool)
  (M:∀ t,t∈f.params.toList->P.readableRec t=true/\t<P.types.size)(J:s.fn H (ds++gs)={ results:=[.lit (.bool true)],args:=ds }):
  s.post enc P f false true false false W args (.bool true) W':=by
 have Q:=hW;obtain⟨p,q,hA,hV,rfl,_⟩:=hW;rw[D]at hV;cases gs with
 | cons g gs=>simp[DataW.TrodVars]at hV
 | nil=>
  simp only[DataW.TrodVars]at hV;subst hV;have hlt:∀ x,x∈p->x.block<W.heap.size:=fun x hx=>by simpa using Q.lt x (by simp[hx])
  refine⟨ds,[],p++[],[],p,[],Q,?_,?_,?_,Jm hb _,fun h=>by cases h⟩
  ·rw[J,Z];exact⟨[],[],⟨1,by simp[DataW.trod,htb,Value.cells]⟩,rfl,rfl⟩
  ·rw[J];exact vH hlay hb M hA hlt
  ·rw[D,J]; exact rfl
theorem gX.law{P:Program}{k:FuncId}{args:List PV}(h:gX P k args [] [] (Ret (.t (.bool true)))){W:World}{vs:Array Value}(hs:vs.size=args.length)
  (hv:∀ (j:Nat) x v,args[j]? = some x->vs[j]? = some v->VR (fun b=>b<W.heap.size) (fun _=>undef) W x v)(hg:GLP P (fun b=>b<W.heap.size) W):
  Calls P k vs W fun e W'=>e = .returned (.bool true)/\Below W.heap.size W W':=by
 refine(h (fun b=>b<W.heap.size) (fun _=>undef) W vs hs hv ⟨by simp,by simp,by simp⟩ (fun _ h=>h) hg).mono ?_;rintro e J ⟨v,r,Q,Z,M,rfl,hr,G,D⟩;unfold Ret at hr;subst hr;have:=G.inv_bool;subst this;exact⟨rfl,⟨D.ext.os,D.ext.tape,D.ext.output,D.ext.size,fun b hb=>D.ext.block b hb (by rintro⟨o,x,hx,_⟩; simp at hx)⟩⟩
end
set_option maxRecDepth 20000
theorem o23{H:Type}{enc:TypeId×Value->H}{W:World}(fuel:Nat):fH enc Proofs.Tryz.prog W 23 (fun xs=>[eL bI (xs)]) (okL 8 eZ) fuel:=by
 cases fuel with
 | zero=>exact cV
 | succ fuel=>exact fP Proofs.Tryz.underlying23 (by kernel_rfl) (by kernel_rfl) (dG Proofs.Tryz.underlying3 fuel) (fun xs=>eL bI (xs)) (fun _=>rfl)
inductive dE:bF->Prop
 | mk0 {a b:Int} {s:ByteArray} {l:List bF} (ha:eZ a) (hb:eZ b) (hs:vO s) (hn:l.length<=1048576) (hl:∀ x,x∈l->dE x):dE (.mk a b s l)
theorem dE.mk{a b:Int}{s:ByteArray}{l:List bF}(ha:eZ a)(hb:eZ b)(hs:vO s)(hl:okL 56 dE l):dE (.mk a b s l):=.mk0 ha hb hs hl.1 hl.2
theorem Yq{H:Type}{enc:TypeId×Value->H}{W:World}:∀ fuel,fH enc Proofs.Tryz.prog W 90 cT dE fuel/\fH enc Proofs.Tryz.prog W 24 (fun xs=>[.lz (.exprs xs)]) (okL 56 dE) fuel
 | 0=>⟨cV,cV⟩
 | fuel+1=>by have ih:=Yq (enc:=enc) (W:=W) fuel;exact⟨(fR Proofs.Tryz.underlying90 (bD (by kernel_rfl) (dG Proofs.Tryz.underlying3 fuel) (bD (by kernel_rfl) (dG Proofs.Tryz.underlying3 fuel) (bD (by kernel_rfl) (gL Proofs.Tryz.underlying9 fuel) (bD (by kernel_rfl) ih.2 iG)))) (by kernel_rfl)).map (fun x=>bF.mk x.1 x.2.1 x.2.2.1 x.2.2.2.1) (fun _=>rfl) (fun x h=>.mk h.1 h.2.1 h.2.2.1 h.2.2.2.1),fP Proofs.Tryz.underlying24 (by kernel_rfl) (by kernel_rfl) ih.1 (fun xs=>.lz (.exprs xs)) (fun _=>rfl)⟩
def Xd(x:gO):Prop:=eZ x.Kind/\eZ x.Col/\vO x.Name
theorem bFZ{H:Type}{enc:TypeId×Value->H}{W:World}(fuel:Nat):fH enc Proofs.Tryz.prog W 122 gU Xd fuel:=by
 cases fuel with
 | zero=>exact cV
 | succ fuel=>exact(fR Proofs.Tryz.underlying122 (bD (by kernel_rfl) (dG Proofs.Tryz.underlying3 fuel) (bD (by kernel_rfl) (dG Proofs.Tryz.underlying3 fuel) (bD (by kernel_rfl) (gL Proofs.Tryz.underlying9 fuel) iG))) (by kernel_rfl)).map (fun x=>gO.mk x.1 x.2.1 x.2.2.1) (fun _=>rfl) (fun x h=>⟨h.1,h.2.1,h.2.2.1⟩)
theorem o25{H:Type}{enc:TypeId×Value->H}{W:World}(fuel:Nat):fH enc Proofs.Tryz.prog W 25 (fun xs=>[eL gU (xs)]) (okL 32 Xd) fuel:=by
 cases fuel with
 | zero=>exact cV
 | succ fuel=>exact fP Proofs.Tryz.underlying25 (by kernel_rfl) (by kernel_rfl) (bFZ fuel) (fun xs=>eL gU (xs)) (fun _=>rfl)
def Wx(x:oH):Prop:=dE x.Pred/\eZ x.Rep
theorem o93{H:Type}{enc:TypeId×Value->H}{W:World}(fuel:Nat):fH enc Proofs.Tryz.prog W 93 lW Wx fuel:=by
 cases fuel with
 | zero=>exact cV
 | succ fuel=>exact(fR Proofs.Tryz.underlying93 (bD (by kernel_rfl) (Yq fuel).1 (bD (by kernel_rfl) (dG Proofs.Tryz.underlying3 fuel) iG)) (by kernel_rfl)).map (fun x=>oH.mk x.1 x.2.1) (fun _=>rfl) (fun x h=>⟨h.1,h.2.1⟩)
theorem o26{H:Type}{enc:TypeId×Value->H}{W:World}(fuel:Nat):fH enc Proofs.Tryz.prog W 26 (fun xs=>[eL lW (xs)]) (okL 64 Wx) fuel:=by
 cases fuel with
 | zero=>exact cV
 | succ fuel=>exact fP Proofs.Tryz.underlying26 (by kernel_rfl) (by kernel_rfl) (o93 fuel) (fun xs=>eL lW (xs)) (fun _=>rfl)
def Vi(x:Jb):Prop:=vO x.Name/\eZ x.Type_/\vO x.Unit
theorem bGA{H:Type}{enc:TypeId×Value->H}{W:World}(fuel:Nat):fH enc Proofs.Tryz.prog W 354 Zn Vi fuel:=by
 cases fuel with
 | zero=>exact cV
 | succ fuel=>exact(fR Proofs.Tryz.underlying354 (bD (by kernel_rfl) (gL Proofs.Tryz.underlying9 fuel) (bD (by kernel_rfl) (dG Proofs.Tryz.underlying3 fuel) (bD (by kernel_rfl) (gL Proofs.Tryz.underlying9 fuel) iG))) (by kernel_rfl)).map (fun x=>Jb.mk x.1 x.2.1 x.2.2.1) (fun _=>rfl) (fun x h=>⟨h.1,h.2.1,h.2.2.1⟩)
theorem o27{H:Type}{enc:TypeId×Value->H}{W:World}(fuel:Nat):fH enc Proofs.Tryz.prog W 27 (fun xs=>[eL Zn (xs)]) (okL 40 Vi) fuel:=by
 cases fuel with
 | zero=>exact cV
 | succ fuel=>exact fP Proofs.Tryz.underlying27 (by kernel_rfl) (by kernel_rfl) (bGA fuel) (fun xs=>eL Zn (xs)) (fun _=>rfl)
def iO(x:aG):Prop:=eZ x.Op/\okL 8 eZ x.In/\vO x.Source/\eZ x.Schema/\okL 56 dE x.Exprs/\eZ x.Kind/\eZ x.Size/\eZ x.Step/\okL 8 eZ x.Key/\okL 8 eZ x.Key2/\eZ x.Before/\eZ x.After/\eZ x.Keep/\okL 32 Xd x.Aggs/\okL 64 Wx x.Seq/\okL 40 Vi x.Cols
theorem o29{H:Type}{enc:TypeId×Value->H}{W:World}(fuel:Nat):fH enc Proofs.Tryz.prog W 29 Of iO fuel:=by
 cases fuel with
 | zero=>exact cV
 | succ fuel=>exact(fR Proofs.Tryz.underlying29 (bD (by kernel_rfl) (dG Proofs.Tryz.underlying3 fuel) (bD (by kernel_rfl) (o23 fuel) (bD (by kernel_rfl) (gL Proofs.Tryz.underlying9 fuel) (bD (by kernel_rfl) (dG Proofs.Tryz.underlying3 fuel) (bD (by kernel_rfl) (Yq fuel).2 (bD (by kernel_rfl) (dG Proofs.Tryz.underlying3 fuel) (bD (by kernel_rfl) (dG Proofs.Tryz.underlying3 fuel) (bD (by kernel_rfl) (dG Proofs.Tryz.underlying3 fuel) (bD (by kernel_rfl) (o23 fuel) (bD (by kernel_rfl) (o23 fuel) (bD (by kernel_rfl) (dG Proofs.Tryz.underlying3 fuel) (bD (by kernel_rfl) (dG Proofs.Tryz.underlying3 fuel) (bD (by kernel_rfl) (dG Proofs.Tryz.underlying3 fuel) (bD (by kernel_rfl) (o25 fuel) (bD (by kernel_rfl) (o26 fuel) (bD (by kernel_rfl) (o27 fuel) iG)))))))))))))))) (by kernel_rfl)).map (fun x=>aG.mk x.1 x.2.1 x.2.2.1 x.2.2.2.1 x.2.2.2.2.1 x.2.2.2.2.2.1 x.2.2.2.2.2.2.1 x.2.2.2.2.2.2.2.1 x.2.2.2.2.2.2.2.2.1 x.2.2.2.2.2.2.2.2.2.1 x.2.2.2.2.2.2.2.2.2.2.1 x.2.2.2.2.2.2.2.2.2.2.2.1 x.2.2.2.2.2.2.2.2.2.2.2.2.1 x.2.2.2.2.2.2.2.2.2.2.2.2.2.1 x.2.2.2.2.2.2.2.2.2.2.2.2.2.2.1 x.2.2.2.2.2.2.2.2.2.2.2.2.2.2.2.1) (fun _=>rfl) (fun x h=>⟨h.1,h.2.1,h.2.2.1,h.2.2.2.1,h.2.2.2.2.1,h.2.2.2.2.2.1,h.2.2.2.2.2.2.1,h.2.2.2.2.2.2.2.1,h.2.2.2.2.2.2.2.2.1,h.2.2.2.2.2.2.2.2.2.1,h.2.2.2.2.2.2.2.2.2.2.1,h.2.2.2.2.2.2.2.2.2.2.2.1,h.2.2.2.2.2.2.2.2.2.2.2.2.1,h.2.2.2.2.2.2.2.2.2.2.2.2.2.1,h.2.2.2.2.2.2.2.2.2.2.2.2.2.2.1,h.2.2.2.2.2.2.2.2.2.2.2.2.2.2.2.1⟩)
theorem o55{H:Type}{enc:TypeId×Value->H}{W:World}(fuel:Nat):fH enc Proofs.Tryz.prog W 55 (fun xs=>[eL nW (xs)]) (okL 24 (okL 8 eZ)) fuel:=by
 cases fuel with
 | zero=>exact cV
 | succ fuel=>exact fP Proofs.Tryz.underlying55 (by kernel_rfl) (by kernel_rfl) (o23 fuel) (fun xs=>eL nW (xs)) (fun _=>rfl)
def yK(x:aE):Prop:=eZ x.Kind/\eZ x.N/\vO x.S
theorem o67{H:Type}{enc:TypeId×Value->H}{W:World}(fuel:Nat):fH enc Proofs.Tryz.prog W 67 aR yK fuel:=by
 cases fuel with
 | zero=>exact cV
 | succ fuel=>exact(fR Proofs.Tryz.underlying67 (bD (by kernel_rfl) (dG Proofs.Tryz.underlying3 fuel) (bD (by kernel_rfl) (dG Proofs.Tryz.underlying3 fuel) (bD (by kernel_rfl) (gL Proofs.Tryz.underlying9 fuel) iG))) (by kernel_rfl)).map (fun x=>aE.mk x.1 x.2.1 x.2.2.1) (fun _=>rfl) (fun x h=>⟨h.1,h.2.1,h.2.2.1⟩)
theorem o48{H:Type}{enc:TypeId×Value->H}{W:World}(fuel:Nat):fH enc Proofs.Tryz.prog W 48 (fun xs=>[eL aR (xs)]) (okL 32 yK) fuel:=by
 cases fuel with
 | zero=>exact cV
 | succ fuel=>exact fP Proofs.Tryz.underlying48 (by kernel_rfl) (by kernel_rfl) (o67 fuel) (fun xs=>eL aR (xs)) (fun _=>rfl)
def dX(x:aB):Prop:=eZ x.Time/\okL 32 yK x.Row/\eZ x.N
theorem o50{H:Type}{enc:TypeId×Value->H}{W:World}(fuel:Nat):fH enc Proofs.Tryz.prog W 50 aH dX fuel:=by
 cases fuel with
 | zero=>exact cV
 | succ fuel=>exact(fR Proofs.Tryz.underlying50 (bD (by kernel_rfl) (dG Proofs.Tryz.underlying3 fuel) (bD (by kernel_rfl) (o48 fuel) (bD (by kernel_rfl) (dG Proofs.Tryz.underlying3 fuel) iG))) (by kernel_rfl)).map (fun x=>aB.mk x.1 x.2.1 x.2.2.1) (fun _=>rfl) (fun x h=>⟨h.1,h.2.1,h.2.2.1⟩)
theorem o37{H:Type}{enc:TypeId×Value->H}{W:World}(fuel:Nat):fH enc Proofs.Tryz.prog W 37 (fun xs=>[eL aH (xs)]) (okL 40 dX) fuel:=by
 cases fuel with
 | zero=>exact cV
 | succ fuel=>exact fP Proofs.Tryz.underlying37 (by kernel_rfl) (by kernel_rfl) (o50 fuel) (fun xs=>eL aH (xs)) (fun _=>rfl)
def dK(x:aS):Prop:=vO x.Name/\okL 8 eZ x.Params/\eZ x.Result/\dE x.Body
theorem bGE{H:Type}{enc:TypeId×Value->H}{W:World}(fuel:Nat):fH enc Proofs.Tryz.prog W 150 aW dK fuel:=by
 cases fuel with
 | zero=>exact cV
 | succ fuel=>exact(fR Proofs.Tryz.underlying150 (bD (by kernel_rfl) (gL Proofs.Tryz.underlying9 fuel) (bD (by kernel_rfl) (o23 fuel) (bD (by kernel_rfl) (dG Proofs.Tryz.underlying3 fuel) (bD (by kernel_rfl) (Yq fuel).1 iG)))) (by kernel_rfl)).map (fun x=>aS.mk x.1 x.2.1 x.2.2.1 x.2.2.2.1) (fun _=>rfl) (fun x h=>⟨h.1,h.2.1,h.2.2.1,h.2.2.2.1⟩)
theorem o22{H:Type}{enc:TypeId×Value->H}{W:World}(fuel:Nat):fH enc Proofs.Tryz.prog W 22 (fun xs=>[eL aW (xs)]) (okL 104 dK) fuel:=by
 cases fuel with
 | zero=>exact cV
 | succ fuel=>exact fP Proofs.Tryz.underlying22 (by kernel_rfl) (by kernel_rfl) (bGE fuel) (fun xs=>eL aW (xs)) (fun _=>rfl)
end Go.PL
namespace Go.PL
open Go
set_option linter.unusedVariables false
set_option maxRecDepth 20000
variable {S:Nat->Prop} {T X Y l o:List aB} {a j k:Nat} {cs:List Int} {e:bF} {fs:List aS} {n:aG} {s t:Int} {x y:aB}
theorem dB{S R:Type}{b:Bool}{bd:S->Option (S⊕R)}(D:S->Int)(N:Nat)(hN:N<=1000000000000000)(I:S->Prop){Q:R->Prop}
  (h:∀ s (k:Nat),I s->D s=k->k<=N->Sq b (bd s) (sel (fun s'=>D s'=IntKind.i64.wrap ((k:Int)+1)/\k<N/\I s') Q)){s:S}(hs:I s)(h0:D s=0):Sq b (bW bd s) Q:=by
 refine Sq.while (fun s=>I s/\∃ k:Nat,D s=k/\k<=N) (fun s=>N-(D s).toNat) (fun s hs=>?_) ⟨hs,0,h0,by omega⟩;obtain⟨hI,k,hk,G⟩:=hs;refine(h s k hI hk G).imp fun z M=>?_;cases z with
 | inr r=>exact M
 | inl s'=>obtain⟨J,q2,Z⟩:=M;rw[aK]at J;exact⟨⟨Z,k+1,J,by omega⟩,by omega⟩
theorem dE.len(h:dE e):e.Args.length<=1048576:=by cases h; assumption
theorem dE.arg(h:dE e):∀ x,x∈e.Args->dE x:=by cases h; assumption
theorem wM{x:bF}(h:x∈e.Args):SizeOf.sizeOf x<SizeOf.sizeOf e:=by
 cases e with
 | mk a b s l=>have:=List.sizeOf_lt_of_mem h;simp only[bF.Args]at this;grind
theorem Xc(e:bF)(h:dE e):Sp (G79 e) (fun _=>True):=by
 refine lX (C:=fun (a:bF) (x:Option Int)=>Con Proofs.Tryz.prog 129 [.t (cJ a)] x (fun (y:Int)=>.t (.int .i64 (y)))) (fun a=>⟨bM Proofs.Tryz.func129 (by rfl),fun _ h=>nomatch h⟩) (fun D a=>T79 D a) (fun D a=>aMH D a)
  dE (fun e=>SizeOf.sizeOf e) (fun _ _=>True) (fun b f e he G=>?_) true e h
 have hl:=he.len;unfold T79;simp only[Tr.den,bR];refine dB (fun s:Int×Int=>s.2) e.Args.length (by omega) (fun _=>True) (fun s k _ hk J=>?_) trivial rfl;obtain⟨v1,v2⟩:=s;simp only at hk;subst hk;unfold aKE;simp only[Tr.den,aL];by_cases hc:k<e.Args.length
 ·rw[aA bL,aA];refine Sq.bind _ (G _ (he.arg _ (aM hc)) (wM (aM hc))) fun r _=>aC.2 ⟨rfl,hc,trivial⟩
 ·rw[aF bQ];exact aC.2 (aC.2 trivial)
theorem aKQ(e:bF)(h:dE e):Sp (G80 e) (fun _=>True):=by
 refine lX (C:=fun (a:bF) (x:Option Int)=>Con Proofs.Tryz.prog 130 [.t (cJ a)] x (fun (y:Int)=>.t (.int .i64 (y)))) (fun a=>⟨bM Proofs.Tryz.func130 (by rfl),fun _ h=>nomatch h⟩) (fun D a=>T80 D a) (fun D a=>Xj D a)
  dE (fun e=>SizeOf.sizeOf e) (fun _ _=>True) (fun b f e he G=>?_) true e h
 have hl:=he.len;unfold T80;simp only[Tr.den,bR];refine dB (fun s:Int×Int=>s.2) e.Args.length (by omega) (fun _=>True) (fun s k _ hk J=>?_) trivial rfl;obtain⟨v1,v2⟩:=s;simp only at hk;subst hk;unfold Vn;simp only[Tr.den,aL];by_cases hc:k<e.Args.length
 ·rw[aA bL,aA];refine Sq.bind _ (G _ (he.arg _ (aM hc)) (wM (aM hc))) fun r _=>aC.2 ⟨rfl,hc,trivial⟩
 ·rw[aF bQ];exact aC.2 (aC.2 trivial)
theorem aAF(fs:List Int)(e:bF)(hf:fs.length<=1100000)(h:dE e):Sp (bFO fs e) (fun _=>True):=by
 refine lX (C:=fun (a:(List Int)×bF) (x:Option Int)=>Con Proofs.Tryz.prog 211 [.t (eL bI (a.1)),.t (cJ a.2)] x (fun (y:Int)=>.t (.int .i64 (y)))) (fun a=>⟨bM Proofs.Tryz.func211 (by rfl),fun _ h=>nomatch h⟩) (fun G a=>aKU G a.1 a.2) (fun G a=>aBY G a.1 a.2)
  (fun a=>a.1.length<=1100000/\dE a.2) (fun a=>SizeOf.sizeOf a.2) (fun _ _=>True) (fun b f a ha D=>?_) true (fs,e) ⟨hf,h⟩
 obtain⟨fs,e⟩:=a;obtain⟨hf,he⟩:=ha;simp only at hf he D ⊢;have hl:=he.len;unfold aKU;simp only[Tr.den,bR];refine dB (fun s:List Int×Int=>s.2) e.Args.length (by omega) (fun s=>s.1.length=s.2.toNat) (fun s k M hk hkN=>?_) rfl rfl;obtain⟨v1,v2⟩:=s;simp only at hk M;subst hk;unfold aBB;simp only[Tr.den,aL]at M ⊢;by_cases hc:k<e.Args.length
 ·rw[aA bL,aA];refine Sq.bind _ (D (fs,e.Args.getD k default) ⟨hf,he.arg _ (aM hc)⟩ (wM (aM hc))) fun r _=>?_;rw[aA (by grind)];refine aC.2 ⟨rfl,hc,?_⟩;rw[aK]; simp; omega
 ·rw[aF bQ];refine aC.2 ?_;simp only[sel];have hv:v1.length=e.Args.length:=by omega
  have rest:Sq b ((bW (fun s=>(Ml s).den) (1,v1,0)).bind (sel (fun J=>((if (e.Op==22)=true then (if decide (e.N>=0)=true then some (decide (e.N<(fs.length:Int))) else some false) else some false)).bind fun j11=>
    ((if j11=true then (if 0<=e.N/\e.N<(fs.length:Int) then some (if (1099511627776:Int)<IntKind.i64.wrap (J+fs.getD e.N.toNat default) then (1099511627776:Int) else IntKind.i64.wrap (J+fs.getD e.N.toNat default)) else none) else some J)).bind fun Z=>some Z) some)) (fun _=>True):=by
   rw[bR];refine dB (fun s:Int×List Int×Int=>s.2.2) v1.length (by omega) (fun s=>s.2.1=v1) (fun s k M hk hkN=>?_) rfl rfl;obtain⟨w1,w2,w3⟩:=s;simp only at hk M;subst hk M;unfold Ml;simp only[Tr.den,aL];by_cases hc:k<w2.length
   ·rw[aA bL,aA,aA hc];exact aC.2 ⟨rfl,hc,rfl⟩
   ·rw[aF bQ];refine aC.2 ?_;simp only[sel,nT];by_cases Q:(e.Op==22)=true
    ·rw[aA Q];simp only[aI];by_cases hr:e.N>=0/\e.N<(fs.length:Int)
     ·rw[aA (bL hr),aA hr]; exact aC.2 trivial
     ·rw[aF (bQ hr)]; exact aC.2 trivial
    ·rw[aF Q]; exact aC.2 trivial
  by_cases h21:(e.Op==21)=true
  ·rw[aA h21];simp only[aI];by_cases h3:((v1.length:Int)==3)=true
   ·rw[aA h3];have h3':v1.length=3:=by grind
    rw[aA,aA,aA,aA,aA,aA];exact aC.2 trivial
   simp_all
  grind
theorem okEs.get{l:List bF}(h:okL 56 dE l)(hk:k<l.length):dE (l.getD k default):=h.2 _ (aM hk)
theorem aTG(a b c:Int):bDN a b c=some (decide (b<=a/\a<=c)):=by unfold bDN aXQ;simp only[Tr.den,nT,aI]
theorem Ai(l D:List Int)(h:l.length<=1048576):Sp (G88 l D) (fun r=>r=true->∀ c,c∈l->0<=c/\c<D.length):=by
 unfold G88 T88;simp only[Tr.den,bR];refine dB (fun s:Int=>s) l.length (by omega) (fun s=>∀ c,c∈l.take s.toNat->0<=c/\c<D.length) (fun s k J hk M=>?_) (by simp) rfl;subst hk;unfold aJL;simp only[Tr.den,aL]at J ⊢;by_cases hc:k<l.length
 ·rw[aA bL,aA];by_cases h1:l.getD k default<0
  ·rw[aA (bL h1)];exact aC.2 (aC.2 fun h=>by cases h)
  ·rw[aF (bQ h1),aA];simp only[aI];by_cases h2:l.getD k default>=D.length
   ·rw[aA (bL h2)];exact aC.2 (aC.2 fun h=>by cases h)
   ·rw[aF (bQ h2)];refine aC.2 ⟨rfl,hc,fun c G=>?_⟩;rw[aK,aL,aJ hc,dW,cZ]at G;rcases G with G | rfl
    ·exact J c G
    ·omega
 ·rw[aF bQ];refine aC.2 (aC.2 fun _=>?_)
  rwa [iU (by omega)]at J
theorem dX.okd(h:okL 40 dX l):okD l:=⟨fun d D=>by have:=(h.2 d D).2.1.1;unfold okR; omega,fun d D=>(h.2 d D).2.2⟩
theorem gW{i:Int}{k:ByteArray}:x∈ofK n i k l↔x∈l/\kd n i x=k:=by unfold ofK;rw[iQ,jX]
theorem nG{k:ByteArray}:k∈aY (bO n 0 l)↔ofK n 0 k l≠[]:=by rw[Gk,rX];simp_all
def Gm(n:aG)(a:Int):Nat->Int
 | 0=>a
 | k+1=>if ((n.Seq.getD k default).Rep==2)=true/\(yC .i64 (bV .i64 (Gm n a k) k) 1==1)=true then Pg .i64 (Gm n a k) (zW .i64 1 (k+1:Nat)) else Gm n a k
def tN(n:aG)(a:Int):Int:=Gm n a n.Seq.length
def Tu(n:aG):Nat->Int
 | 0=>0
 | k+1=>if ((n.Seq.getD k default).Rep==1)=true then Pg .i64 (Tu n k) (zW .i64 1 k) else Tu n k
def nxF(n:aG)(now:Int)(p:dY):Int:=tN n (Pg .i64 (zW .i64 (yC .i64 now p.fits_) 1) (yC .i64 (yC .i64 now p.fits_) (Tu n n.Seq.length)))
def Jg(n:aG)(s:Int):Bool:=yC .i64 s (zW .i64 1 (n.Seq.length:Int)) != 0
def gP(n:aG)(row:List aE):List aE:=n.Key.map fun c=>row.getD c.toNat default
theorem pV(n:aG)(row:List aE):(gP n row).length=n.Key.length:=dH _
noncomputable def evV (fs:List aS)(e:bF)(d:aB):aE:=(vZ fs e d.Time d.Row).getD default
def aEC(fs:List aS)(n:aG)(l:List aB):Prop:=∀ d,d∈l->∀ i,i<n.Seq.length->(vZ fs (n.Seq.getD i default).Pred d.Time d.Row).isSome=true
theorem aEC.get(h:aEC fs n l){d:aB}(D:d∈l){i:Nat}(hi:i<n.Seq.length):vZ fs (n.Seq.getD i default).Pred d.Time d.Row=some (evV fs (n.Seq.getD i default).Pred d):=by have:=h d D i hi;obtain⟨v,hv⟩:=Cc.1 this;unfold evV;rw[hv]; rfl
theorem aEC.sub{r:List aB}(h:aEC fs n l)(hs:∀ x,x∈r->x∈l):aEC fs n r:=fun d D=>h d (hs d D)
noncomputable def Rf (fs:List aS)(n:aG)(d:aB):Nat->Int
 | 0=>0
 | k+1=>if ((evV fs (n.Seq.getD k default).Pred d).N==1)=true then Pg .i64 (Rf fs n d k) (zW .i64 1 k) else Rf fs n d k
noncomputable def plD (fs:List aS)(n:aG)(d:aB):List dY:=List.replicate d.N.toNat ⟨d.Time,Rf fs n d n.Seq.length⟩
theorem dE.bnd(h:dE e):vA e:=by
 induction h with
 | mk0 ha hb hs hn hl ih=>exact .mk hs hn (fun i hi=>ih _ (aM hi))
theorem zL{n:Nat}(h:okL n dK fs):fs.length<=1048576/\∀ i,i<fs.length->vA (fs.getD i default).Body/\(fs.getD i default).Params.length<=1048576:=
 ⟨h.1,fun i hi=>by have h1:=h.2 _ (aM hi);exact⟨h1.2.2.2.bnd,h1.2.1.1⟩⟩
theorem aNW{n:Nat}(hf:okL n dK fs)(h:G82 fs=some true)(he:dE e)(D:nJ fs cs [] e=some (t,true))
  (tm:Int){row:List aE}(hr:row.length=cs.length)(hs:∀ v,v∈row->Sm v):Sp (vZ fs e tm row) Sm:=by
 obtain⟨hl,hb⟩:=zL hf;obtain⟨k,hk⟩:=Mc hl hb h he.bnd D;unfold vZ aJP;simp only[Tr.den];exact Sq.bind _ (Zv fs cs.length 0 k _ e ⟨rfl,hr,rfl,hs,fun v hv=>by cases hv⟩ hk) fun v hv=>aC.2 hv
structure Rk (n:aG):Prop where
 op:n.Op=8
 seq:1<=n.Seq.length/\n.Seq.length<=8
 size:1<=n.Size/\n.Size<=10000
 key:n.Key.length<=10
theorem W_W(a:Int):W (W a)=W a:=aEY a
def bl(b:ByteArray):List UInt8:=b.data.toList
theorem rA(a b:ByteArray):bl (a++b)=bl a++bl b:=by unfold bl; rw[ByteArray.data_append,Array.toList_append]
theorem aLH{a b:ByteArray}(h:bl a=bl b):a=b:=by cases a; cases b; simp[bl]at h; simp[h]
theorem tS{d:Nat}(h:d<10):(UInt8.ofNat (48+d)).toNat=48+d:=by rw[UInt8.toNat_ofNat']; omega
def aJG(l:List UInt8):Nat:=l.foldl (fun a b=>a*10+(b.toNat-48)) 0
theorem zF(u:Nat):aJG (Lib.decDigits u)=u:=by
 induction u using Nat.strongRecOn with
 | _ u ih=>
  by_cases h:u<10
  ·rw[Lib.decDigits,dif_pos h];simp only[aJG,lU,List.foldl_nil];rw[tS h]; omega
  ·rw[Lib.decDigits,dif_neg h];have:=ih (u / 10) (by omega);unfold aJG at this ⊢;rw[Ao,this];simp only[lU,List.foldl_nil];rw[tS (by omega)]; omega
theorem Pa(u:Nat):∀ b,b∈Lib.decDigits u->48<=b.toNat/\b.toNat<=57:=by
 induction u using Nat.strongRecOn with
 | _ u ih=>
  intro b hb;by_cases h:u<10
  ·rw[Lib.decDigits,dif_pos h,cZ]at hb;rw[hb,tS h]; omega
  ·rw[Lib.decDigits,dif_neg h,dW,cZ]at hb;rcases hb with hb | rfl
   ·grind
   ·rw[tS (by omega)]; omega
theorem aJX(n:Int):∀ b,b∈Lib.itoa n->b.toNat=45\/(48<=b.toNat/\b.toNat<=57):=by
 intro b hb;unfold Lib.itoa at hb;split at hb
 ·rcases bE.1 hb with rfl | hb
  ·simp_all
  ·exact .inr (Pa _ b hb)
 ·exact .inr (Pa _ b hb)
theorem bDW(u:Nat)(l:List UInt8):Lib.decDigits u≠45::l:=by intro h;have:=Pa u 45 (by simp_all);simp_all
theorem Tt{n m:Int}(h:Lib.itoa n=Lib.itoa m):n=m:=by
 unfold Lib.itoa at h;split at h <;> split at h
 ·have:=congrArg aJG (Bj h).2;rw[zF,zF]at this; omega
 ·exact absurd h.symm (bDW _ _)
 ·exact absurd h (bDW _ _)
 ·have:=congrArg aJG h;rw[zF,zF]at this; omega
theorem wE{c:UInt8}:∀ {l l' x y:List UInt8},(∀ b,b∈l->b≠c)->(∀ b,b∈l'->b≠c)->l++c::x=l'++c::y->l=l'/\x=y
 | [],[],x,y,_,_,h=>⟨rfl,(Bj h).2⟩
 | [],b::l',x,y,_,h',h=>absurd (Bj h).1.symm (h' b cS)
 | b::l,[],x,y,h',_,h=>absurd (Bj h).1 (h' b cS)
 | b::l,b'::l',x,y,h1,h2,h=>by obtain⟨e1,e2⟩:=Bj h;obtain⟨q1,q2⟩:=wE (fun b hb=>h1 b (cO _ hb)) (fun b hb=>h2 b (cO _ hb)) e2;simp_all
theorem Ew(n:Int){c:UInt8}(h:58<=c.toNat):∀ b,b∈Lib.itoa n->b≠c:=by rintro b hb rfl;have:=aJX n b hb;omega
theorem aPA(n:Int):bl (yZ n)=Lib.itoa n:=rfl
theorem aJD(n:Int):bl (xH n)=Lib.itoa n++[59]:=by rfl
theorem Qi{n m:Int}{x y:List UInt8}(h:bl (xH n)++x=bl (xH m)++y):n=m/\x=y:=by rw[aJD,aJD,cR,cR]at h;obtain⟨G,D⟩:=wE (Ew n (by decide)) (Ew m (by decide)) h;exact⟨Tt G,D⟩
theorem aGV(s:ByteArray):bl (Qa s)=Lib.itoa s.size++58::(bl s++[44]):=by unfold Qa;rw[rA,rA,rA,aPA];simp[bl]
theorem aOW{s t:ByteArray}{x y:List UInt8}(h:bl (Qa s)++x=bl (Qa t)++y):s=t/\x=y:=by
 rw[aGV,aGV,cR,cR]at h;obtain⟨Q,M⟩:=wE (Ew _ (by decide)) (Ew _ (by decide)) h;have hs:=Tt Q;have hl:(bl s).length=(bl t).length:=by
  have e:∀ z:ByteArray,(bl z).length=z.size:=fun z=>by rfl
  grind
 have D:(bl s++[44])++x=(bl t++[44])++y:=M;rw[cR,cR]at D;obtain⟨J,G⟩:=List.append_inj D hl;exact⟨aLH J,(Bj G).2⟩
theorem aTR{v w:aE}{x y:List UInt8}(h:bl (wI v)++x=bl (wI w)++y):v=w/\x=y:=by unfold wI at h;rw[rA,rA,rA,rA]at h;simp only[cR]at h;obtain⟨J,h⟩:=Qi h;obtain⟨G,h⟩:=Qi h;obtain⟨D,h⟩:=aOW h;refine⟨?_,h⟩;cases v; simp_all
theorem Zy(b:ByteArray):∀ r:List aE,bl (r.foldl (fun b v=>b++wI v) b)=bl b++r.flatMap (fun v=>bl (wI v))
 | []=>by simp
 | v::r=>by rw[lU,Zy,rA,fL,cR]
theorem bBX(r:List aE):bl (Ad r)=bl (xH r.length)++r.flatMap (fun v=>bl (wI v)):=by unfold Ad;rw[Zy,rA]; rfl
theorem Tj:∀ {r s:List aE} {x y:List UInt8},r.length=s.length->r.flatMap (fun v=>bl (wI v))++x=s.flatMap (fun v=>bl (wI v))++y->r=s/\x=y
 | [],[],x,y,_,h=>⟨rfl,h⟩
 | [],_::_,_,_,h,_=>by cases h
 | _::_,[],_,_,h,_=>by cases h
 | v::r,w::s,x,y,hl,h=>by rw[fL,fL,cR,cR]at h;obtain⟨q1,q2⟩:=aTR h;obtain⟨q3,q4⟩:=Tj (by simp_all) q2;simp_all
theorem Ix{r s:List aE}(h:Ad r=Ad s):r=s:=by have h:=congrArg (fun b=>bl b++[]) h;simp only[bBX]at h;rw[cR,cR]at h;obtain⟨G,D⟩:=Qi h;exact(Tj (by omega) D).1
def Qr(n:aG)(i:Int)(row:List aE):List aE:=(eC n i).map fun c=>row.getD c.toNat default
theorem aXR(n:aG)(i j:Int)(a b:aB):kd n i a=kd n j b↔Qr n i a.Row=Qr n j b.Row:=
 ⟨fun h=>Ix h,fun h=>by show Ad (Qr n i a.Row)=Ad (Qr n j b.Row); rw[h]⟩
def sP(n:aG)(R:List aB)(a:aB):List aB:=if n.Op=6 then vL n 0 R a else gY n R a
def mA(n:aG)(A B:List aB):List aB:=A.flatMap fun a=>sP n (ofK n 1 (kd n 0 a) B) a
theorem Ds(row:List aE)(cols:List Int)(hc:oL cols row)(hl:cols.length<=1000):aRM row cols=some (cols.map fun c=>row.getD c.toNat default):=by
 unfold aRM bDR;simp only[Tr.den];have h1:=aP (bd:=fun s=>(Ej row cols s).den) (fun k=>((cols.take k).map fun c=>row.getD c.toNat default,(k:Int))) cols.length (r:=.inl (cols.map fun c=>row.getD c.toNat default)) (fun k hk=>?_) ?_
 ·refine(congrArg (fun x=>Option.bind x _) h1).trans ?_;rfl
 ·unfold Ej;simp only[Tr.den,aL];have h2:=hc _ (aM hk);rw[aA bL,aA,aA h2,aA (by simp; omega),aK,aJ hk,eI];rfl
 ·unfold Ej;simp only[Tr.den];rw[aF bQ,cF]
theorem zQ(n:aG)(i:Int)(row:List aE):(Qr n i row).length=(eC n i).length:=by unfold Qr; rw[dH]
theorem yT(n:aG)(i:Int)(row:List aE)(hc:oL (eC n i) row)(hl:(eC n i).length<=1000):aRM row (eC n i)=some (Qr n i row):=Ds row _ hc hl
theorem nY(a b:List aE)(ha:a.length<=1073741824)(hb:b.length<=1073741824):Oz a b=some (yE a b==0):=by unfold Oz bAC;simp only[Tr.den];rw[Yj a b ha hb];rfl
theorem aAU(n:aG)(a b:aB):(yE (Qr n 0 a.Row) (Qr n 1 b.Row)==0)=decide (kd n 1 b=kd n 0 a):=by rw[Bool.eq_iff_iff,dP,jX,aXR,TO.row.eq];grind
theorem aAV(a b:aB)(t n:Int)(ha:a.Row.length<=1000)(hb:b.Row.length<=1000):aUM a b t n=some (pI a b t n):=by unfold aUM bBI;simp only[Tr.den];rw[aA,aA];rfl
def pW(n:aG)(a b:aB):Bool:=decide (kd n 1 b=kd n 0 a)&&(decide (a.Time-n.Before<=b.Time)&&decide (b.Time<=a.Time+n.After))
def rL(n:aG)(B:List aB)(a:aB):List aB:=(B.filter (pW n a)).map (jL 0 a)
theorem aZO(a b:aB):jL 0 a b=pI a b (if b.Time>a.Time then b.Time else a.Time) (W (a.N*b.N)):=by unfold jL; rw[aF (show ¬ (0:Int)=1 by decide)]
theorem aQF(n:aG)(B:List aB)(a:aB):rL n B a=vL n 0 (ofK n 1 (kd n 0 a) B) a:=by
 unfold rL vL fJ ofK;rw[aF,aF,Mz]
 congr 2
 funext b;unfold pW;rw[Bool.and_comm]
structure okJ (n:aG)(i:Int)(l:List aB):Prop where
 c:∀ d,d∈l->oL (eC n i) d.Row
 w:okW l
 t:fZ l
 n:l.length<=1000000
theorem okI.okJ{n:aG}{i:Int}{l:List aB}(h:okI n i l)(hn:l.length<=1000000):okJ n i l:=⟨h.c,h.w,h.tm,hn⟩
theorem aQH(n:aG)(A B:List aB)(Q:sU n)(hB:okB n)(hA:okJ n 0 A)(D:okJ n 1 B):bAQ n A B=some (A.flatMap (rL n B)):=by
 have hb:=hB.b;have ha:=hB.a;have lA:=hA.n;have lB:=D.n;have M:∀ l,(l:List aB).length<=1000000->(l.flatMap (rL n B)).length<=1000000*1000000:=fun l hl=>
  fW (lI (c:=B.length) (fun a=>by unfold rL; grind) l) (qW hl lB)
 unfold bAQ aWB;simp only[Tr.den];have h1:=aP (bd:=fun z=>(Em n A B z).den) (fun q=>((A.take q).flatMap (rL n B),(q:Int))) A.length (r:=.inl (A.flatMap (rL n B))) (fun q hq=>?_) ?_
 ·refine(congrArg (fun x=>Option.bind x _) h1).trans ?_;rfl
 ·have hm:=aM hq;have tq:=hA.t.get q;have hl0:=M (A.take q) (by grind);unfold Em;simp only[Tr.den];rw[aA bL];have J:bW (fun z=>(xO n A B (q:Int) z).den) ((A.take q).flatMap (rL n B),0)=some (.inl ((A.take q).flatMap (rL n B)++rL n B (A.getD q default))):=by
   have h2:=aP (bd:=fun z=>(xO n A B (q:Int) z).den) (fun p=>((A.take q).flatMap (rL n B)++((B.take p).filter (pW n (A.getD q default))).map (jL 0 (A.getD q default)),(p:Int))) B.length (r:=.inl ((A.take q).flatMap (rL n B)++rL n B (A.getD q default))) (fun p hp=>?_) ?_
   ·simp_all
   ·have Z:=aM hp;have tp:=D.t.get p;have w1:IntKind.i64.wrap ((A.getD q default).Time-n.Before)=(A.getD q default).Time-n.Before:=aV;have w2:IntKind.i64.wrap ((A.getD q default).Time+n.After)=(A.getD q default).Time+n.After:=aV;have f1:((B.take p).filter (pW n (A.getD q default))).length<=p:=fW (lM _ _) (by grind);unfold xO;simp only[Tr.den,aL];rw[aA bL,aA,show n.Key=eC n 0 from rfl,yT n 0 _ (hA.c _ hm) (Q.cols 0)];simp only[aI];rw[aA,show n.Key2=eC n 1 from rfl,yT n 1 _ (D.c _ Z) (Q.cols 1)];simp only[aI];rw[nY _ _ (by rw[zQ]; have:=Q.cols 0; omega) (by rw[zQ]; have:=Q.cols 1; omega)];simp only[aI];simp only[aAU,w1,w2];rw[aJ hp,oU,eI];have G:∀ c:Bool,c=pW n (A.getD q default) (B.getD p default) ->
      ((if c=true then
        if 0<=(q:Int)/\(q:Int)<(A.length:Int) then if 0<=(p:Int)/\(p:Int)<(B.length:Int) then if 0<=(q:Int)/\(q:Int)<(A.length:Int) then if 0<=(p:Int)/\(p:Int)<(B.length:Int) then if 0<=(q:Int)/\(q:Int)<(A.length:Int) then if 0<=(p:Int)/\(p:Int)<(B.length:Int) then
         (aUM (A.getD q default) (B.getD p default) (if (B.getD p default).Time>(A.getD q default).Time then (B.getD p default).Time else (A.getD q default).Time) (IntKind.i64.wrap ((A.getD q default).N*(B.getD p default).N))).bind fun r=>
          if ((List.flatMap (rL n B) (List.take q A)++List.map (jL 0 (A.getD q default)) (List.filter (pW n (A.getD q default)) (List.take p B))).length+1)*40<=140737488355328 then
           some (List.flatMap (rL n B) (List.take q A)++List.map (jL 0 (A.getD q default)) (List.filter (pW n (A.getD q default)) (List.take p B))++[r]) else none
         else none else none else none else none else none else none
        else some (List.flatMap (rL n B) (List.take q A)++List.map (jL 0 (A.getD q default)) (List.filter (pW n (A.getD q default)) (List.take p B)))):Option (List aB)) =
      some (List.flatMap (rL n B) (List.take q A)++(List.map (jL 0 (A.getD q default)) (List.filter (pW n (A.getD q default)) (List.take p B))++List.map (jL 0 (A.getD q default)) (List.filter (pW n (A.getD q default)) [B.getD p default]))):=by
     intro c hc;cases c with
     | true=>rw[aA rfl,aA,aA,aA,aA,aA,aA,aAV _ _ _ _ (hA.w.get q) (D.w.get p)];simp only[aI];rw[aA (by grind),Ju hc.symm,wD,cR,fY,Ce,aZO]
     | false=>rw[aF (by simp),Fd (by simp_all),wD,Ce,eQ]
    by_cases c1:kd n 1 (B.getD p default)=kd n 0 (A.getD q default)
    ·rw[aA (bL c1),aA,aA];by_cases c2:(A.getD q default).Time-n.Before<=(B.getD p default).Time
     ·rw[aA (bL c2),aA,aA];simp only[aI];rw[G _ (by unfold pW; simp_all)];simp only[aI];rw[aK]
     ·rw[aF (bQ c2)];simp only[aI];rw[G false (by unfold pW; grind)];simp only[aI];rw[aK]
    ·rw[aF (bQ c1)];simp only[aI];rw[G false (by unfold pW; simp_all)];simp only[aI];rw[aK]
   ·unfold xO;simp only[Tr.den];rw[aF bQ,cF];rfl
  rw[J];simp only[aI,sel];rw[aK,aJ hq,jC];simp
 ·unfold Em;simp only[Tr.den];rw[aF bQ,cF]
def lT(n:aG)(a b:aB):Bool:=decide (kd n 1 b=kd n 0 a)&&(decide (a.Time-n.Keep<b.Time)&&decide (b.Time<=a.Time))
theorem Xh(n:aG)(a:aB)(B:List aB):fJ (ofK n 1 (kd n 0 a) B) (a.Time-n.Keep+1) a.Time=B.filter (lT n a):=by
 unfold fJ ofK;rw[Mz]
 congr 1
 funext b;unfold lT;rw[Bool.and_comm,show decide (a.Time-n.Keep+1<=b.Time)=decide (a.Time-n.Keep<b.Time) from rfl]
def yP(c:aB->Bool)(B:List aB):Nat->Int
 | 0=>-1
 | p+1=>if c (B.getD p default)=true then (p:Int) else yP c B p
theorem Ru(c:aB->Bool)(B:List aB):∀ p,p<=B.length->(yP c B p = -1/\(B.take p).filter c=[])\/∃ j:Nat,yP c B p=j/\j<p/\(B.take p).filter c≠[]/\((B.take p).filter c).getD (((B.take p).filter c).length-1) default=B.getD j default
 | 0,_=>.inl ⟨rfl,rfl⟩
 | p+1,h=>by
  have ih:=Ru c B p (by omega);rw[aJ (by omega),oU];unfold yP;by_cases hc:c (B.getD p default)=true
  ·rw[aA hc,Ju hc,wD];refine .inr ⟨p,rfl,by omega,by simp,?_⟩;simp_all
  grind
theorem aSG(n:aG)(A B:List aB)(Q:sU n)(hK:1<=n.Keep/\n.Keep<=10000)(hA:okJ n 0 A)(G:okJ n 1 B):aXE n A B=some (A.flatMap fun a=>gY n (ofK n 1 (kd n 0 a) B) a):=by
 have lA:=hA.n;have lB:=G.n;unfold aXE bCV;simp only[Tr.den];have h1:=aP (bd:=fun z=>(Dp n A B z).den) (fun q=>((A.take q).flatMap (fun a=>gY n (ofK n 1 (kd n 0 a) B) a),(q:Int))) A.length (r:=.inl (A.flatMap fun a=>gY n (ofK n 1 (kd n 0 a) B) a)) (fun q hq=>?_) ?_
 ·refine(congrArg (fun x=>Option.bind x _) h1).trans ?_;rfl
 ·have hm:=aM hq;have tq:=hA.t.get q;have hl0:((A.take q).flatMap (fun a=>gY n (ofK n 1 (kd n 0 a) B) a)).length<=1000000:=by have:=lI (f:=fun a=>gY n (ofK n 1 (kd n 0 a) B) a) (c:=1) (fun a=>Ac n _ a) (A.take q);grind
  unfold Dp;simp only[Tr.den,aL];rw[aA bL];have M:bW (fun z=>(zC n A B (q:Int) z).den) ((A.take q).flatMap (fun a=>gY n (ofK n 1 (kd n 0 a) B) a),-1,0)=some (.inl ((A.take q).flatMap (fun a=>gY n (ofK n 1 (kd n 0 a) B) a),yP (lT n (A.getD q default)) B B.length)):=by
   refine aP (bd:=fun z=>(zC n A B (q:Int) z).den) (fun p=>((A.take q).flatMap (fun a=>gY n (ofK n 1 (kd n 0 a) B) a),yP (lT n (A.getD q default)) B p,(p:Int))) B.length (fun p hp=>?_) ?_
   ·have Z:=aM hp;have tp:=G.t.get p;have w1:IntKind.i64.wrap ((A.getD q default).Time-n.Keep)=(A.getD q default).Time-n.Keep:=aV;unfold zC;simp only[Tr.den,aL];rw[aA bL,aA,show n.Key=eC n 0 from rfl,yT n 0 _ (hA.c _ hm) (Q.cols 0)];simp only[aI];rw[aA,show n.Key2=eC n 1 from rfl,yT n 1 _ (G.c _ Z) (Q.cols 1)];simp only[aI];rw[nY _ _ (by rw[zQ]; have:=Q.cols 0; omega) (by rw[zQ]; have:=Q.cols 1; omega)];simp only[aI];simp only[aAU,w1];have J:∀ c:Bool,c=lT n (A.getD q default) (B.getD p default)->∀ D:List aB,
      ((if c=true then some (D,(p:Int)) else some (D,yP (lT n (A.getD q default)) B p)).bind fun v=>some (Sum.inl (v.1,v.2,IntKind.i64.wrap ((p:Int)+1))):Option ((List aB×Int×Int)⊕((List aB×Int)⊕((List aB×Int)⊕(List aB⊕List aB))))) =
      some (.inl (D,yP (lT n (A.getD q default)) B (p+1),((p+1:Nat):Int))):=by
     intro c hc D;show _=some (Sum.inl (D,if lT n (A.getD q default) (B.getD p default)=true then (p:Int) else yP (lT n (A.getD q default)) B p,((p+1:Nat):Int)));rw[<-hc];cases c with
     | true=>rw[aA rfl,aA rfl];simp only[aI];rw[aK]
     | false=>rw[aF (by simp),aF (by simp)];simp only[aI];rw[aK]
    by_cases c1:kd n 1 (B.getD p default)=kd n 0 (A.getD q default)
    ·rw[aA (bL c1),aA,aA];by_cases c2:(A.getD q default).Time-n.Keep<(B.getD p default).Time
     ·rw[aA (bL c2),aA,aA];simp only[aI];exact J _ (by unfold lT; simp_all) _
     ·rw[aF (bQ c2)];simp only[aI];exact J false (by unfold lT; grind) _
    ·rw[aF (bQ c1)];simp only[aI];exact J false (by unfold lT; simp_all) _
   ·unfold zC;simp only[Tr.den];rw[aF bQ]
  rw[M];simp only[aI,sel];have hb:=Ru (lT n (A.getD q default)) B B.length (cM _);rw[cF]at hb;have hA1:gY n (ofK n 1 (kd n 0 (A.getD q default)) B) (A.getD q default)=if B.filter (lT n (A.getD q default))=[] then [] else [pI (A.getD q default) ((B.filter (lT n (A.getD q default))).getD ((B.filter (lT n (A.getD q default))).length-1) default) (A.getD q default).Time (A.getD q default).N]:=by unfold gY;rw[Xh]
  rw[aJ hq,jC,fL,Fw,eQ,hA1];rcases hb with⟨h2,h3⟩ | ⟨j,h2,h3,h4,h5⟩
  ·rw[h2,aF bQ,aA h3];simp only[aI,eQ];rw[aK]
  ·rw[h2,aA bL,aF h4,h5];simp only[aL];rw[aA,aA,aA,aA,aAV _ _ _ _ (hA.w.get q) (G.w.get j)];simp only[aI];rw[aA];simp only[aI];rw[aK]
 ·unfold Dp;simp only[Tr.den];rw[aF bQ,cF]
structure MI (o X Y T:List aB):Prop where
 can:Can o
 lt:∀ x,x∈o->∀ y,y∈X++Y->dC x y<0
 same:jZ (o++(X++Y)) T
 cx:Can X
 cy:Can Y
theorem Can.snoc(h:Can o)(h1:∀ y,y∈o->dC y x<0)(h2:x.N≠0)(h3:oW x.N):Can (o++[x]):=by
 refine⟨wN.2 ⟨h.lt,sZ _ _,fun y hy z D=>?_⟩,fun y hy=>?_,fun y hy=>?_⟩
 ·simp_all
 ·rcases dW.1 hy with hy | hy
  ·exact h.nz y hy
  simp_all
 ·rcases dW.1 hy with hy | hy
  ·exact h.n64 y hy
  simp_all
theorem aJK(h:Can (y::Y))(hx:dC x y<0):∀ z,z∈y::Y->dC x z<0:=by
 intro z hz;rcases bE.1 hz with rfl | hz
 ·exact hx
 ·exact zR hx (h.head z hz)
theorem MI.left(h:MI o (x::X) Y T)(hy:∀ z,z∈Y->dC x z<0):MI (o++[x]) X Y T:=by
 refine⟨h.can.snoc (fun y D=>h.lt y D x (by simp)) (h.cx.nz x cS) (h.cx.n64 x cS),fun z hz w hw=>?_,?_,h.cx.tail,h.cy⟩
 ·rcases dW.1 hz with hz | hz
  ·exact h.lt z hz w (by rcases dW.1 hw with hw | hw <;> simp[hw])
  ·rw[cZ.1 hz];rcases dW.1 hw with hw | hw
   ·exact h.cx.head w hw
   simp_all
 ·have:=h.same;simp_all
theorem MI.right(h:MI o X (y::Y) T)(hx:∀ z,z∈X->dC y z<0):MI (o++[y]) X Y T:=by
 refine⟨h.can.snoc (fun z hz=>h.lt z hz y (by simp)) (h.cy.nz y cS) (h.cy.n64 y cS),fun z hz w hw=>?_,?_,h.cx,h.cy.tail⟩
 ·rcases dW.1 hz with hz | hz
  ·exact h.lt z hz w (by rcases dW.1 hw with hw | hw <;> simp[hw])
  ·rw[cZ.1 hz];rcases dW.1 hw with hw | hw
   ·exact hx w hw
   ·exact h.cy.head w hw
 ·refine jZ.trans (.of_perm ?_) h.same;rw[cR];refine Bh _ ?_;show (y::(X++Y)).Perm (X++y::Y);exact List.perm_middle.symm
theorem aAD(hp:pl x=pl y)(p:Pl->Bool):W (wt p (o++(x::X++y::Y)))=W (wt p o+(if p (pl y)=true then W (y.N+x.N) else 0)+wt p (X++Y)):=by
 rw[jV,jV,jV];simp only[wt,hp];by_cases h:p (pl y)=true
 ·rw[aA h,aA h,aA h];have:=vK (vK (rfl:W (wt p o)=W (wt p o)) (W_W (y.N+x.N))) (rfl:W (wt p X+wt p Y)=W (wt p X+wt p Y));grind
 simp_all
theorem MI.both(h:MI o (x::X) (y::Y) T)(hp:pl x=pl y)(D:W (y.N+x.N)≠0):MI (o++[⟨y.Time,y.Row,W (y.N+x.N)⟩]) X Y T:=by
 have e:∀ z:aB,dC (⟨y.Time,y.Row,W (y.N+x.N)⟩:aB) z=dC y z:=fun z=>rfl;have G:∀ z:aB,dC z (⟨y.Time,y.Row,W (y.N+x.N)⟩:aB)=dC z y:=fun z=>rfl;refine⟨h.can.snoc (fun z hz=>by rw[G]; exact h.lt z hz y (by simp)) D (aRL _),fun z hz w hw=>?_,fun p=>?_,h.cx.tail,h.cy.tail⟩
 ·rcases dW.1 hz with hz | hz
  ·exact h.lt z hz w (by rcases dW.1 hw with hw | hw <;> simp[hw])
  ·rw[cZ.1 hz,e];rcases dW.1 hw with hw | hw
   ·rw[<-nB hp rfl]; exact h.cx.head w hw
   ·exact h.cy.head w hw
 ·rw[<-h.same p,aAD hp,jV,jV];simp only[wt,Int.add_zero];rfl
theorem MI.both0(h:MI o (x::X) (y::Y) T)(hp:pl x=pl y)(G:W (y.N+x.N)=0):MI o X Y T:=by refine⟨h.can,fun z D w hw=>h.lt z D w (by rcases dW.1 hw with hw | hw <;> simp[hw]),fun p=>?_,h.cx.tail,h.cy.tail⟩;rw[<-h.same p,aAD hp,jV,G];simp
theorem Can.drop{l:List aB}(h:Can l)(k:Nat):Can (l.drop k):=⟨h.lt.drop,fun x hx=>h.nz x (List.mem_of_mem_drop hx),fun x hx=>h.n64 x (List.mem_of_mem_drop hx)⟩
theorem aAH(a b:aB)(ha:okR a)(hb:okR b):bBG a b=some (dC a b):=by unfold bBG aZX;simp only[Tr.den];rw[Yj _ _ ha hb];unfold dC eR pE;grind
theorem aFZ(a b:List aB)(ha:Can a)(hb:Can b)(oa:jQ a)(ob:jQ b)(hn:a.length+b.length<=1000000000000):
  Sp (bW (fun s=>(Ng a b s).den) (([]:List aB),0,0)) (sel (fun r=>Can r/\jZ r (a++b)) (fun _=>False)):=by
 refine Sq.while (fun s:List aB×Int×Int=>∃ i k:Nat,s.2.1=i/\s.2.2=k/\i<=a.length/\k<=b.length/\MI s.1 (a.drop i) (b.drop k) (a++b)/\s.1.length<=i+k) (fun s=>(a.length-s.2.1).toNat+(b.length-s.2.2).toNat) (fun s hs=>?_)
  ⟨0,0,rfl,rfl,by omega,by omega,⟨.nil,by simp,by simpa using jZ.refl _,ha,hb⟩,by simp⟩
 obtain⟨o,i,k⟩:=s;obtain⟨i,k,e1,e2,h1,h2,G,J⟩:=hs;simp only at e1 e2 G J;subst e1 e2;unfold Ng;simp only[Tr.den,aL];have Z:k<b.length->(if IntKind.i64.wrap ((b.length:Int)-1)<(k:Int) then IntKind.i64.wrap ((b.length:Int)-1) else (k:Int))=(k:Int):=by intro hk;rw[aV,aF]
 have left:i<a.length->(∀ z,z∈b.drop k->dC (a.getD i default) z<0)->∀ c:Int,c<0->∀ f:Option (List aB×Int×Int),
   Sp ((if decide (c<0)=true then if 0<=(i:Int)/\(i:Int)<(a.length:Int) then if (o.length+[a.getD i default].length)*40<=140737488355328 then some (o++[a.getD i default],IntKind.i64.wrap ((i:Int)+1),(k:Int)) else none else none else f).bind fun v=>some (Sum.inl (v.1,v.2.1,v.2.2)))
    (sel (fun D:List aB×Int×Int=>(∃ i k:Nat,D.2.1=i/\D.2.2=k/\i<=a.length/\k<=b.length/\MI D.1 (a.drop i) (b.drop k) (a++b)/\D.1.length<=i+k)/\(a.length-D.2.1).toNat+(b.length-D.2.2).toNat<(a.length-(i:Int)).toNat+(b.length-(k:Int)).toNat) (sel (fun r:List aB=>Can r/\jZ r (a++b)) (fun _:List aB=>False))):=by
  intro hi hlt c hc f;rw[aA (bL hc),aA,aA (by grind),aK];rw[dF hi]at G;exact aC.2 ⟨⟨i+1,k,rfl,rfl,by omega,h2,G.left hlt,by grind⟩,by grind⟩
 have right:k<b.length->(∀ z,z∈a.drop i->dC (b.getD k default) z<0)->∀ c:Int,0<c->∀ f:Option (List aB×Int×Int),
   Sp ((if decide (c<0)=true then f else
       if 0<=(if IntKind.i64.wrap ((b.length:Int)-1)<(k:Int) then IntKind.i64.wrap ((b.length:Int)-1) else (k:Int))/\(if IntKind.i64.wrap ((b.length:Int)-1)<(k:Int) then IntKind.i64.wrap ((b.length:Int)-1) else (k:Int))<(b.length:Int) then
        (if (c==0)=true then if 0<=(i:Int)/\(i:Int)<(a.length:Int) then some (IntKind.i64.wrap ((b.getD (if IntKind.i64.wrap ((b.length:Int)-1)<(k:Int) then IntKind.i64.wrap ((b.length:Int)-1) else (k:Int)).toNat default).N+(a.getD i default).N),o,IntKind.i64.wrap ((i:Int)+1)) else none
         else some ((b.getD (if IntKind.i64.wrap ((b.length:Int)-1)<(k:Int) then IntKind.i64.wrap ((b.length:Int)-1) else (k:Int)).toNat default).N,o,(i:Int))).bind fun v=>
         (if (v.1 != 0)=true then if (v.2.1.length+[(⟨(b.getD (if IntKind.i64.wrap ((b.length:Int)-1)<(k:Int) then IntKind.i64.wrap ((b.length:Int)-1) else (k:Int)).toNat default).Time,(b.getD (if IntKind.i64.wrap ((b.length:Int)-1)<(k:Int) then IntKind.i64.wrap ((b.length:Int)-1) else (k:Int)).toNat default).Row,v.1⟩:aB)].length)*40<=140737488355328 then
           some (v.2.1++[(⟨(b.getD (if IntKind.i64.wrap ((b.length:Int)-1)<(k:Int) then IntKind.i64.wrap ((b.length:Int)-1) else (k:Int)).toNat default).Time,(b.getD (if IntKind.i64.wrap ((b.length:Int)-1)<(k:Int) then IntKind.i64.wrap ((b.length:Int)-1) else (k:Int)).toNat default).Row,v.1⟩:aB)]) else none
          else some v.2.1).bind fun Q=>some (Q,v.2.2,IntKind.i64.wrap ((k:Int)+1))
       else none).bind fun v=>some (Sum.inl (v.1,v.2.1,v.2.2)))
    (sel (fun D:List aB×Int×Int=>(∃ i k:Nat,D.2.1=i/\D.2.2=k/\i<=a.length/\k<=b.length/\MI D.1 (a.drop i) (b.drop k) (a++b)/\D.1.length<=i+k)/\(a.length-D.2.1).toNat+(b.length-D.2.2).toNat<(a.length-(i:Int)).toNat+(b.length-(k:Int)).toNat) (sel (fun r:List aB=>Can r/\jZ r (a++b)) (fun _:List aB=>False))):=by
  intro hk hlt c hc f;rw[aF bQ,Z hk,aA,aF dJ];simp only[aI,aL];rw[dF hk]at G;rw[aA (So (G.cy.nz _ cS)),aA (by grind),aK];simp only[aI];exact aC.2 ⟨⟨i,k+1,rfl,rfl,h1,by omega,G.right hlt,by grind⟩,by grind⟩
 by_cases hi:i<a.length
 ·rw[aA (bL (show (i:Int)<a.length by omega))];simp only[aI,gT];rw[aF (bQ (show ¬ (i:Int)>=a.length by omega))];by_cases hk:k<b.length
  ·rw[aF (bQ (show ¬ (k:Int)>=b.length by omega)),aA,aA,aAH _ _ (oa.get i) (ob.get k)];simp only[aI];have hX:=dF hi;have hY:=dF hk;have cX:=ha.drop i;have cY:=hb.drop k;by_cases c1:dC (a.getD i default) (b.getD k default)<0
   ·exact left hi (by rw[hY]at cY ⊢; exact aJK cY c1) _ c1 _
   ·by_cases c2:dC (a.getD i default) (b.getD k default)=0
    ·have hp:=kL.1 c2;rw[aF (bQ c1),Z hk,aA,aA (fA c2),aA];simp only[aI,aL];rw[hX,hY]at G;by_cases M:W ((b.getD k default).N+(a.getD i default).N)=0
     ·rw[aF (Sh M)];simp only[aI];rw[aK,aK];exact aC.2 ⟨⟨i+1,k+1,rfl,rfl,by omega,by omega,G.both0 hp M,by grind⟩,by grind⟩
     ·rw[aA (So M),aA (by grind)];simp only[aI];rw[aK,aK];exact aC.2 ⟨⟨i+1,k+1,rfl,rfl,by omega,by omega,G.both hp M,by grind⟩,by grind⟩
    ·have c3:0<dC (a.getD i default) (b.getD k default):=by omega
     exact right hk (by rw[hX]at cX ⊢; exact aJK cX (yS.1 c3)) _ c3 _
  ·rw[aA (bL (show (k:Int)>=b.length by omega))];simp only[aI];exact left hi (by grind) (-1) (by omega) _
 ·rw[aF (bQ (show ¬ (i:Int)<a.length by omega))];simp only[aI];by_cases hk:k<b.length
  ·rw[aA (bL (show (k:Int)<b.length by omega)),aA (bL (show (i:Int)>=a.length by omega))];simp only[aI];exact right hk (by grind) 1 (by omega) _
  ·rw[aF (bQ (show ¬ (k:Int)<b.length by omega))];refine aC.2 ⟨G.can,?_⟩;have:=G.same;grind
theorem kZ(l:List aB)(ho:okD l)(hn:l.length<=1000000000000):bDX l=some (PL.cons l):=by
 refine Sp.eq ?_;refine lX (C:=fun (a:List aB) (x:Option (List aB))=>Con Proofs.Tryz.prog 37 [.t (eL aH (a))] x (fun (y:List aB)=>.t (eL aH (y)))) (fun a=>⟨bM Proofs.Tryz.func37 (by rfl),fun _ h=>nomatch h⟩) (fun G a=>aGN G a) (fun G a=>Yf G a)
  (fun l=>okD l/\l.length<=1000000000000) (fun l=>l.length) (fun l d=>d=PL.cons l) (fun b f l hl D=>?_) true l ⟨ho,hn⟩
 obtain⟨ho,hn⟩:=hl;unfold aGN;simp only[Tr.den];by_cases h0:l.length=0
 ·rw[aA fA];simp only[aI,gT];rw[zO h0];exact aC.2 rfl
 rw[aF dJ];by_cases hl1:l.length=1
 ·obtain⟨x,rfl⟩:=Kw.1 hl1;have Q:(([x]:List aB).length:Int)=1:=rfl;have Z:([x]:List aB).getD (0:Int).toNat default=x:=rfl;rw[aA (fA Q),aA,Z];simp only[aI];have hc:PL.cons [x]=if x.N=0 then [] else [x]:=rfl
  rw[hc];by_cases M:x.N=0
  ·rw[aA (fA M),aA M]; exact aC.2 rfl
  ·have hr:x.Row.length<=1073741824:=ho.r x cS;rw[aF (dJ M),aA (fA Q),aA,aA,aA,aA,aF M]; exact aC.2 rfl
 rw[aF dJ];simp only[aI,eO,eH];have w1:IntKind.i64.wrap (Int.tdiv (l.length:Int) 2)=((l.length / 2:Nat):Int):=by rw[show Int.tdiv (l.length:Int) 2=((l.length / 2:Nat):Int) from rfl];rw[tL (by omega)]
 rw[aF dJ,w1];have Q:(l.drop (0:Int).toNat).take (((l.length / 2:Nat):Int)-0).toNat=l.take (l.length / 2):=by rw[Int.toNat_zero,Hf,Int.sub_zero,aL]
 have Z:(l.drop ((l.length / 2:Nat):Int).toNat).take ((l.length:Int)-((l.length / 2:Nat):Int)).toNat=l.drop (l.length / 2):=by rw[aL]; exact iU (by grind)
 have o1:okD (l.take (l.length / 2)):=ho.sub fun x hx=>oK hx;have o2:okD (l.drop (l.length / 2)):=ho.sub fun x hx=>List.mem_of_mem_drop hx;rw[aA,Q];refine Sq.bind _ (D _ ⟨o1,by simp; omega⟩ (by simp; omega)) (fun r1 h1=>?_);rw[aA,Z];refine Sq.bind _ (D _ ⟨o2,by simp; omega⟩ (by simp; omega)) (fun r2 h2'=>?_);subst h1 h2';have l1:=xG (l.take (l.length / 2));have l2:=xG (l.drop (l.length / 2));simp only[dU,vN]at l1 l2;obtain⟨z,hz1,J⟩:=(aFZ _ _ (iX o1.n) (iX o2.n) o1.cons.r o2.cons.r (by omega)).get;rw[hz1];cases z with
 | inr z=>exact J.elim
 | inl z=>refine aC.2 (aBO J.1 ho.n ?_).symm;refine J.2.trans (((jJ _).app (jJ _)).trans ?_);rw[gV];exact jZ.refl _
theorem Xx(fs:List aS)(e:bF)(hl:okL 104 dK fs)(h:dE e):Sp (G81 fs e) (fun _=>True):=by
 have G:=hl.1;unfold G81 T81;simp only[Tr.den,bR];refine dB (fun s:List Int×Int=>s.2) fs.length (by omega) (fun s=>s.1.length=s.2.toNat) (fun s k D hk J=>?_) rfl rfl;obtain⟨v1,v2⟩:=s;simp only at hk D;subst hk;simp only[aL]at D;unfold aMM;simp only[Tr.den,aL];by_cases hc:k<fs.length
 ·rw[aA bL,aA];refine Sq.bind _ (Sq.of (aAF v1 _ (by omega) (hl.2 _ (aM hc)).2.2.2)) fun r _=>?_;rw[aA (by grind)];refine aC.2 ⟨rfl,hc,?_⟩;simp only;rw[aK]; simp; omega
 ·rw[aF bQ];refine aC.2 ?_;simp only[sel,bR];exact(Sq.of (aAF v1 e (by omega) h)).imp fun _ _=>aC.2 trivial
theorem aUP(fs:List aS)(n:aG)(hl:okL 104 dK fs)(h:iO n):Sp (G33 fs n) (fun r=>r=true->n.Key.length<=20/\n.Seq.length<=8):=by
 obtain⟨_,_,_,_,J,_,_,_,_,_,_,_,_,_,G,_⟩:=h;have Z:=J.1;have Q:=G.1;have M:=hl.1;unfold G33 T33;simp only[Tr.den,bR];refine dB (fun s:Int=>s) fs.length (by omega) (fun _=>True) (fun s k _ hk D=>?_) trivial rfl;subst hk;unfold aIK;simp only[Tr.den,aL,nT,aI];by_cases hc:((k:Int)<(fs.length:Int))/\(k:Int)<6
 ·rw[aA (bL hc),aA];refine Sq.bind _ (Xc _ (hl.2 _ (aM (show k<fs.length by omega))).2.2.2) fun r _=>?_;refine Sq.bind (fun _=>True) ?_ (fun j _=>?_)
  ·by_cases h1:r>100
   ·rw[aA (bL h1)]; exact aC.2 trivial
   ·rw[aF (bQ h1),aA]; exact aC.2 trivial
  ·cases j with
   | true=>exact aC.2 (aC.2 fun h=>by cases h)
   | false=>exact aC.2 ⟨rfl,by omega,trivial⟩
 ·rw[aF (bQ hc)];refine aC.2 ?_;simp only[sel,bR];refine dB (fun s:Int=>s) n.Exprs.length (by omega) (fun _=>True) (fun s k _ hk D=>?_) trivial rfl;subst hk;unfold aMC;simp only[Tr.den,aL,nT,aI];by_cases hc:((k:Int)<(n.Exprs.length:Int))/\(k:Int)<13
  ·rw[aA (bL hc),aA];have he:=okEs.get J (show k<n.Exprs.length by omega);refine Sq.bind _ (Sq.of (Xc _ he)) fun r _=>?_;refine Sq.bind (fun _=>True) ?_ (fun j _=>?_)
   ·by_cases h1:r>200
    ·rw[aA (bL h1)]; exact aC.2 trivial
    ·rw[aF (bQ h1),aA];refine Sq.bind _ (Sq.of (aKQ _ he)) fun r _=>?_;by_cases h2:r>12
     ·rw[aA (bL h2)]; exact aC.2 trivial
     ·rw[aF (bQ h2),aA];refine Sq.bind _ (Sq.of (Xx fs _ hl he)) fun r _=>aC.2 trivial
   ·cases j with
    | true=>exact aC.2 (aC.2 fun h=>by cases h)
    | false=>exact aC.2 ⟨rfl,by omega,trivial⟩
  ·rw[aF (bQ hc)];refine aC.2 ?_;simp only[sel,bR];refine dB (fun s:Int=>s) n.Seq.length (by omega) (fun _=>True) (fun s k _ hk D=>?_) trivial rfl;subst hk;unfold aLA;simp only[Tr.den,aL,nT,aI];by_cases hc:((k:Int)<(n.Seq.length:Int))/\(k:Int)<9
   ·rw[aA (bL hc),aA];have he:=(G.2 _ (aM (show k<n.Seq.length by omega))).1;refine Sq.bind _ (Sq.of (Xc _ he)) fun r _=>?_;refine Sq.bind (fun _=>True) ?_ (fun j _=>?_)
    ·by_cases h1:r>200
     ·rw[aA (bL h1)]; exact aC.2 trivial
     ·rw[aF (bQ h1),aA];refine Sq.bind _ (Sq.of (aKQ _ he)) fun r _=>?_;by_cases h2:r>12
      ·rw[aA (bL h2)]; exact aC.2 trivial
      ·rw[aF (bQ h2),aA];refine Sq.bind _ (Sq.of (Xx fs _ hl he)) fun r _=>aC.2 trivial
    ·cases j with
     | true=>exact aC.2 (aC.2 fun h=>by cases h)
     | false=>exact aC.2 ⟨rfl,by omega,trivial⟩
   ·rw[aF (bQ hc)];refine aC.2 ?_;simp only[sel];exact aC.2 fun h=>by have:=fK h; omega
theorem Ze(fs:List aS)(hl:okL 104 dK fs):Sp (G82 fs) (fun _=>True):=(aHL fs (zL hl).1 (zL hl).2).imp fun _ _=>trivial
theorem aIX(fs:List aS)(cs ps:List Int)(e:bF)(hl:okL 104 dK fs)(he:dE e):Sp (G86 fs cs ps e) (fun r=>r.2=true->nJ fs cs ps e=some (r.1,true)):=by
 unfold G86 T86;simp only[Tr.den];refine Sq.bind _ (Ze fs hl) fun r _=>?_;split
 ·exact aC.2 fun h=>by cases h
 ·obtain⟨y,hy,_⟩:=(Iw fs cs ps e he.bnd).get;rw[hy];simp only[aI];exact aC.2 fun h=>by rw[show (y.1,true)=y from Prod.ext rfl h.symm]
theorem aMV(fs:List aS)(e:bF)(cs:List Int)(hl:okL 104 dK fs)(he:dE e):Sp (G85 fs e cs) (fun r=>r=true->nJ fs cs [] e=some (2,true)):=by
 unfold G85 T85;simp only[Tr.den];refine Sq.bind _ (aIX fs cs [] e hl he) fun r hr=>?_;refine Sq.bind (fun j:Bool=>j=true->r.2=true/\r.1=2) (bK (fun h=>aC.2 fun h2=>⟨h,dP.1 h2⟩) (fun _=>aC.2 fun h=>by cases h)) fun j D=>aC.2 fun h=>by
  have h1:=hr (D h).1
  rwa [(D h).2]at h1
theorem sqf{α:Type}{x:Option α}{Q:α->Prop}:Sq false x Q↔∀ y,x=some y->Q y:=⟨fun h=>h.1,fun h=>⟨h,fun D=>by cases D⟩⟩
theorem eK{α:Type}{c:Prop}[Decidable c]{x:Option α}{Q:α->Prop}(h:c->Sq false x Q):Sq false (if c then x else none) Q:=by
 by_cases hc:c
 ·simp_all
 ·rw[aF hc]; exact sqf.2 fun y hy=>by cases hy
section
variable {P:Program} {A R:Type}
theorem Me{C:A->Option R->Prop}(D:∀ a,C a none)(B:{f:A->Option R // ∀ a,C a (f a)}->A->Tr P R)(ok:∀ f a,C a (B f a).den)(Q:A->R->Prop)
  (h:∀ f a,(∀ a',Sq false (f.1 a') (Q a'))->Sq false (B f a).den (Q a))(a:A):Sq false (rT D B ok a) (Q a):=by
 have h1:∀ k a,Sq false ((aMR D B ok k).1 a) (Q a):=by
  intro k
  induction k with
  | zero=>intro a; exact sqf.2 fun y hy=>by cases hy
  | succ k ih=>intro a; exact h _ _ ih
 unfold rT Lim;split
 ·grind
 ·exact sqf.2 fun y hy=>by cases hy
end
def TyV(t:Int)(v:aE):Prop:=v.Kind=t/\(t≠1->v.S.toList=(⟨#[]⟩:ByteArray).toList)/\(t=1->v.N=0/\v.S.size<=200)/\(t=2->v.N=0\/v.N=1)/\0<=t/\t<=2
theorem zD(n:Int):TyV 0 (vI n):=⟨rfl,fun _=>rfl,(fun h=>by cases h),(fun h=>by cases h),by decide,by decide⟩
theorem Bv(b:Bool):TyV 2 (vB b):=⟨rfl,fun _=>rfl,(fun h=>by cases h),(fun _=>by cases b with | false=>exact .inl rfl | true=>exact .inr rfl),by decide,by decide⟩
theorem aVK{s:ByteArray}(h:s.size<=200):TyV 1 (vT s):=⟨rfl,fun h=>absurd rfl h,fun _=>⟨rfl,h⟩,(fun h=>by cases h),by decide,by decide⟩
theorem aFD(s:ByteArray)(k:Nat)(h:k<=200):(s.extract 0 k).size<=200:=by rw[ByteArray.size_extract]; omega
def tyB(op:Int):Int:=if op<=12 then 0 else if op<=18 then 2 else 1
theorem aGA(op:Int)(a b:aE)(h:8<=op/\op<=19):TyV (tyB op) (bop op a b):=by
 have hs:op=8\/op=9\/op=10\/op=11\/op=12\/op=13\/op=14\/op=15\/op=16\/op=17\/op=18\/op=19:=by omega
 rcases hs with h | h | h | h | h | h | h | h | h | h | h | h
 all_goals subst h
 all_goals unfold bop
 ·exact zD _
 ·exact zD _
 ·exact zD _
 ·show TyV 0 (if b.N=0 then vI 0 else vI (IntKind.i64.wrap (Int.tdiv a.N b.N)));split <;> exact zD _
 ·show TyV 0 (if b.N=0 then vI 0 else vI (Int.tmod a.N b.N));split <;> exact zD _
 ·exact Bv _
 ·exact Bv _
 ·exact Bv _
 ·exact Bv _
 ·exact Bv _
 ·exact Bv _
 ·exact aVK (aFD _ _ (by omega))
theorem aTO(p:bY):Sq false (Sc p) (TyV 1):=by
 by_cases h:p.a_.S.size+p.b_.S.size<=9223372036854775807
 ·rw[No p h]; exact aC.2 (aGA 19 p.a_ p.b_ (by decide))
 ·unfold Sc aFA;simp only[Tr.den];exact eK fun D=>absurd D (by omega)
inductive TyE (fs:List aS)(cs ps:List Int):bF->Int->Prop
 | mk {e:bF} {t:Int} (ts:List Int) (hl:ts.length=e.Args.length) (hb:e.Args.length<=1048576) (ho:0<=e.Op/\e.Op<=22)
   (hA:∀ i,i<e.Args.length->TyE fs cs ps (e.Args.getD i default) (ts.getD i default))
   (o0:e.Op=0\/e.Op=5\/e.Op=7\/e.Op=20->t=0) (o1:e.Op=1->t=1/\e.S.size<=200) (o2:e.Op=2\/e.Op=6->t=2) (ob:8<=e.Op/\e.Op<=19->2<=e.Args.length/\t=tyB e.Op)
   (o3:e.Op=3->(0<=e.N/\e.N<cs.length)/\t=cs.getD e.N.toNat default) (o4:e.Op=4->(0<=e.N/\e.N<ps.length)/\t=ps.getD e.N.toNat default)
   (o21:e.Op=21->(3<=e.Args.length)/\ts.getD 1 default=t/\ts.getD 2 default=t)
   (o22:e.Op=22->(0<=e.N/\e.N<fs.length)/\ts=(fs.getD e.N.toNat default).Params/\t=(fs.getD e.N.toNat default).Result)
   (oc:13<=e.Op/\e.Op<=16->ts.getD 0 default=ts.getD 1 default):TyE fs cs ps e t
def TyR(ts:List Int)(row:List aE):Prop:=∀ i,i<ts.length->TyV (ts.getD i default) (row.getD i default)
def aGD(fs:List aS):Prop:=∀ i,i<fs.length->TyE fs [] (fs.getD i default).Params (fs.getD i default).Body (fs.getD i default).Result
theorem aAA(f:fF)(e:bF):Sq false (Ty f e) (fun v=>∀ cs ps t,TyR cs f.row_->TyR ps f.params_->aGD f.funcs_->TyE f.funcs_ cs ps e t->TyV t v):=by
 refine Me (C:=fun (a:fF×bF) (x:Option (aE))=>Con Proofs.Tryz.prog 171 [.t (iS a.1),.t (cJ a.2)] x (fun (y:aE)=>.t (bZ y))) (fun a=>⟨bM Proofs.Tryz.func171 (by rfl),fun _ h=>nomatch h⟩) (fun rec a=>Qg rec a.1 a.2) (fun rec a=>Eu rec a.1 a.2)
  (fun a v=>∀ cs ps t,TyR cs a.1.row_->TyR ps a.1.params_->aGD a.1.funcs_->TyE a.1.funcs_ cs ps a.2 t->TyV t v) (fun r a Q=>?_) (f,e)
 clear f e;obtain⟨f,e⟩:=a;simp only at Q ⊢;refine sqf.2 fun y hy cs ps t Z hpar hfs he=>?_;revert y;refine sqf.1 ?_;cases he with
 | mk ts hl hb ho hA o0 o1 o2 ob o3 o4 o21 o22 oc=>
 have hr:∀ i,i<e.Args.length->Sq false (r.1 (f,e.Args.getD i default)) (TyV (ts.getD i default)):=fun i hi=>(Q (f,e.Args.getD i default)).imp fun v hv=>hv cs ps _ Z hpar hfs (hA i hi);unfold Qg;by_cases h21:e.Op=21
 ·obtain⟨hl3,e1,e2⟩:=o21 h21;simp only[h21,Tr.den];rw[aA (by decide),aA];refine Sq.bind _ (hr 0 (by omega)) fun v1 _=>?_;grind
 ·simp only[Tr.den];rw[aF (by simp_all)];refine bR.2 (kN (fun s:List aE×Int=>s.2) e.Args.length (by omega) (fun s=>(s.1.length:Int)=s.2/\∀ i:Nat,(i:Int)<s.2->TyV (ts.getD i default) (s.1.getD i default)) (fun s k hI hk hkN=>?_) ⟨rfl,fun i hi=>absurd hi (by omega)⟩ rfl);obtain⟨b6,v5⟩:=s;obtain⟨hbl,hbs⟩:=hI;simp only at hk hbl hbs;subst hk;unfold Ea;simp only[Tr.den,aL];by_cases hc:k<e.Args.length
  ·rw[aA bL,aA];refine Sq.bind _ (hr k hc) fun v hv=>?_;refine eK fun _=>?_;refine aC.2 ⟨rfl,hc,?_,fun i hi=>?_⟩
   ·simp only[dR,oA]; rw[aK]; omega
   ·simp only at hi;rw[aK]at hi;simp only;rw[cE];grind
  ·rw[aF bQ];refine aC.2 ?_;have hbe:b6.length=e.Args.length:=by omega
   show Sq false _ (TyV t);simp only[sel];have G:(0:Int).toNat=0:=rfl;have D:(1:Int).toNat=1:=rfl;have hop:e.Op=0\/e.Op=1\/e.Op=2\/e.Op=3\/e.Op=4\/e.Op=5\/e.Op=6\/e.Op=7\/e.Op=20\/e.Op=22\/(8<=e.Op/\e.Op<=19):=by omega
   rcases hop with h | h | h | h | h | h | h | h | h | h | h
   ·rw[aA (by rw[h]; rfl),fO]; exact aC.2 (o0 (by omega)▸zD _)
   ·simp (decide:=true) only[h,↓reduceIte];rw[(o1 h).1]; exact aC.2 (aVK (o1 h).2)
   ·simp (decide:=true) only[h,↓reduceIte,gZ];exact aC.2 (o2 (by omega)▸Bv _)
   ·obtain⟨h3,e3⟩:=o3 h;simp (decide:=true) only[h,↓reduceIte];refine eK fun _=>aC.2 ?_;rw[e3]; exact Z _ (by omega)
   ·obtain⟨h3,e3⟩:=o4 h;simp (decide:=true) only[h,↓reduceIte];refine eK fun _=>aC.2 ?_;rw[e3]; exact hpar _ (by omega)
   ·simp (decide:=true) only[h,↓reduceIte,fO];exact aC.2 (o0 (by omega)▸zD _)
   ·simp (decide:=true) only[h,↓reduceIte,gZ];exact eK fun _=>eK fun _=>aC.2 (o2 (by omega)▸Bv _)
   ·simp (decide:=true) only[h,↓reduceIte,fO];exact eK fun _=>eK fun _=>aC.2 (o0 (by omega)▸zD _)
   ·simp (decide:=true) only[h,↓reduceIte,fO];exact eK fun _=>eK fun _=>aC.2 (o0 (by omega)▸zD _)
   ·obtain⟨h3,e3,e4⟩:=o22 h;simp (decide:=true) only[h,↓reduceIte];refine eK fun _=>?_;refine Sq.bind _ (Q (_,_)) fun v hv=>aC.2 ?_;rw[e4];refine hv [] _ _ (fun i hi=>absurd hi (mX i)) ?_ hfs (hfs e.N.toNat (by omega));rw[<-e3];exact fun i hi=>hbs i (by omega)
   ·obtain⟨l2,ht⟩:=ob h;have M:0<b6.length:=by omega
    have J:1<b6.length:=by omega
    have hop:e.Op=8\/e.Op=9\/e.Op=10\/e.Op=11\/e.Op=12\/e.Op=13\/e.Op=14\/e.Op=15\/e.Op=16\/e.Op=17\/e.Op=18\/e.Op=19:=by omega
    have fin:∀ {x:Option aE} {op:Int},e.Op=op->x=some (bop op (b6.getD 0 default) (b6.getD 1 default))->Sq false x (TyV t):=fun h1 h2=>by rw[h2,ht,h1]; exact aC.2 (aGA _ _ _ (by omega))
    rcases hop with h | h | h | h | h | h | h | h | h | h | h | h
    ·simp (decide:=true) only[h,↓reduceIte];change Sq false (((some 225:Option Nat).bind _).bind _) (TyV t);simp only[aI,Tr.den,G,D];rw[aA ⟨trivial,by omega⟩,aA M,aA ⟨trivial,by omega⟩,aA J,Om];simp_all
    ·simp (decide:=true) only[h,↓reduceIte];change Sq false (((some 226:Option Nat).bind _).bind _) (TyV t);simp only[aI,Tr.den,G,D];rw[aA ⟨trivial,by omega⟩,aA M,aA ⟨trivial,by omega⟩,aA J,Nv];simp_all
    ·simp (decide:=true) only[h,↓reduceIte];change Sq false (((some 227:Option Nat).bind _).bind _) (TyV t);simp only[aI,Tr.den,G,D];rw[aA ⟨trivial,by omega⟩,aA M,aA ⟨trivial,by omega⟩,aA J,Nd];simp_all
    ·simp (decide:=true) only[h,↓reduceIte];change Sq false (((some 228:Option Nat).bind _).bind _) (TyV t);simp only[aI,Tr.den,G,D];rw[aA ⟨trivial,by omega⟩,aA M,aA ⟨trivial,by omega⟩,aA J,Pz];simp_all
    ·simp (decide:=true) only[h,↓reduceIte];change Sq false (((some 229:Option Nat).bind _).bind _) (TyV t);simp only[aI,Tr.den,G,D];rw[aA ⟨trivial,by omega⟩,aA M,aA ⟨trivial,by omega⟩,aA J,Ql];simp_all
    ·simp (decide:=true) only[h,↓reduceIte];change Sq false (((some 230:Option Nat).bind _).bind _) (TyV t);simp only[aI,Tr.den,G,D];rw[aA ⟨trivial,by omega⟩,aA M,aA ⟨trivial,by omega⟩,aA J,Na];simp_all
    ·simp (decide:=true) only[h,↓reduceIte];change Sq false (((some 231:Option Nat).bind _).bind _) (TyV t);simp only[aI,Tr.den,G,D];rw[aA ⟨trivial,by omega⟩,aA M,aA ⟨trivial,by omega⟩,aA J,Oq];simp_all
    ·simp (decide:=true) only[h,↓reduceIte];change Sq false (((some 232:Option Nat).bind _).bind _) (TyV t);simp only[aI,Tr.den,G,D];rw[aA ⟨trivial,by omega⟩,aA M,aA ⟨trivial,by omega⟩,aA J,Qd];simp_all
    ·simp (decide:=true) only[h,↓reduceIte];change Sq false (((some 233:Option Nat).bind _).bind _) (TyV t);simp only[aI,Tr.den,G,D];rw[aA ⟨trivial,by omega⟩,aA M,aA ⟨trivial,by omega⟩,aA J,Pv];simp_all
    ·simp (decide:=true) only[h,↓reduceIte];change Sq false (((some 234:Option Nat).bind _).bind _) (TyV t);simp only[aI,Tr.den,G,D];rw[aA ⟨trivial,by omega⟩,aA M,aA ⟨trivial,by omega⟩,aA J,Ok];simp_all
    ·simp (decide:=true) only[h,↓reduceIte];change Sq false (((some 235:Option Nat).bind _).bind _) (TyV t);simp only[aI,Tr.den,G,D];rw[aA ⟨trivial,by omega⟩,aA M,aA ⟨trivial,by omega⟩,aA J,Ot];simp_all
    ·simp (decide:=true) only[h,↓reduceIte];change Sq false (((some 236:Option Nat).bind _).bind _) (TyV t);simp only[aI,Tr.den,G,D];rw[aA ⟨trivial,by omega⟩,aA M,aA ⟨trivial,by omega⟩,aA J];rw[ht,h];exact Sq.bind (fun v:Int×Int×ByteArray=>TyV 1 ⟨v.1,v.2.1,v.2.2⟩) (Sq.bind _ (aTO _) fun v hv=>aC.2 hv) fun v hv=>aC.2 hv
theorem Zh(l:List Int)(n:Int):Sp (aJE l n) (fun r=>r.2=true->(0<=n/\n<l.length)/\r.1=l.getD n.toNat default):=by
 unfold aJE aPM;simp only[Tr.den];by_cases h1:n<0
 ·rw[aA (bL h1)];exact aC.2 (fun h=>by cases h)
 ·rw[aF (bQ h1)];by_cases h2:n>=(l.length:Int)
  ·simp only[aI,wH h2,gT];exact aC.2 (fun h=>by cases h)
  ·simp only[aI,kU h2,eO,eH];rw[aA,aA,Ex];exact aC.2 (fun _=>⟨by omega,rfl⟩)
theorem aUL(fs:List aS)(n:Int)(l:List Int)(hl:l.length<=1048576):Sp (aHG fs n l) (fun r=>r.2=true->(0<=n/\n<fs.length)/\l=(fs.getD n.toNat default).Params/\r.1=(fs.getD n.toNat default).Result):=by
 unfold aHG aNQ;simp only[Tr.den];by_cases h1:n<0
 ·rw[aA (bL h1)];exact aC.2 (fun h=>by cases h)
 ·rw[aF (bQ h1)];by_cases h2:n>=(fs.length:Int)
  ·simp only[aI,wH h2,gT];exact aC.2 (fun h=>by cases h)
  ·simp only[aI,kU h2,eO,eH];rw[aA];by_cases h3:((fs.getD n.toNat default).Params.length:Int)=(l.length:Int)
   ·rw[aF (by simp_all)];refine bR.2 (kN (fun s:Int=>s) l.length (by omega) (fun s=>∀ i:Nat,(i:Int)<s->l.getD i default=(fs.getD n.toNat default).Params.getD i default) (fun s k D hk J=>?_) (fun i hi=>absurd hi (by omega)) rfl);subst hk;unfold Oy;simp only[Tr.den,aL];by_cases hc:k<l.length
    ·rw[aA bL,aA,aA];split
     ·exact aC.2 (aC.2 (fun h=>by cases h))
     ·rename_i G;refine aC.2 ⟨rfl,hc,fun i hi=>?_⟩;rw[aK]at hi;grind
    ·rw[aF bQ];exact aC.2 (aC.2 (fun _=>⟨by omega,Im (by omega) fun i hi=>D i (by omega),rfl⟩))
   ·rw[aA (by simp_all)];exact aC.2 (fun h=>by cases h)
theorem aSP(fs:List aS)(cs ps:List Int)(e:bF)(he:vA e):Sp (aZU fs cs ps e) (fun r=>r.2=true->TyE fs cs ps e r.1):=by
 refine lX (C:=fun (a:(List aS)×(List Int)×(List Int)×bF) (x:Option (Int×Bool))=>Con Proofs.Tryz.prog 212 [.t (eL aW (a.1)),.t (eL bI (a.2.1)),.t (eL bI (a.2.2.1)),.t (cJ a.2.2.2)] x (fun (y:Int×Bool)=>.tup [.t (.int .i64 (y.1)),.t (.bool (y.2))])) (fun a=>⟨bM Proofs.Tryz.func212 (by rfl),fun _ h=>nomatch h⟩) (fun rec a=>Xl rec a.1 a.2.1 a.2.2.1 a.2.2.2) (fun rec a=>Nm rec a.1 a.2.1 a.2.2.1 a.2.2.2)
  (fun a=>vA a.2.2.2) (fun a=>SizeOf.sizeOf a.2.2.2) (fun a r=>r.2=true->TyE a.1 a.2.1 a.2.2.1 a.2.2.2 r.1) (fun b r a ha hrec=>?_) true (fs,cs,ps,e) he
 clear he fs cs ps e;obtain⟨fs,cs,ps,e⟩:=a;simp only at ha hrec ⊢;cases ha with
 | mk hs hl hA=>
 have hr:∀ i,i<e.Args.length->Sq b (r.1 (fs,cs,ps,e.Args.getD i default)) (fun r=>r.2=true->TyE fs cs ps (e.Args.getD i default) r.1):=fun i hi=>hrec _ (hA i hi) (sI (aM hi));unfold Xl;simp only[Tr.den];refine bR.2 (kN (fun s:List Int×Int=>s.2) e.Args.length (by omega) (fun s=>(s.1.length:Int)=s.2/\∀ i:Nat,(i:Int)<s.2->TyE fs cs ps (e.Args.getD i default) (s.1.getD i default)) (fun s k hI hk hkN=>?_) ⟨rfl,fun i hi=>absurd hi (by omega)⟩ rfl);obtain⟨b3,v2⟩:=s;obtain⟨hbl,hbs⟩:=hI;simp only at hk hbl hbs;subst hk;unfold Pp;simp only[Tr.den,aL];by_cases hc:k<e.Args.length
 ·rw[aA bL,aA];refine Sq.bind _ (hr k hc) fun v hv=>?_;by_cases hv2:v.2=true
  ·rw[aF (by simp_all),aA (by grind)];refine aC.2 ⟨rfl,hc,?_,fun i hi=>?_⟩
   ·simp only[dR,oA]; rw[aK]; omega
   ·simp only at hi ⊢;rw[aK]at hi;rw[cE];rcases Hn i k with h | h
    ·grind
    ·have:i=k:=by omega
     subst this;rw[aF,show i-b3.length=0 by omega]; exact hv hv2
  ·rw[aA (by simp_all)];exact aC.2 (aC.2 (fun h=>by cases h))
 ·rw[aF bQ];refine aC.2 ?_;have Q:b3.length=e.Args.length:=by omega
  have Z:∀ i,i<e.Args.length->TyE fs cs ps (e.Args.getD i default) (b3.getD i default):=fun i hi=>hbs i (by omega);simp only[sel];refine Sq.bind (fun s:List Int×Bool=>s.1=b3) (by split <;> exact aC.2 rfl) (fun s hsb=>?_);obtain⟨D,j6⟩:=s;simp only at hsb;subst hsb;cases j6 with
  | true=>exact aC.2 (fun h=>by cases h)
  | false=>
   simp only[eO,eH];by_cases h22:e.Op=22
   ·rw[aA (by rw[h22]; rfl)];refine Sq.bind _ (Sq.of (aUL fs e.N D (by omega))) fun r hr=>aC.2 (fun h=>?_);have h3:=hr h;exact .mk D Q (by omega) (by omega) Z (fun h=>by omega) (fun h=>by omega) (fun h=>by omega) (fun h=>by omega) (fun h=>by omega) (fun h=>by omega) (fun h=>by omega) (fun _=>h3) (fun h=>by omega)
   ·rw[aF (by simp_all),aBK];simp only[aI];by_cases hN:aEX e.Op=(D.length:Int)
    ·rw[aF (by simp_all)];have hh:(0<=e.Op/\e.Op<=21)/\(e.Op=6\/e.Op=7\/e.Op=20->1<=D.length)/\(8<=e.Op/\e.Op<=19->2<=D.length)/\(e.Op=21->3<=D.length):=by unfold aEX at hN;omega
     obtain⟨ho,c1,c2,c21⟩:=hh;clear hN;by_cases h3:e.Op=3
     ·simp (decide:=true) only[h3,↓reduceIte];refine Sq.bind _ (Sq.of (Zh cs e.N)) fun r hr=>aC.2 (fun h=>.mk D Q (by omega) (by omega) Z (fun h=>by omega) (fun h=>by omega) (fun h=>by omega) (fun h=>by omega) (fun _=>hr h) (fun h=>by omega) (fun h=>by omega) (fun h=>by omega) (fun h=>by omega))
     by_cases h4:e.Op=4
     ·simp (decide:=true) only[h4,↓reduceIte];refine Sq.bind _ (Sq.of (Zh ps e.N)) fun r hr=>aC.2 (fun h=>.mk D Q (by omega) (by omega) Z (fun h=>by omega) (fun h=>by omega) (fun h=>by omega) (fun h=>by omega) (fun h=>by omega) (fun _=>hr h) (fun h=>by omega) (fun h=>by omega) (fun h=>by omega))
     have J:∀ t:Int,e.Op≠21->(e.Op=0\/e.Op=5\/e.Op=7\/e.Op=20->t=0)->(e.Op=1->t=1/\e.S.size<=200)->(e.Op=2\/e.Op=6->t=2)->(8<=e.Op/\e.Op<=19->t=tyB e.Op)->(13<=e.Op/\e.Op<=16->D.getD 0 default=D.getD 1 default)->TyE fs cs ps e t:=fun t q1 q2 q3 q4 q5 q6=>
      .mk D Q (by omega) (by omega) Z q2 q3 q4 (fun h=>⟨by omega,q5 h⟩) (fun h=>absurd h h3) (fun h=>absurd h h4) (fun h=>absurd h q1) (fun h=>absurd h h22) q6
     by_cases hu:e.Op=0\/e.Op=1\/e.Op=2\/e.Op=5
     ·rcases hu with h | h | h | h
      ·simp (decide:=true) only[h,↓reduceIte]
       repeat' (first | exact aC.2 (fun _=>J 0 (by omega) (fun _=>rfl) (fun _=>by omega) (fun _=>by omega) (fun _=>by omega) (fun _=>by omega)) | exact aC.2 (fun h=>by cases h) | split)
      ·simp (decide:=true) only[h,↓reduceIte]
       repeat' (first | exact aC.2 (fun hd=>J 1 (by omega) (fun _=>by omega) (fun _=>⟨rfl,by have:=fK hd; omega⟩) (fun _=>by omega) (fun _=>by omega) (fun _=>by omega)) | exact aC.2 (fun h=>by cases h) | split)
      ·simp (decide:=true) only[h,↓reduceIte]
       repeat' (first | exact aC.2 (fun _=>J 2 (by omega) (fun _=>by omega) (fun _=>by omega) (fun _=>by omega) (fun _=>by omega) (fun _=>by omega)) | exact aC.2 (fun h=>by cases h) | split)
      ·simp (decide:=true) only[h,↓reduceIte]
       repeat' (first | exact aC.2 (fun _=>J 0 (by omega) (fun _=>rfl) (fun _=>by omega) (fun _=>by omega) (fun _=>by omega) (fun _=>by omega)) | exact aC.2 (fun h=>by cases h) | split)
     by_cases hu1:e.Op=6\/e.Op=7\/e.Op=20
     ·have g0:(0:Int)<(D.length:Int):=by omega
      have G:Int.toNat 0<D.length:=by omega
      rcases hu1 with h | h | h
      ·simp (decide:=true) only[h,g0,G,mU,↓reduceIte]
       repeat' (first | exact aC.2 (fun _=>J 2 (by omega) (fun _=>by omega) (fun _=>by omega) (fun _=>by omega) (fun _=>by omega) (fun _=>by omega)) | exact aC.2 (fun h=>by cases h) | split)
      ·simp (decide:=true) only[h,g0,G,mU,↓reduceIte]
       repeat' (first | exact aC.2 (fun _=>J 0 (by omega) (fun _=>rfl) (fun _=>by omega) (fun _=>by omega) (fun _=>by omega) (fun _=>by omega)) | exact aC.2 (fun h=>by cases h) | split)
      ·simp (decide:=true) only[h,g0,G,mU,↓reduceIte]
       repeat' (first | exact aC.2 (fun _=>J 0 (by omega) (fun _=>rfl) (fun _=>by omega) (fun _=>by omega) (fun _=>by omega) (fun _=>by omega)) | exact aC.2 (fun h=>by cases h) | split)
     have l2:2<=D.length:=by omega
     have g0:(0:Int)<(D.length:Int):=by omega
     have G:Int.toNat 0<D.length:=by omega
     have g1:(1:Int)<(D.length:Int):=by omega
     have g1':Int.toNat 1<D.length:=by omega
     have hop:e.Op=8\/e.Op=9\/e.Op=10\/e.Op=11\/e.Op=12\/e.Op=13\/e.Op=14\/e.Op=15\/e.Op=16\/e.Op=17\/e.Op=18\/e.Op=19\/e.Op=21:=by omega
     have M:∀ t:Int,(8<=e.Op/\e.Op<=19)->t=tyB e.Op->(13<=e.Op/\e.Op<=16->D.getD 0 default=D.getD 1 default)->TyE fs cs ps e t:=fun t q1 q2 q3=>J t (by omega) (fun _=>by omega) (fun _=>by omega) (fun _=>by omega) (fun _=>q2) q3;rcases hop with h | h | h | h | h | h | h | h | h | h | h | h | h
     iterate 5
      ·simp (decide:=true) only[h,g0,G,g1,g1',mU,↓reduceIte,aI]
       repeat' (first | exact aC.2 (fun _=>M 0 (by omega) (by rw[h]; rfl) fun _=>by omega) | exact aC.2 (fun h=>by cases h) | split)
     iterate 4
      ·simp (decide:=true) only[h,g0,G,g1,g1',mU,↓reduceIte,aI]
       repeat' (first | exact aC.2 (fun hq=>M 2 (by omega) (by rw[h]; rfl) fun _=>dP.1 hq) | exact aC.2 (fun h=>by cases h) | split)
     iterate 2
      ·simp (decide:=true) only[h,g0,G,g1,g1',mU,↓reduceIte,aI]
       repeat' (first | exact aC.2 (fun _=>M 2 (by omega) (by rw[h]; rfl) fun _=>by omega) | exact aC.2 (fun h=>by cases h) | split)
     ·simp (decide:=true) only[h,g0,G,g1,g1',mU,↓reduceIte,aI]
      repeat' (first | exact aC.2 (fun _=>M 1 (by omega) (by rw[h]; rfl) fun _=>by omega) | exact aC.2 (fun h=>by cases h) | split)
     have l3:=c21 h;have g2:(2:Int)<(D.length:Int):=by omega
     have g2':Int.toNat 2<D.length:=by omega
     simp (decide:=true) only[h,g0,G,g1,g1',g2,g2',mU,↓reduceIte,aI];split
     ·exact aC.2 (fun h=>by cases h)
     ·split
      ·refine aC.2 fun hq=>?_;have hq:=dP.1 hq;exact .mk D Q (by omega) (by omega) Z (fun h=>by omega) (fun h=>by omega) (fun h=>by omega) (fun h=>by omega) (fun h=>by omega) (fun h=>by omega) (fun _=>⟨by omega,rfl,hq.symm⟩) (fun h=>by omega) (fun h=>by omega)
      ·exact aC.2 (fun h=>by cases h)
    ·rw[aA (by simp_all)];exact aC.2 (fun h=>by cases h)
theorem Qp(fs:List aS)(cs ps:List Int)(e:bF)(he:vA e):Sp (nJ fs cs ps e) (fun r=>r.2=true->TyE fs cs ps e r.1):=by
 unfold nJ aOL;simp only[Tr.den];refine Sq.bind _ (aBG e he) fun r _=>?_;split
 ·exact aC.2 (fun h=>by cases h)
 ·refine Sq.bind _ (aSP fs cs ps e he) fun D h2=>?_;split
  ·exact aC.2 (fun h=>by cases h)
  ·rename_i h3;exact aC.2 (fun _=>h2 (by simp_all))
theorem TyE.mono{i:Nat}{ps:List Int}(h:TyE (fs.take i) cs ps e t):TyE fs cs ps e t:=by
 induction h with
 | @mk e t ts hl hb ho hA o0 o1 o2 ob o3 o4 o21 o22 oc ih=>refine .mk ts hl hb ho ih o0 o1 o2 ob o3 o4 o21 (fun h=>?_) oc;grind
theorem aJQ(fs:List aS)(hl:fs.length<=1048576)(hb:∀ i,i<fs.length->vA (fs.getD i default).Body/\(fs.getD i default).Params.length<=1048576):
  Sp (G82 fs) (fun ok=>ok=true->aGD fs):=by
 unfold G82 T82;simp only[Tr.den];refine bR.2 (kN (fun s:Int=>s) fs.length (by omega) (fun s=>∀ i:Nat,(i:Int)<s->TyE (fs.take i) [] (fs.getD i default).Params (fs.getD i default).Body (fs.getD i default).Result) (fun s k M hk hkN=>?_) (fun i hi=>absurd hi (by omega)) rfl);subst hk;unfold Uy;simp only[Tr.den,aL];by_cases hc:k<fs.length
 ·rw[aA bL];by_cases D:(k:Int)<=20
  ·simp only[aI,wH D,gT];rw[aA];have hp:=(hb k hc).2;refine bR.2 (kN (fun s:Int=>s) (fs.getD k default).Params.length (by omega) (fun _=>True) (fun s m _ hm Z=>?_) trivial rfl);subst hm;unfold Uu;simp only[Tr.den,aL];by_cases hm:m<(fs.getD k default).Params.length
   ·rw[aA bL,aA,Ex];simp only[aI];split
    ·exact aC.2 (aC.2 (aC.2 (fun h=>by cases h)))
    ·exact aC.2 ⟨rfl,hm,trivial⟩
   ·rw[aF bQ];refine aC.2 ?_;simp only[sel];rw[aA ⟨by omega,by omega,by omega⟩];have Q:(fs.drop (Int.toNat 0)).take ((k:Int)-0).toNat=fs.take k:=by rfl
    rw[Q,aA ⟨by omega,by omega,by omega⟩];refine Sq.bind _ (Sq.of (Qp (fs.take k) [] (fs.getD k default).Params (fs.getD k default).Body (hb k hc).1)) fun G h5=>?_;by_cases ho:G.2=true
    ·rw[aF (by simp_all)];refine Sq.bind (fun j:Bool=>j=false->G.1=(fs.getD k default).Result) ?_ fun J hj=>?_
     ·refine bK (fun _=>aC.2 fun h=>by cases h) fun h=>aC.2 fun _=>?_;simpa using h
     cases J with
     | true=>exact aC.2 (aC.2 (fun h=>by cases h))
     | false=>refine aC.2 ⟨rfl,hc,fun i hi=>?_⟩;rw[aK]at hi;grind
    ·rw[aA (by simp_all)];exact aC.2 (aC.2 (fun h=>by cases h))
  ·simp only[aI,kU D,eO,eH];refine aC.2 (aC.2 (fun h=>?_));grind
 ·rw[aF bQ];simp only[aI,eO,eH];refine aC.2 (aC.2 (fun h i hi=>(M i (by omega)).mono))
theorem aOG{n:Nat}(hf:okL n dK fs)(h:G82 fs=some true)(he:dE e)(D:nJ fs cs [] e=some (t,true))
  (tm:Int){row:List aE}(hr:TyR cs row){v:aE}(hv:vZ fs e tm row=some v):TyV t v:=by
 obtain⟨hl,hb⟩:=zL hf;have h1:=(aJQ fs hl hb).1 _ h rfl;have h2:=(Qp fs cs [] e he.bnd).1 _ D rfl;have h3:Sq false (vZ fs e tm row) (TyV t):=by unfold vZ aJP;simp only[Tr.den];exact Sq.bind _ (aAA _ e) fun v hv=>aC.2 (hv cs [] t hr (fun i hi=>absurd hi (mX i)) h1 h2)
 exact h3.1 v hv
theorem aPX(v:aE):Sp (bAG v) (fun r=>r=true->TyV v.Kind v):=by
 unfold bAG bCR;simp only[Tr.den];refine bK (fun D=>aC.2 fun h=>?_) fun _=>bK (fun h1=>Sq.bind (fun r:Bool=>r=true->v.N=0/\v.S.size<=200) ?_ fun r hr=>aC.2 fun h=>?_)
  fun G=>Sq.bind (fun r:Bool=>r=true->v.Kind=2/\(v.N=0\/v.N=1)/\v.S.toList=(⟨#[]⟩:ByteArray).toList) ?_ fun r hr=>aC.2 fun h=>?_
 ·have D:=dP.1 D;exact⟨rfl,fun _=>dP.1 h,fun h1=>by omega,fun h1=>by omega,by omega,by omega⟩
 ·exact bK (fun h=>aC.2 fun h2=>⟨dP.1 h,by have:=fK h2; omega⟩) fun _=>aC.2 fun h=>by cases h
 ·have h1:=dP.1 h1;exact⟨rfl,fun hn=>absurd h1 hn,fun _=>hr h,fun h2=>by omega,by omega,by omega⟩
 ·exact bK (fun hk=>bK (fun D=>aC.2 fun h=>⟨dP.1 hk,.inl (dP.1 D),dP.1 h⟩) fun _=>bK (fun D=>aC.2 fun h=>⟨dP.1 hk,.inr (dP.1 D),dP.1 h⟩) fun _=>aC.2 fun h=>by cases h) fun _=>aC.2 fun h=>by cases h
 ·obtain⟨h2,h3,h4⟩:=hr h;exact⟨rfl,fun _=>h4,fun J=>by omega,fun _=>h3,by omega,by omega⟩
theorem aMY(r:List aE)(h:r.length<=1048576):Sp (aWV r) (fun q=>q=true->∀ i,i<r.length->TyV (r.getD i default).Kind (r.getD i default)):=by
 unfold aWV aWN;simp only[Tr.den,bR];refine dB (fun s:Int=>s) r.length (by omega) (fun s=>∀ i:Nat,(i:Int)<s->TyV (r.getD i default).Kind (r.getD i default)) (fun s k D hk G=>?_) (fun i hi=>absurd hi (by omega)) rfl;subst hk;unfold Yz;simp only[Tr.den,aL];by_cases hc:k<r.length
 ·rw[aA bL,aA];refine Sq.bind _ (aPX _) fun q J=>?_;cases q with
  | false=>exact aC.2 (aC.2 fun h=>by cases h)
  | true=>refine aC.2 ⟨rfl,hc,fun i hi=>?_⟩;rw[aK]at hi;grind
 ·rw[aF bQ];exact aC.2 (aC.2 fun _ i hi=>D i (by omega))
theorem bCF(r:List aE)(h:r.length<=1048576):Sp (G78 r) (fun q=>q=true->∀ i,i<r.length->TyV (r.getD i default).Kind (r.getD i default)):=by unfold G78 T78;simp only[Tr.den];refine Sq.bind (fun q:Bool=>q=true->∀ i,i<r.length->TyV (r.getD i default).Kind (r.getD i default)) ?_ fun _ h=>aC.2 h;exact bK (fun _=>Sq.bind _ (aMY r h) fun _ h=>aC.2 h) fun _=>aC.2 fun h=>by cases h
structure aTK (n:aG):Prop where
 op:0<=n.Op/\n.Op<=8
 w:n.Op=4->(1<=n.Size/\n.Size<=10000)/\(n.Kind=0\/(n.Kind=1/\(1<=n.Step/\n.Step<=10000)/\Int.tmod n.Size n.Step=0)\/(n.Kind=2/\1<=n.Step/\n.Step<=n.Size))
 t:n.Op=5->(1<=n.Size/\n.Size<=10000)/\1<=n.Keep/\n.Keep<=100
 j:n.Op=6->okB n
 a:n.Op=7->1<=n.Keep/\n.Keep<=10000
 p:n.Op=8->(1<=n.Size/\n.Size<=10000)/\1<=n.Seq.length/\n.Seq.length<=8
theorem aTA(hs:1<=s/\s<=10000)(h1:1<=t)(h:Int.tmod s t=0):t<=10000:=by rw[Int.tmod_eq_emod_of_nonneg (by omega)]at h;have:=Int.le_of_dvd (by omega) (Int.dvd_of_emod_eq_zero h);omega
theorem aNE(n:aG):Sp (G83 n) (fun r=>r=true->aTK n):=by
 have D:∀ {P:Prop} {k m:Int},n.Op=k->k≠m->n.Op=m->P:=fun h1 h2 h3=>absurd (h1.symm.trans h3) h2;unfold G83 T83;simp only[Tr.den,aTG,aI];by_cases h4:n.Op=4
 ·rw[aA (fA h4)];refine bK (fun _=>aC.2 fun h=>by cases h) fun q=>?_;have hz:1<=n.Size/\n.Size<=10000:=by simpa using q
  have mk:(n.Kind=0\/(n.Kind=1/\(1<=n.Step/\n.Step<=10000)/\Int.tmod n.Size n.Step=0)\/(n.Kind=2/\1<=n.Step/\n.Step<=n.Size))->aTK n:=fun h=>
   ⟨by omega,fun _=>⟨hz,h⟩,D h4 (by decide),D h4 (by decide),D h4 (by decide),D h4 (by decide)⟩
  refine bK (fun h0=>aC.2 fun _=>mk (.inl (dP.1 h0))) fun _=>bK (fun h1=>bK (fun _=>aC.2 fun h=>by cases h) fun h2=>?_) fun _=>bK (fun h2=>aC.2 fun h=>mk (.inr (.inr ⟨dP.1 h2,fK h⟩))) fun _=>aC.2 fun h=>by cases h
  have h2:=vY h2;exact oN (by omega) (aC.2 fun h=>mk (.inr (.inl ⟨dP.1 h1,⟨by omega,aTA hz (by omega) (dP.1 h)⟩,dP.1 h⟩)))
 ·rw[aF (dJ h4)];by_cases Q:n.Op=5
  ·rw[aA (fA Q)];refine Sq.bind (fun j:Bool=>j=true->(1<=n.Size/\n.Size<=10000)/\1<=n.Keep/\n.Keep<=100) (bK (fun q=>aC.2 fun q2=>⟨fK q,fK q2⟩) fun _=>aC.2 fun h=>by cases h) fun j Z=>aC.2 fun h=>
    ⟨by omega,D Q (by decide),fun _=>Z h,D Q (by decide),D Q (by decide),D Q (by decide)⟩
  ·rw[aF (dJ Q)];by_cases M:n.Op=6
   ·rw[aA (fA M)];refine Sq.bind (fun j:Bool=>j=true->okB n) (bK (fun q=>aC.2 fun q2=>⟨fK q,fK q2⟩) fun _=>aC.2 fun h=>by cases h) fun j Z=>aC.2 fun h=>
     ⟨by omega,D M (by decide),D M (by decide),fun _=>Z h,D M (by decide),D M (by decide)⟩
   ·rw[aF (dJ M)];by_cases J:n.Op=7
    ·rw[aA (fA J)];exact aC.2 fun h=>⟨by omega,D J (by decide),D J (by decide),D J (by decide),fun _=>fK h,D J (by decide)⟩
    ·rw[aF (dJ J)];by_cases G:n.Op=8
     ·rw[aA (fA G)];refine Sq.bind (fun j:Bool=>j=true->(1<=n.Size/\n.Size<=10000)/\1<=n.Seq.length/\n.Seq.length<=8) (bK (fun q=>aC.2 fun q2=>⟨fK q,by grind⟩) fun _=>aC.2 fun h=>by cases h) fun j Z=>aC.2 fun h=>
       ⟨by omega,D G (by decide),D G (by decide),D G (by decide),D G (by decide),fun _=>Z h⟩
     ·rw[aF (dJ G)];exact aC.2 fun h=>⟨fK h,fun h=>absurd h h4,fun h=>absurd h Q,fun h=>absurd h M,fun h=>absurd h J,fun h=>absurd h G⟩
def nIn(n:aG):Nat:=if n.Op=0 then 0 else if n.Op=3\/n.Op=6\/n.Op=7 then 2 else 1
theorem Ym(n:aG):G84 n=some (nIn n:Int):=by unfold G84 T84 nIn;simp only[Tr.den];grind
def okC(l:List Int)(m:Nat):Prop:=∀ c,c∈l->0<=c/\c<m
structure fV (fs:List aS)(n:aG)(ta tb:List Int):Prop where
 b:aTK n
 fr:G82 fs=some true
 la:1<=ta.length/\ta.length<=12
 lb:1<=tb.length/\tb.length<=12
 f:n.Op=1->n.Exprs.length=1/\nJ fs ta [] (n.Exprs.getD 0 default)=some (2,true)
 m:n.Op=2->(1<=n.Exprs.length/\n.Exprs.length<=12)/\∀ i,i<n.Exprs.length->∃ t,nJ fs ta [] (n.Exprs.getD i default)=some (t,true)
 u:n.Op=3->ta=tb
 w:n.Op=4->okC n.Key ta.length/\(∀ g,g∈n.Aggs->(0<=g.Kind/\g.Kind<4)/\(g.Kind≠0->0<=g.Col/\g.Col<ta.length)/\(g.Kind=1->ta.getD g.Col.toNat default=0))/\n.Key.length+n.Aggs.length<12
 t:n.Op=5->okC n.Key ta.length/\0<=n.Step/\n.Step<ta.length
 j:n.Op=6\/n.Op=7->okC n.Key ta.length/\okC n.Key2 tb.length/\n.Key.length=n.Key2.length/\(∀ i,i<n.Key.length->ta.getD (n.Key.getD i default).toNat default=tb.getD (n.Key2.getD i default).toNat default)/\ta.length+tb.length<=12
 p:n.Op=8->(∀ i,i<n.Seq.length->nJ fs ta [] (n.Seq.getD i default).Pred=some (2,true)/\0<=(n.Seq.getD i default).Rep/\(n.Seq.getD i default).Rep<3)/\okC n.Key ta.length/\n.Key.length<=10
theorem bDJ(a b:List Int)(ha:a.length<=1048576):Sp (G87 a b) (fun r=>r=true->a=b):=by
 unfold G87 T87;simp only[Tr.den];by_cases hl:(a.length:Int)=b.length
 ·rw[aF (Sh hl)];refine bR.2 ?_;refine dB (fun s:Int=>s) a.length (by omega) (fun s=>∀ i:Nat,(i:Int)<s->a.getD i default=b.getD i default) (fun s k D hk G=>?_) (fun i hi=>absurd hi (by omega)) rfl;subst hk;unfold aGE;simp only[Tr.den,aL];by_cases hc:k<a.length
  ·rw[aA bL,aA,aA];refine bK (fun _=>aC.2 (aC.2 fun h=>by cases h)) fun hb=>aC.2 ⟨rfl,hc,fun i hi=>?_⟩;rw[aK]at hi;grind
  ·rw[aF bQ];exact aC.2 (aC.2 fun _=>Im (by omega) fun i hi=>D i (by omega))
 ·rw[aA (So hl)]; exact aC.2 fun h=>by cases h
theorem aXD(l:List gO)(ts:List Int)(h:l.length<=1048576)(h1:1<=ts.length/\ts.length<=12):Sp (G89 l ts) (fun r=>r=true->∀ g,g∈l->(0<=g.Kind/\g.Kind<4)/\(g.Kind≠0->0<=g.Col/\g.Col<ts.length)/\(g.Kind=1->ts.getD g.Col.toNat default=0)):=by
 unfold G89 T89;simp only[Tr.den,bR];refine dB (fun s:Int=>s) l.length (by omega) (fun s=>∀ g,g∈l.take s.toNat->(0<=g.Kind/\g.Kind<4)/\(g.Kind≠0->0<=g.Col/\g.Col<ts.length)/\(g.Kind=1->ts.getD g.Col.toNat default=0)) (fun s k Z hk hkN=>?_) (by simp) rfl;subst hk;unfold aKJ;simp only[Tr.den,aL]at Z ⊢;by_cases hc:k<l.length
 ·rw[aA bL,aA];refine Sq.bind (fun j:Bool=>j=false->0<=(l.getD k default).Kind/\(l.getD k default).Kind<4) (bK (fun _=>aC.2 fun h=>by cases h) fun q1=>aC.2 fun q2=>?_) fun j G=>?_
  ·simp_all
  ·cases j with
   | true=>exact aC.2 (aC.2 fun h=>by cases h)
   | false=>
    have hk4:=G rfl;simp only[eO,eH];refine Sq.bind (fun j:Bool=>j=false->(l.getD k default).Kind≠0->0<=(l.getD k default).Col/\(l.getD k default).Col<ts.length) (bK (fun J=>bK (fun _=>aC.2 fun h=>by cases h) fun q1=>aC.2 fun q2 _=>?_) fun J=>aC.2 fun _ h=>absurd (by simp_all) h) fun j G=>?_
    ·simp_all
    ·cases j with
     | true=>exact aC.2 (aC.2 fun h=>by cases h)
     | false=>
      have D:=G rfl;simp only[eO,eH];refine Sq.bind (fun j:Bool=>j=false->(l.getD k default).Kind=1->ts.getD (l.getD k default).Col.toNat default=0) (bK (fun J=>?_) fun J=>aC.2 fun _ h=>by simp_all) fun j G=>?_
      ·have Q:=D (by simp_all);have w:IntKind.i64.wrap ((ts.length:Int)-1)=(ts.length:Int)-1:=aV;have e:(if IntKind.i64.wrap ((ts.length:Int)-1)<(if (0:Int)>(l.getD k default).Col then 0 else (l.getD k default).Col) then IntKind.i64.wrap ((ts.length:Int)-1) else (if (0:Int)>(l.getD k default).Col then 0 else (l.getD k default).Col))=(l.getD k default).Col:=by rw[w,aF (show ¬ (0:Int)>(l.getD k default).Col by omega),aF]
       simp only[e];rw[aA Q];exact aC.2 fun h _=>by simpa using h
      ·cases j with
       | true=>exact aC.2 (aC.2 fun h=>by cases h)
       | false=>refine aC.2 ⟨rfl,hc,fun g' M=>?_⟩;rw[aK,aL,aJ hc,dW,cZ]at M;grind
 ·rw[aF bQ];refine aC.2 (aC.2 fun _=>?_)
  rwa [iU (by omega)]at Z
theorem aYQ(n:aG)(a b:List Int)(h:n.Key.length<=1048576)(ha:okC n.Key a.length)(hb:okC n.Key2 b.length):Sp (G90 n a b) (fun r=>r=true->n.Key.length=n.Key2.length/\∀ i,i<n.Key.length->a.getD (n.Key.getD i default).toNat default=b.getD (n.Key2.getD i default).toNat default):=by
 unfold G90 T90;simp only[Tr.den];by_cases hl:(n.Key.length:Int)=n.Key2.length
 ·rw[aF (Sh hl)];refine bR.2 ?_;refine dB (fun s:Int=>s) n.Key.length (by omega) (fun s=>∀ i:Nat,(i:Int)<s->a.getD (n.Key.getD i default).toNat default=b.getD (n.Key2.getD i default).toNat default) (fun s k D hk G=>?_) (fun i hi=>absurd hi (by omega)) rfl;subst hk;unfold aKX;simp only[Tr.den,aL];by_cases hc:k<n.Key.length
  ·have h1:=ha _ (aM hc);have h2:=hb _ (aM (show k<n.Key2.length by omega));rw[aA bL,aA,aA h1,aA,aA h2];refine bK (fun _=>aC.2 (aC.2 fun h=>by cases h)) fun hb=>aC.2 ⟨rfl,hc,fun i hi=>?_⟩;rw[aK]at hi;grind
  ·rw[aF bQ];exact aC.2 (aC.2 fun _=>⟨by omega,fun i hi=>D i (by omega)⟩)
 ·rw[aA (So hl)]; exact aC.2 fun h=>by cases h
theorem aQI(fs:List aS)(n:aG)(ts:List (List Int))(hl:okL 104 dK fs)(hn:iO n)(h12:ts.length<=1048576)(hts:∀ t,t∈ts->t.length<=1048576):
  Sp (G34 fs n ts) (fun r=>r=true->ts.length=nIn n/\1<=ts.length/\fV fs n (ts.getD 0 default) (ts.getD (ts.length-1) default)):=by
 obtain⟨_,_,_,_,hE,_,_,_,hK,hK2,_,_,_,hA,hS,_⟩:=hn;have hE1:=hE.1;have hK1:=hK.1;have hK21:=hK2.1;have hA1:=hA.1;have hS1:=hS.1;unfold G34 T34;simp only[Tr.den];obtain⟨y,hy,_⟩:=(Ze fs hl).get;rw[hy];simp only[aI];refine Sq.bind (fun j:Bool=>j=false->y=true/\aTK n/\ts.length=nIn n/\1<=ts.length) ?_ (fun j J=>?_)
 ·cases y with
  | false=>exact aC.2 fun h=>by cases h
  | true=>
   simp only[Bool.not_true,eO,eH];refine Sq.bind _ (aNE n) fun r hr=>?_;cases r with
   | false=>exact aC.2 fun h=>by cases h
   | true=>
    simp only[Bool.not_true,eO,eH];rw[Ym n];simp only[aI];refine bK (fun _=>aC.2 fun h=>by cases h) fun q1=>aC.2 fun Z=>⟨trivial,hr rfl,?_,?_⟩
    all_goals grind
 ·cases j with
  | true=>exact aC.2 fun h=>by cases h
  | false=>
   obtain⟨hyt,hB,M,h1⟩:=J rfl;subst hyt;simp only[eO,eH];have w:IntKind.i64.wrap ((ts.length:Int)-1)=((ts.length-1:Nat):Int):=by rw[aV] <;> omega
   rw[aA,w,aA,aL,show (0:Int).toNat=0 from rfl];have hta:=hts _ (aM (show 0<ts.length by omega));have htb:=hts _ (aM (show ts.length-1<ts.length by omega));have e00:(ts.getD (Int.toNat 0) default)=ts.getD 0 default:=rfl;generalize hA':ts.getD 0 default=ta at hta;generalize hB':ts.getD (ts.length-1) default=tb at htb;refine Sq.bind (fun j:Bool=>j=false->(1<=ta.length/\ta.length<=12)/\1<=tb.length/\tb.length<=12) ?_ (fun j J=>?_)
   ·refine bK (fun _=>aC.2 fun h=>by cases h) fun q0=>bK (fun _=>aC.2 fun h=>by cases h) fun q1=>bK (fun _=>aC.2 fun h=>by cases h) fun q3=>aC.2 fun Z=>?_;grind
   ·cases j with
    | true=>exact aC.2 fun h=>by cases h
    | false=>
     obtain⟨la,lb⟩:=J rfl;simp only[eO,eH];have D:∀ {P:Prop} {k m:Int},n.Op=k->k≠m->n.Op=m->P:=fun h1 h2 h3=>absurd (h1.symm.trans h3) h2;have G:∀ {P:Prop} {k:Int},n.Op=k->k≠6->k≠7->(n.Op=6\/n.Op=7)->P:=fun h1 h2 h3 h4=>h4.elim (fun h=>absurd (h1.symm.trans h) h2) fun h=>absurd (h1.symm.trans h) h3;by_cases o1:n.Op=1
     ·rw[aA (fA o1)];refine Sq.bind (fun j:Bool=>j=true->n.Exprs.length=1/\nJ fs ta [] (n.Exprs.getD 0 default)=some (2,true)) (bK (fun q=>?_) fun _=>aC.2 fun h=>by cases h) fun j J=>aC.2 fun h=>
       ⟨M,h1,hB,hy,la,lb,fun _=>J h,D o1 (by decide),D o1 (by decide),D o1 (by decide),D o1 (by decide),G o1 (by decide) (by decide),D o1 (by decide)⟩
      have q:(n.Exprs.length:Int)=1:=by simpa using q
      refine oN (by omega) ?_;exact Sq.bind _ (Sq.of (aMV fs _ ta hl (okEs.get hE (show 0<n.Exprs.length by omega)))) fun r hr=>aC.2 fun h=>⟨by omega,hr h⟩
     ·rw[aF (dJ o1)];by_cases o2:n.Op=2
      ·rw[aA (fA o2)];refine bR.2 (dB (fun s:Int=>s) n.Exprs.length (by omega) (fun s=>∀ i:Nat,(i:Int)<s->∃ t,nJ fs ta [] (n.Exprs.getD i default)=some (t,true)) (fun s k hI hk hkN=>?_) (fun i hi=>absurd hi (by omega)) rfl);subst hk;unfold aFS;simp only[Tr.den,aL,e00,hA'];by_cases hc:k<n.Exprs.length
       ·rw[aA bL,aA];refine Sq.bind _ (Sq.of (aIX fs ta [] _ hl (okEs.get hE hc))) fun r hr=>?_;refine bK (fun _=>aC.2 (aC.2 fun h=>by cases h)) fun q=>aC.2 ⟨rfl,hc,fun i hi=>?_⟩;rw[aK]at hi;rcases Hn i k with h | h
        all_goals grind
       ·rw[aF bQ];refine aC.2 ?_;simp only[sel];refine Sq.bind (fun j:Bool=>j=true->1<=n.Exprs.length/\n.Exprs.length<=12) (bK (fun q=>aC.2 fun Z=>by grind) fun _=>aC.2 fun h=>by cases h) fun j J=>aC.2 fun h=>
         ⟨M,h1,hB,hy,la,lb,D o2 (by decide),fun _=>⟨J h,fun i hi=>hI i (by omega)⟩,D o2 (by decide),D o2 (by decide),D o2 (by decide),G o2 (by decide) (by decide),D o2 (by decide)⟩
      ·rw[aF (dJ o2)];by_cases o3:n.Op=3
       ·rw[aA (fA o3)];exact Sq.bind _ (bDJ ta tb hta) fun r hr=>aC.2 fun h=>
         ⟨M,h1,hB,hy,la,lb,D o3 (by decide),D o3 (by decide),fun _=>hr h,D o3 (by decide),D o3 (by decide),G o3 (by decide) (by decide),D o3 (by decide)⟩
       ·rw[aF (dJ o3)];by_cases o4:n.Op=4
        ·rw[aA (fA o4)];refine Sq.bind _ (Ai n.Key ta hK1) fun r hr=>?_;refine Sq.bind (fun j:Bool=>j=true->okC n.Key ta.length/\(∀ g,g∈n.Aggs->(0<=g.Kind/\g.Kind<4)/\(g.Kind≠0->0<=g.Col/\g.Col<ta.length)/\(g.Kind=1->ta.getD g.Col.toNat default=0))/\n.Key.length+n.Aggs.length<12) (bK (fun q=>?_) fun _=>aC.2 fun h=>by cases h) fun j J=>aC.2 fun h=>
          ⟨M,h1,hB,hy,la,lb,D o4 (by decide),D o4 (by decide),D o4 (by decide),fun _=>J h,D o4 (by decide),G o4 (by decide) (by decide),D o4 (by decide)⟩
         refine Sq.bind _ (aXD n.Aggs ta hA1 la) fun r2 Q=>bK (fun Z=>aC.2 fun q3=>⟨hr q,Q Z,?_⟩) fun _=>aC.2 fun h=>by cases h
         have q3:=fK q3;rw[aV]at q3;omega
        ·rw[aF (dJ o4)];by_cases o5:n.Op=5
         ·rw[aA (fA o5)];refine Sq.bind _ (Ai n.Key ta hK1) fun r hr=>?_;refine Sq.bind (fun j:Bool=>j=true->okC n.Key ta.length/\0<=n.Step/\n.Step<ta.length) (bK (fun q=>?_) fun _=>aC.2 fun h=>by cases h) fun j J=>aC.2 fun h=>
           ⟨M,h1,hB,hy,la,lb,D o5 (by decide),D o5 (by decide),D o5 (by decide),D o5 (by decide),fun _=>J h,G o5 (by decide) (by decide),D o5 (by decide)⟩
          exact Sq.bind _ (Ai [n.Step] ta (by simp)) fun r2 Q=>aC.2 fun Z=>⟨hr q,Q Z _ (by simp)⟩
         ·rw[aF (dJ o5)];by_cases o67:n.Op=6\/n.Op=7
          ·have hor:((if (n.Op==6)=true then some (n.Op==6) else some (n.Op==7)):Option Bool)=some true:=by grind
           rw[hor];simp only[aI,gT];refine Sq.bind _ (Ai n.Key ta hK1) fun r hr=>?_;refine Sq.bind (fun j:Bool=>j=true->okC n.Key ta.length/\okC n.Key2 tb.length/\n.Key.length=n.Key2.length/\(∀ i,i<n.Key.length->ta.getD (n.Key.getD i default).toNat default=tb.getD (n.Key2.getD i default).toNat default)/\ta.length+tb.length<=12) (bK (fun q=>?_) fun _=>aC.2 fun h=>by cases h) fun j J=>aC.2 fun h=>
            ⟨M,h1,hB,hy,la,lb,fun h=>absurd h o1,fun h=>absurd h o2,fun h=>absurd h o3,fun h=>absurd h o4,fun h=>absurd h o5,fun _=>J h,fun h=>o67.elim (fun h'=>by omega) fun h'=>by omega⟩
           refine Sq.bind _ (Ai n.Key2 tb hK21) fun r2 Q=>bK (fun Z=>?_) fun _=>aC.2 fun h=>by cases h
           refine Sq.bind _ (aYQ n ta tb hK1 (hr q) (Q Z)) fun r3 hr3=>bK (fun q3=>aC.2 fun q4=>⟨hr q,Q Z,(hr3 q3).1,(hr3 q3).2,?_⟩) fun _=>aC.2 fun h=>by cases h
           have q4:=fK q4;rw[aV]at q4;omega
          ·have hor:((if (n.Op==6)=true then some (n.Op==6) else some (n.Op==7)):Option Bool)=some false:=by rw[aF dJ,show (n.Op==7)=false by grind]
           rw[hor];simp only[aI,eO,eH];refine bK (fun q8=>?_) fun _=>aC.2 fun h=>by cases h
           have o8:n.Op=8:=dP.1 q8;refine bR.2 (dB (fun s:Int=>s) n.Seq.length (by omega) (fun s=>∀ i:Nat,(i:Int)<s->nJ fs ta [] (n.Seq.getD i default).Pred=some (2,true)/\0<=(n.Seq.getD i default).Rep/\(n.Seq.getD i default).Rep<3) (fun s k hI hk hkN=>?_) (fun i hi=>absurd hi (by omega)) rfl);subst hk;unfold aLT;simp only[Tr.den,aL,e00,hA'];by_cases hc:k<n.Seq.length
           ·rw[aA bL,aA];refine Sq.bind _ (Sq.of (aMV fs _ ta hl (hS.2 _ (aM hc)).1)) fun r hr=>?_;refine Sq.bind (fun j:Bool=>j=false->r=true/\0<=(n.Seq.getD k default).Rep/\(n.Seq.getD k default).Rep<3) ?_ (fun j J=>?_)
            ·refine bK (fun _=>aC.2 fun h=>by cases h) fun q0=>oN (by omega) (bK (fun _=>aC.2 fun h=>by cases h) fun q1=>oN (by omega) (aC.2 fun Z=>?_));grind
            ·cases j with
             | true=>exact aC.2 (aC.2 fun h=>by cases h)
             | false=>have J:=J rfl;refine aC.2 ⟨rfl,hc,fun i hi=>?_⟩;rw[aK]at hi;grind
           ·rw[aF bQ];refine aC.2 ?_;simp only[sel];refine Sq.bind _ (Ai n.Key ta hK1) fun r hr=>?_;refine Sq.bind (fun j:Bool=>j=true->okC n.Key ta.length/\n.Key.length<=10) (bK (fun q=>aC.2 fun Z=>⟨hr q,by grind⟩) fun _=>aC.2 fun h=>by cases h) fun j J=>aC.2 fun h=>
             ⟨M,h1,hB,hy,la,lb,D o8 (by decide),D o8 (by decide),D o8 (by decide),D o8 (by decide),D o8 (by decide),G o8 (by decide) (by decide),fun _=>⟨fun i hi=>hI i (by omega),J h⟩⟩
structure Qh (ts:List Int)(l:List aB)(m:Nat):Prop where
 len:l.length<=m
 t:∀ d,d∈l->0<=d.Time/\d.Time<=2199023255552
 n:∀ d,d∈l->1<=d.N/\d.N<=5
 r:∀ d,d∈l->d.Row.length=ts.length/\TyR ts d.Row
theorem Zf(l:List aB)(ts:List Int)(m:Nat)(hm:m<=1000)(hl:okL 40 dX l)(ht:ts.length<=1048576):Sp (G30 l ts (m:Int)) (fun r=>r=true->Qh ts l m):=by
 have hl1:=hl.1;unfold G30 T30;simp only[Tr.den,bR];refine dB (fun s:Int=>s) l.length (by omega) (fun s=>∀ d,d∈l.take s.toNat->(0<=d.Time/\d.Time<=2199023255552)/\(1<=d.N/\d.N<=5)/\d.Row.length=ts.length/\TyR ts d.Row) (fun s k G hk hkN=>?_) (by simp) rfl;subst hk;unfold aHQ;simp only[Tr.den,aL,nT,aI]at G ⊢;by_cases hc:k<l.length/\k<=m
 ·have hx:=hl.2 _ (aM hc.1);rw[aA bL,aA];refine Sq.bind (fun j:Bool=>j=false->(0<=(l.getD k default).Time/\(l.getD k default).Time<=2199023255552)/\(1<=(l.getD k default).N/\(l.getD k default).N<=5)/\(l.getD k default).Row.length=ts.length/\∀ i,i<(l.getD k default).Row.length->TyV ((l.getD k default).Row.getD i default).Kind ((l.getD k default).Row.getD i default)) ?_ (fun j hj=>?_)
  ·refine bK (fun _=>aC.2 fun h=>by cases h) fun q1=>oN (by omega) (bK (fun _=>aC.2 fun h=>by cases h) fun q2=>oN (by omega) (bK (fun _=>aC.2 fun h=>by cases h) fun q3=>oN (by omega) (bK (fun _=>aC.2 fun h=>by cases h) fun q4=>oN (by omega) (bK (fun _=>aC.2 fun h=>by cases h) fun q5=>oN (by omega) (Sq.bind _ (Sq.of (bCF _ hx.2.1.1)) fun r hr=>aC.2 fun Z=>?_)))));grind
  ·cases j with
   | true=>exact aC.2 (aC.2 fun h=>by cases h)
   | false=>
    obtain⟨j1,j2,J,M⟩:=hj rfl;simp only[eO,eH];refine bR.2 ?_;refine dB (fun s:Int=>s) ts.length (by omega) (fun s=>∀ i:Nat,(i:Int)<s->((l.getD k default).Row.getD i default).Kind=ts.getD i default) (fun s q hJ Z hqN=>?_) (fun i hi=>absurd hi (by omega)) rfl;subst Z;unfold aKS;simp only[Tr.den,aL];by_cases Q:q<ts.length
    ·rw[aA bL,aA,aA,aA];refine bK (fun _=>aC.2 (aC.2 (aC.2 fun h=>by cases h))) fun hb=>aC.2 ⟨rfl,Q,fun i hi=>?_⟩;rw[aK]at hi;grind
    ·rw[aF bQ];refine aC.2 (aC.2 ⟨rfl,hc.1,fun d D=>?_⟩);rw[aK,aL,aJ hc.1,dW,cZ]at D;rcases D with D | rfl
     ·exact G d D
     ·refine⟨j1,j2,J,fun i hi=>?_⟩;have h1:=M i (by omega)
      rwa [hJ i (by omega)]at h1
 ·rw[aF bQ];refine aC.2 (aC.2 fun h=>?_);have h:=fK h;rw[iU (by omega)]at G;exact⟨by omega,fun d D=>(G d D).1,fun d D=>(G d D).2.1,fun d D=>(G d D).2.2⟩
theorem aVD(fs:List aS)(n:aG)(a b:List aB)(ts:List (List Int))(m:Nat)(hm:m<=1000)(hl:okL 104 dK fs)(hn:iO n)(ha:okL 40 dX a)(hb:okL 40 dX b)(h12:ts.length<=1048576)(G:∀ t,t∈ts->t.length<=1048576):
  Sp (aXC fs n a b ts (m:Int)) (fun r=>r.2=true->∃ ta tb,fV fs n ta tb/\n.Key.length<=20/\Qh ta a m/\(n.Size<=IntKind.i64.wrap (400*(if (1:Int)>n.Step then 1 else n.Step))\/n.Kind≠1\/n.Op≠4)/\((ts=[ta]/\ta=tb/\nIn n=1/\r.1=[cons a])\/(ts=[ta,tb]/\nIn n=2/\Qh tb b m/\r.1=[cons a,cons b]))):=by
 unfold aXC aWX;simp only[Tr.den];refine Sq.bind _ (Sq.of (aUP fs n hl hn)) fun r1 h33=>?_;refine Sq.bind (fun j:Bool=>j=false->n.Key.length<=20/\ts.length=nIn n/\1<=ts.length/\fV fs n (ts.getD 0 default) (ts.getD (ts.length-1) default)) ?_ (fun j hj=>?_)
 ·refine bK (fun _=>aC.2 fun h=>by cases h) fun q33=>?_;have D:=(h33 (by simp_all)).1;rw[Ym];simp only[aI];refine bK (fun _=>aC.2 fun h=>by cases h) fun _=>?_;refine Sq.bind _ (Sq.of (aQI fs n ts hl hn h12 G)) fun r hr=>bK (fun _=>aC.2 fun h=>by cases h) fun q=>aC.2 fun _=>⟨D,hr (by simpa using q)⟩
 ·cases j with
  | true=>exact aC.2 fun h=>by cases h
  | false=>
   obtain⟨D,h1,h2,M⟩:=hj rfl;simp only[eO,eH];have hta:=G _ (aM (show 0<ts.length by omega));rw[aA,show (0:Int).toNat=0 from rfl];refine Sq.bind _ (Sq.of (Zf a (ts.getD 0 default) m hm ha hta)) fun r hr=>?_;refine bK (fun _=>aC.2 fun h=>by cases h) fun q=>?_;have hF:=hr (by simpa using q);have oa:okD a:=dX.okd ha;have ob:okD b:=dX.okd hb;rw[kZ a oa (by have:=hF.len; omega)];simp only[aI];have Z:∀ (tb:List Int) (l:List (List aB)),fV fs n (ts.getD 0 default) tb->((ts=[ts.getD 0 default]/\ts.getD 0 default=tb/\nIn n=1/\l=[cons a])\/(ts=[ts.getD 0 default,tb]/\nIn n=2/\Qh tb b m/\l=[cons a,cons b])) ->
     Sp ((if decide (n.Size<=IntKind.i64.wrap (400*(if (1:Int)>n.Step then 1 else n.Step)))=true then some (l,true) else if (n.Kind != 1)=true then some (l,true) else some (l,n.Op != 4)).bind fun v=>some (v.1,v.2)) (fun r=>r.2=true->∃ ta tb,fV fs n ta tb/\n.Key.length<=20/\Qh ta a m/\(n.Size<=IntKind.i64.wrap (400*(if (1:Int)>n.Step then 1 else n.Step))\/n.Kind≠1\/n.Op≠4)/\((ts=[ta]/\ta=tb/\nIn n=1/\r.1=[cons a])\/(ts=[ta,tb]/\nIn n=2/\Qh tb b m/\r.1=[cons a,cons b]))):=fun tb l M hl=>by
    refine bR.2 (bK (fun q=>aC.2 (aC.2 fun _=>⟨_,tb,M,D,hF,.inl (fK q),hl⟩)) fun _=>bK (fun q=>aC.2 (aC.2 fun _=>⟨_,tb,M,D,hF,.inr (.inl (by simpa using q)),hl⟩)) fun _=>aC.2 (aC.2 fun q=>⟨_,tb,M,D,hF,.inr (.inr (by simpa using q)),hl⟩))
   by_cases h22:ts.length=2
   ·obtain⟨ta,tb,rfl⟩:∃ ta tb,ts=[ta,tb]:=by
     match ts,h22 with
     | [ta,tb],_=>simp_all
    have Q:([ta,tb]:List (List Int)).getD 0 default=ta:=rfl;have e1:([ta,tb]:List (List Int)).getD (([ta,tb]:List (List Int)).length-1) default=tb:=rfl;have e2:([ta,tb]:List (List Int)).getD (1:Int).toNat default=tb:=rfl;rw[Q,e1]at M;simp only[Q]at Z hF;rw[aA (fA (by simp)),aA (by simp),e2];refine Sq.bind (fun z=>z = .inr ([],false)\/(Qh tb b m/\z = .inl ([cons a]++[cons b]))) ?_ fun z hz=>?_
    ·refine Sq.bind _ (Sq.of (Zf b tb m hm hb (G _ (by simp)))) fun r hr=>?_;refine bK (fun _=>aC.2 (.inl rfl)) fun q=>?_;have J:=hr (by simpa using q);rw[kZ b ob (by have:=J.len; omega)];simp only[aI];rw[aA (by simp)];exact aC.2 (.inr ⟨J,rfl⟩)
    ·rcases hz with rfl | ⟨J,rfl⟩
     ·exact aC.2 fun h=>by cases h
     ·simp only[sel];simp_all
   ·obtain⟨ta,rfl⟩:∃ ta,ts=[ta]:=by
     have h3:ts.length=1:=by unfold nIn at h1;grind
     exact Kw.1 h3
    have Q:([ta]:List (List Int)).getD 0 default=ta:=rfl;have e1:([ta]:List (List Int)).getD (([ta]:List (List Int)).length-1) default=ta:=rfl;rw[Q,e1]at M;simp only[Q]at Z;rw[aF (dJ (by simp))];simp only[aI,sel];simp_all
theorem aDP{α:Type}{d:α}{u v:List α}(hv:v≠[]):(u++v).getLastD d=v.getLastD d:=by
 rcases List.eq_nil_or_concat v with rfl | ⟨w,z,rfl⟩
 all_goals simp_all
section
variable {α:Type} [Inhabited α] (tm:α->Int) (nx:Int->α->Int) (hit:Int->Bool) (sz bg:Int)
def pU:List α->Option (Int×Int)
 | []=>none
 | q::qs=>if isM tm nx hit sz (tm q) bg (q::qs)=true then some (tm q,((q::qs).length:Int)) else pU qs
theorem Jz:∀ (u v:List α),v≠[]->(∀ x,x∈u->¬ tm (v.getLastD default)-tm x<sz)->pU tm nx hit sz bg (u++v)=pU tm nx hit sz bg v
 | [],v,_,_=>rfl
 | q::u,v,hv,h=>by rw[vM,pU,if_neg,Jz u v hv fun x hx=>h x (cO _ hx)];unfold isM;have e:(q::(u++v)).getLastD default=v.getLastD default:=aDP (u:=q::u) hv;grind
theorem Fe:∀ (i:Int) (qs:List α) (k:Nat),k<qs.length->(pU tm nx hit sz bg (qs.take (k+1))=none/\Ig tm nx hit sz bg i qs k = -1) \/
  (∃ j:Nat,j<=k/\Ig tm nx hit sz bg i qs k=i+j/\pU tm nx hit sz bg (qs.take (k+1))=some (tm (qs.getD j default),(k:Int)-j+1))
 | i,[],k,hk=>by simp at hk
 | i,q::qs,0,hk=>by
  rw[show (q::qs).take (0+1)=[q] from rfl,pU];unfold Ig;by_cases h:isM tm nx hit sz (tm q) bg [q]=true
  ·simp_all
  ·rw[aF h,aF h];exact .inl ⟨rfl,rfl⟩
 | i,q::qs,k+1,hk=>by
  have hk':k<qs.length:=by simp_all
  have ih:=Fe (i+1) qs k hk';rw[aBU,pU];unfold Ig;rw[aBU];by_cases h:isM tm nx hit sz (tm q) bg (q::qs.take (k+1))=true
  ·grind
  ·rw[aF h,aF h];rcases ih with⟨h1,h2⟩ | ⟨j,h1,h2,h3⟩
   ·simp_all
   ·refine .inr ⟨j+1,by omega,by omega,?_⟩;rw[h3,List.getD_cons_succ]
    congr 2
    omega
end
def Da(n:aG)(key:List aE)(L:List dY):List aB:=match pU dY.time_ (nxF n) (Jg n) n.Size (tN n 1) L with
 | some (t,m)=>[⟨(L.getLastD default).time_,key++[vI t,vI m],1⟩]
 | none=>[]
def iI(n:aG)(key:List aE)(lo:Int):List dY->List dY->List aB
 | _,[]=>[]
 | u,q::qs=>(if lo<=q.time_ then Da n key (u++[q]) else [])++iI n key lo (u++[q]) qs
theorem Ho(n:aG)(key:List aE)(lo:Int):∀ (u a b:List dY),iI n key lo u (a++b)=iI n key lo u a++iI n key lo (u++a) b
 | u,[],b=>by rw[kK,eQ]; rfl
 | u,q::a,b=>by rw[vM,iI,iI,Ho n key lo (u++[q]) a b,cR,cR];rfl
theorem uI(u:List dY)(q:dY):(u++[q]).getLastD default=q:=by simp_all
noncomputable def plA (fs:List aS)(n:aG)(l:List aB):List dY:=l.flatMap (plD fs n)
theorem TS.filter{l:List aB}(h:TS l)(p:aB->Bool):TS (l.filter p):=List.Pairwise.filter p h
def Rp(k:Nat)(s:Int)(S:Nat->Prop):Prop:=∃ a:Nat,s=(a:Int)/\a<2 ^ k/\∀ p,a.testBit p=true↔S p
theorem Rp.congr{T:Nat->Prop}(h:Rp k s S)(e:∀ p,S p↔T p):Rp k s T:=by obtain⟨a,h1,h2,h3⟩:=h;exact⟨a,h1,h2,fun p=>(h3 p).trans (e p)⟩
theorem Rp.mono(h:Rp k s S)(D:k<=j):Rp j s S:=by obtain⟨a,h1,h2,h3⟩:=h;exact⟨a,h1,Cl h2 (Mo (by decide) D),h3⟩
theorem kS(hk:k<=20)(h:a<2 ^ k):a<1048576:=Cl h (Mo (n:=2) (by decide) hk)
theorem Ro{b:Nat}(ha:a<1048576)(hb:b<1048576):yC .i64 (a:Int) (b:Int)=((a &&& b:Nat):Int):=by
 unfold yC;have e:(BitVec.ofInt IntKind.i64.bits (a:Int) &&& BitVec.ofInt IntKind.i64.bits (b:Int)).toNat=a &&& b:=by show (BitVec.ofInt 64 (a:Int) &&& BitVec.ofInt 64 (b:Int)).toNat=a &&& b;rw[BitVec.toNat_and,Pb,Pb,Nh,Nh,Iq (by omega),Iq (by omega)]
 rw[e];exact tL (by have:a &&& b<=a:=Nat.and_le_left; omega)
theorem aLS{b:Nat}(hk:k<=20)(ha:a<2 ^ k)(hb:b<2 ^ k):Pg .i64 (a:Int) (b:Int)=((a ||| b:Nat):Int):=by
 have J:=kS hk ha;have D:=kS hk hb;have G:=kS hk (Nat.or_lt_two_pow ha hb);unfold Pg;have e:(BitVec.ofInt IntKind.i64.bits (a:Int) ||| BitVec.ofInt IntKind.i64.bits (b:Int)).toNat=a ||| b:=by show (BitVec.ofInt 64 (a:Int) ||| BitVec.ofInt 64 (b:Int)).toNat=a ||| b;rw[BitVec.toNat_or,Pb,Pb,Nh,Nh,Iq (by omega),Iq (by omega)]
 rw[e];exact tL (by omega)
theorem Rp.and{T:Nat->Prop}(h:Rp k s S)(J:Rp j t T)(hk:k<=20)(G:j<=20):Rp j (yC .i64 s t) (fun p=>S p/\T p):=by obtain⟨a,rfl,h2,h3⟩:=h;obtain⟨b,rfl,D,M⟩:=J;refine⟨a &&& b,Ro (kS hk h2) (kS G D),Nat.lt_of_le_of_lt Nat.and_le_right D,fun p=>?_⟩;rw[Nat.testBit_and,cQ,h3,M]
theorem Rp.or{T:Nat->Prop}(h:Rp k s S)(G:Rp k t T)(hk:k<=20):Rp k (Pg .i64 s t) (fun p=>S p\/T p):=by obtain⟨a,rfl,h2,h3⟩:=h;obtain⟨b,rfl,D,J⟩:=G;refine⟨a ||| b,aLS hk h2 D,Nat.or_lt_two_pow h2 D,fun p=>?_⟩;rw[Nat.testBit_or,qA,h3,J]
theorem aBI(D:j<=20)(ha:a<1048576):zW .i64 (a:Int) (j:Int)=((a*2 ^ j:Nat):Int):=by
 unfold zW;have hm:min ((j:Int)).toNat IntKind.i64.bits=j:=by rw[aL]; exact Nat.min_eq_left (by show j<=64; omega)
 rw[hm];have hp:(2:Nat) ^ j<=1048576:=Mo (n:=2) (by decide) D;have e:(a:Int)*2 ^ j=((a*2 ^ j:Nat):Int):=by rfl
 rw[e];refine tL ?_;have:=qW (Nat.le_of_lt ha) hp;omega
theorem Rp.one(h:j<k)(hk:k<=20):Rp k (zW .i64 1 (j:Int)) (fun p=>p=j):=by
 refine⟨2 ^ j,?_,Nat.pow_lt_pow_right (by decide) h,fun p=>?_⟩
 ·have:=aBI (a:=1) (j:=j) (by omega) (by omega)
  rwa [yI]at this
 grind
theorem Rp.one0(h:0<k)(hk:k<=20):Rp k 1 (fun p=>p=0):=(Rp.one h hk)
theorem Rp.zero(k:Nat):Rp k 0 (fun _=>False):=⟨0,rfl,Nat.two_pow_pos k,fun p=>by simp⟩
theorem Rp.shl(h:Rp k s S)(hk:k<20):Rp (k+1) (zW .i64 s 1) (fun p=>∃ q,S q/\p=q+1):=by
 obtain⟨a,rfl,h2,h3⟩:=h;refine⟨a*2 ^ 1,aBI (j:=1) (by omega) (kS (by omega) h2),?_,fun p=>?_⟩
 ·omega
 ·rw[Nat.testBit_mul_two_pow,cQ,jX,h3];grind
theorem Rp.test(h:Rp k s S)(hk:k<=20)(D:j<=20):((yC .i64 (bV .i64 s (j:Int)) 1==1)=true)↔S j:=by
 obtain⟨a,rfl,h2,h3⟩:=h;have ha:=kS hk h2;have e:bV .i64 (a:Int) (j:Int)=((a / 2 ^ j:Nat):Int):=by
  unfold bV;have hm:min ((j:Int)).toNat IntKind.i64.bits=j:=by rw[aL]; exact Nat.min_eq_left (by show j<=64; omega)
  grind
 have G:a / 2 ^ j<=a:=Nat.div_le_self _ _;rw[e,show (1:Int)=((1:Nat):Int) from rfl,Ro (by omega) (by omega),<-h3,dP];grind
theorem Rp.hit(h:Rp k s S)(G:j<k)(hk:k<=20):((yC .i64 s (zW .i64 1 (j:Int)) != 0)=true)↔S j:=by
 obtain⟨a,Q,Z,M⟩:=h.and (Rp.one G hk) hk hk;rw[Q,bne_iff_ne];constructor
 ·intro D;have:a≠0:=fun J=>D (by omega);obtain⟨p,hp⟩:=Nat.exists_testBit_of_ne_zero this;grind
 ·intro hs J;have:a=0:=by omega
  have hb:=(M j).2 ⟨hs,rfl⟩;rw[this,Nat.zero_testBit]at hb;cases hb
section
variable {α:Type} (K:Nat) (rep:Nat->Int) (ok:α->Nat->Prop)
def Skp(p q:Nat):Prop:=p<=q/\∀ r,p<=r->r<q->r<K/\rep r=2
def pQ:List α->Nat->Prop
 | [],p=>Skp K rep p K
 | x::s,p=>∃ q,Skp K rep p q/\q<K/\ok x q/\(pQ s (q+1)\/(rep q=1/\pQ s q))
def Bwd:List α->Nat->Prop
 | [],p=>p=K
 | x::s,p=>p<K/\ok x p/\(pQ K rep ok s (p+1)\/(rep p=1/\pQ K rep ok s p))
theorem uG(s:List α)(p:Nat):pQ K rep ok s p↔∃ q,Skp K rep p q/\Bwd K rep ok s q:=by
 cases s with
 | nil=>
  constructor
  ·intro h; exact⟨K,h,rfl⟩
  ·rintro⟨q,h,rfl⟩; exact h
 | cons x s=>rfl
variable {K rep ok}
theorem Skp.refl(p:Nat):Skp K rep p p:=⟨cM p,fun r h D=>by omega⟩
theorem Skp.trans{p q r:Nat}(h:Skp K rep p q)(D:Skp K rep q r):Skp K rep p r:=⟨fW h.1 D.1,fun t h1 h2=>by
 rcases Hn t q with h3 | h3
 ·exact h.2 t h1 h3
 ·exact D.2 t h3 h2⟩
theorem pQ.pre{s:List α}{p q:Nat}(h:Skp K rep p q)(ha:pQ K rep ok s q):pQ K rep ok s p:=by
 cases s with
 | nil=>exact h.trans ha
 | cons x s=>obtain⟨r,h1,h2⟩:=ha;exact⟨r,h.trans h1,h2⟩
variable (K rep ok)
def Nxt(S:Nat->Prop)(x:α):Nat->Prop:=fun p=>∃ q,(∃ b,S b/\b<K/\ok x b/\(q=b+1\/(rep b=1/\q=b)))/\Skp K rep q p
def Fwd:(Nat->Prop)->List α->Prop
 | S,[]=>S K
 | S,x::s=>Fwd (Nxt K rep ok S x) s
theorem aBX:∀ (s:List α) (S:Nat->Prop),(∀ p q,S p->Skp K rep p q->S q)->(Fwd K rep ok S s↔∃ p,S p/\pQ K rep ok s p)
 | [],S,hc=>⟨fun h=>⟨K,h,.refl K⟩,fun⟨p,h1,h2⟩=>hc p K h1 h2⟩
 | x::s,S,hc=>by
  rw[Fwd,aBX s _ fun p q ⟨r,h1,h2⟩ h3=>⟨r,h1,h2.trans h3⟩];constructor
  ·rintro⟨p,⟨q,⟨b,hb,hK,ho,hq⟩,hs⟩,ha⟩;refine⟨b,hb,b,.refl b,hK,ho,?_⟩;have ha':=ha.pre hs;grind
  ·rintro⟨p,hp,q,hs,hK,ho,ha⟩;have hq:=hc p q hp hs;rcases ha with ha | ⟨h1,ha⟩
   ·exact⟨q+1,⟨q+1,⟨q,hq,hK,ho,.inl rfl⟩,.refl _⟩,ha⟩
   ·exact⟨q,⟨q,⟨q,hq,hK,ho,.inr ⟨h1,rfl⟩⟩,.refl _⟩,ha⟩
theorem Kx(s:List α):Fwd K rep ok (fun p=>Skp K rep 0 p) s↔pQ K rep ok s 0:=by rw[aBX K rep ok s _ fun p q h D=>h.trans D];exact⟨fun⟨p,h1,h2⟩=>h2.pre h1,fun h=>⟨0,.refl 0,h⟩⟩
theorem mQ{β:Type}{okβ:β->Nat->Prop}(f:β->α)(h:∀ b q,q<K->(okβ b q↔ok (f b) q)):∀ (s:List β) (p:Nat),pQ K rep okβ s p↔pQ K rep ok (s.map f) p
 | [],p=>Iff.rfl
 | b::s,p=>by
  rw[fY,pQ,pQ];constructor
  ·rintro⟨q,h1,h2,h3,h4⟩;exact⟨q,h1,h2,(h b q h2).1 h3,h4.imp (mQ f h s _).1 fun h5=>⟨h5.1,(mQ f h s _).1 h5.2⟩⟩
  ·rintro⟨q,h1,h2,h3,h4⟩;exact⟨q,h1,h2,(h b q h2).2 h3,h4.imp (mQ f h s _).2 fun h5=>⟨h5.1,(mQ f h s _).2 h5.2⟩⟩
end
abbrev fU (n:aG)(r:Nat):Int:=(n.Seq.getD r default).Rep
theorem Hr{n:aG}{K:Nat}(hK:K<=8){s:Int}{S:Nat->Prop}(h:Rp (K+1) s S):∀ k,k<=K->Rp (K+1) (Gm n s k) (fun p=>∃ q,S q/\Skp k (fU n) q p)
 | 0,_=>by
  refine h.congr fun p=>⟨fun hp=>⟨p,hp,.refl p⟩,fun⟨q,hq,h1,h2⟩=>?_⟩;rcases Nat.eq_or_lt_of_le h1 with e | e
  ·simp_all
  ·exact absurd (h2 q (cM q) e).1 (by omega)
 | k+1,hk=>by
  have ih:=Hr (n:=n) hK h k (by omega);have ht:=ih.test (j:=k) (by omega) (by omega);have up:∀ q p,Skp k (fU n) q p->Skp (k+1) (fU n) q p:=fun q p hs=>⟨hs.1,fun r h1 h2=>⟨by have:=(hs.2 r h1 h2).1; omega,(hs.2 r h1 h2).2⟩⟩;have dn:∀ q p,Skp (k+1) (fU n) q p->(p<=k\/q=p)->Skp k (fU n) q p:=fun q p hs hp=>⟨hs.1,fun r h1 h2=>⟨by rcases hp with hp | hp <;> omega,(hs.2 r h1 h2).2⟩⟩;rw[Gm];by_cases hc:((n.Seq.getD k default).Rep==2)=true/\(yC .i64 (bV .i64 (Gm n s k) k) 1==1)=true
  ·rw[aA hc];have h2:fU n k=2:=dP.1 hc.1;obtain⟨b,hb,hbs⟩:=ht.1 hc.2;refine(ih.or (Rp.one (j:=k+1) (by omega) (by omega)) (by omega)).congr fun p=>⟨?_,?_⟩
   ·rintro (⟨q,hq,hs⟩ | rfl)
    ·grind
    ·refine⟨b,hb,(up b k hbs).trans ⟨by omega,fun r h1 h2'=>?_⟩⟩;grind
   ·rintro⟨q,hq,hs⟩;by_cases hp:p<=k\/q=p
    ·grind
    ·have:=hs.1;have h3:=(hs.2 (p-1) (by omega) (by omega)).1;omega
  ·rw[aF hc];refine ih.congr fun p=>⟨fun⟨q,hq,hs⟩=>⟨q,hq,up q p hs⟩,fun⟨q,hq,hs⟩=>?_⟩;by_cases hp:p<=k\/q=p
   ·grind
   ·have h1:=hs.1;have h3:=(hs.2 (p-1) (by omega) (by omega)).1;have h4:=(hs.2 k (by omega) (by omega)).2;refine absurd ⟨dP.2 h4,ht.2 ⟨q,hq,⟨by omega,fun r h5 h6=>⟨h6,(hs.2 r h5 (by omega)).2⟩⟩⟩⟩ hc
theorem Tw{n:aG}{K:Nat}(hK:K<=8):∀ k,k<=K->Rp K (Tu n k) (fun p=>p<k/\fU n p=1)
 | 0,_=>(Rp.zero K).congr fun p=>by simp
 | k+1,hk=>by
  have ih:=Tw (n:=n) hK k (by omega);rw[Tu];by_cases hc:((n.Seq.getD k default).Rep==1)=true
  ·rw[aA hc];have h1:fU n k=1:=dP.1 hc;refine(ih.or (Rp.one (j:=k) (by omega) (by omega)) (by omega)).congr fun p=>⟨?_,?_⟩
   all_goals grind
  grind
theorem aYR(hn:n.Seq.length<=8){x:dY}{T:Nat->Prop}(h:Rp (n.Seq.length+1) s S)(hx:Rp n.Seq.length x.fits_ T):
  Rp (n.Seq.length+1) (nxF n s x) (fun p=>∃ q,(∃ b,S b/\b<n.Seq.length/\T b/\(q=b+1\/(fU n b=1/\q=b)))/\Skp n.Seq.length (fU n) q p):=by
 have h1:=h.and hx (by omega) (by omega);have h2:=(h1.shl (by omega)).or ((h1.and (Tw (n:=n) hn n.Seq.length (cM _)) (by omega) (by omega)).mono (Nat.le_succ _)) (by omega);have G:∀ b,T b->b<n.Seq.length:=fun b hb=>by obtain⟨a,_,ha,hp⟩:=hx;refine Rt fun J=>?_;have:=(hp b).2 hb;rw[Nat.testBit_lt_two_pow (Cl ha (Mo (by decide) (by omega)))]at this;cases this
 refine(Hr hn h2 n.Seq.length (cM _)).congr fun p=>⟨?_,?_⟩
 ·rintro⟨q,(⟨b,⟨hb,D⟩,rfl⟩ | ⟨⟨hb,D⟩,hl,hr⟩),hs⟩
  ·exact⟨b+1,⟨b,hb,G b D,D,.inl rfl⟩,hs⟩
  ·exact⟨q,⟨q,hb,hl,D,.inr ⟨hr,rfl⟩⟩,hs⟩
 ·rintro⟨q,⟨b,hb,hl,D,(rfl | ⟨hr,rfl⟩)⟩,hs⟩
  ·exact⟨b+1,.inl ⟨b,⟨hb,D⟩,rfl⟩,hs⟩
  ·exact⟨q,.inr ⟨⟨hb,D⟩,hl,hr⟩,hs⟩
theorem Zp{n:aG}(hn:n.Seq.length<=8)(ok:dY->Nat->Prop):∀ (l:List dY) (s:Int) (S:Nat->Prop),(∀ x,x∈l->Rp n.Seq.length x.fits_ (ok x))->Rp (n.Seq.length+1) s S ->
  ((Jg n (l.foldl (nxF n) s)=true)↔Fwd n.Seq.length (fU n) ok S l)
 | [],s,S,_,h=>by show ((yC .i64 s (zW .i64 1 (n.Seq.length:Int)) != 0)=true)↔S n.Seq.length;exact h.hit (by omega) (by omega)
 | x::l,s,S,hx,h=>by rw[lU];exact Zp hn ok l (nxF n s x) (Nxt n.Seq.length (fU n) ok S x) (fun y hy=>hx y (cO _ hy)) (aYR hn h (hx x cS))
theorem aTY(hn:n.Seq.length<=8)(ok:dY->Nat->Prop){l:List dY}(hx:∀ x,x∈l->Rp n.Seq.length x.fits_ (ok x))(t0:Int):
  (isM dY.time_ (nxF n) (Jg n) n.Size t0 (tN n 1) l=true)↔((l.getLastD default).time_-t0<n.Size/\pQ n.Seq.length (fU n) ok l 0):=by
 unfold isM;rw[cQ,jX];refine and_congr Iff.rfl ?_;rw[Zp hn ok l (tN n 1) (fun p=>Skp n.Seq.length (fU n) 0 p) hx]
 ·exact Kx _ _ _ l
 ·refine(Hr hn (Rp.one0 (by omega) (by omega)) n.Seq.length (cM _)).congr fun p=>⟨?_,fun h=>⟨0,rfl,h⟩⟩;simp_all
theorem Qe(fs:List aS){n:aG}(hn:n.Seq.length<=8)(d:aB):∀ k,k<=n.Seq.length->Rp n.Seq.length (Rf fs n d k) (fun p=>p<k/\(evV fs (n.Seq.getD p default).Pred d).N=1)
 | 0,_=>(Rp.zero _).congr fun p=>by simp
 | k+1,hk=>by
  have ih:=Qe fs hn d k (by omega);rw[Rf];by_cases hc:((evV fs (n.Seq.getD k default).Pred d).N==1)=true
  ·rw[aA hc];have h1:(evV fs (n.Seq.getD k default).Pred d).N=1:=by simp_all
   refine(ih.or (Rp.one (j:=k) (by omega) (by omega)) (by omega)).congr fun p=>⟨?_,?_⟩
   all_goals grind
  grind
end Go.PL
