/-
  Parts: From the reading of arguments to plain data; the frame of a law's row. Own work. What reads as data of the argument types reads as plain data of ours. Printed by a program of our own. The kept part of a plain-law text (strip.py). Own work. The kept part of a plain-law text (strip.py). Own work. The kept part of a plain-law text (strip.py). Own work. The kept part of a plain-law text (strip.py). Own work. The kept part of a plain-law text (strip.py). Own work. The kept part of a plain-law text (strip.py). Own work. The kept part of a plain-law text (strip.py). Own work. The kept part of a plain-law text (strip.py). Own work. The kept part of a plain-law text (strip.py). Own work. The kept part of a plain-law text (strip.py). Own work. The kept part of a plain-law text (strip.py). Own work. The kept part of a plain-law text (strip.py). Own work. The kept part of a plain-law text (strip.py). Own work. The kept part of a plain-law text (strip.py). Own work. The kept part of a plain-law text (strip.py). Own work. The kept part of a plain-law text (strip.py). Own work. The kept part of a plain-law text (strip.py). Own work. The kept part of a plain-law text (strip.py). Own work. The kept part of a plain-law text (strip.py). Own work. The kept part of a plain-law text (strip.py). Own work. The kept part of a plain-law text (strip.py). Own work. Plain law of expressions: the value of a typed expression has its type. Own work. The kept part of a plain-law text (strip.py). Own work. The kept part of a plain-law text (strip.py). Own work. Plain law of the meanings: what is right, what fits, what is given. Own work. The kept part of a plain-law text (strip.py). Own work. The kept part of a plain-law text (strip.py). Own work. The kept part of a plain-law text (strip.py). Own work. The kept part of a plain-law text (strip.py). Own work. The kept part of a plain-law text (strip.py). Own work. The kept part of a plain-law text (strip.py). Own work. The kept part of a plain-law text (strip.py). Own work.
-/
import Derived.Test.YtjefblkdnolgaaaGreatDoorMg
import Derived.Test.YtjefblkdnolgaaaGreatDoorRows
import Derived.JoinedCond
import Derived.ProofKit
import Derived.OpenShut
import Derived.Carry
import Derived.DataReads
import Derived.ChangeAnyMap
import Derived.KernelRfl
set_option maxHeartbeats 4000000
namespace Go.PL
open Go Go.RowKit
open Go.Proofs.YtjefblkdnolgaaaGreatDoor.Rows (uptoBulk uptoBulkAll)
variable {X:Type} {fuel:Nat} {ps:List MemPlace} {t:TypeId} {v:Value}
def RdL(F:Nat->Prop)(W:World)(l:List T)(cs:List Value):Prop:=cs.length=l.length/\∀ (j:Nat) x v,l[j]? = some x->cs[j]? = some v->Rd F W x v
theorem RdL.append{F:Nat->Prop}{W:World}{l l':List T}{cs cs':List Value}(h:RdL F W l cs)(h':RdL F W l' cs'):RdL F W (l++l') (cs++cs'):=by
 refine⟨by simp[h.1,h'.1],fun j x v hx hv=>?_⟩;by_cases hj:j<l.length
 ·rw[fO hj]at hx;rw[fO (by rw[h.1]; exact hj)]at hv;exact h.2 j x v hx hv
 ·rw[fW (by omega)]at hx;rw[fW (by rw[h.1]; omega),h.1]at hv;exact h'.2 _ x v hx hv
def fA(n:Int):Prop:=-9223372036854775808<=n/\n<=9223372036854775807
section
variable {H:Type} {enc:TypeId×Value->H} {P:Program} {W:World}
def fR(enc:TypeId×Value->H)(P:Program)(W:World)(t:TypeId)(c:X->List T)(ok:X->Prop)(fuel:Nat):Prop:=
 ∀ cs d ps,DataW.trod enc P W 0 (fun _=>true) true fuel t cs=some (d,ps)->uptoBulk d<=1048576->∃ x,RdL (fun b=>b<W.heap.size) W (c x) cs/\ok x
theorem dD{c:X->List T}{ok:X->Prop}:fR enc P W t c ok 0:=fun cs d ps h=>by simp[DataW.trod]at h
theorem RdL.one{F:Nat->Prop}{W:World}{x:T}(h:Rd F W x v):RdL F W [x] [v]:=by
 refine⟨rfl,fun j y u hy hu=>?_⟩;cases j with
 | zero=>simp at hy hu; subst hy; subst hu; exact h
 | succ j=>simp at hy
theorem dM(ht:P.underlying t=some (.int .i64))(fuel:Nat):fR enc P W t aY fA fuel:=by
 cases fuel with
 | zero=>exact dD
 | succ fuel=>
  intro cs d ps h _;unfold DataW.trod at h;rw[ht]at h;split at h <;> try (simp_all; done)
  rename_i k k' n hk;split at h
  ·rename_i hk2;cases hk;obtain⟨rfl,hwf⟩:=hk2;refine⟨n,RdL.one (.int _ _),?_⟩;simp[Lit.wf,IntKind.min,IntKind.max,IntKind.signed,IntKind.bits]at hwf;exact⟨by omega,by omega⟩
  ·cases h
def vS(s:ByteArray):Prop:=s.size<=1048576
theorem gU(ht:P.underlying t=some .string)(fuel:Nat):fR enc P W t Il vS fuel:=by
 cases fuel with
 | zero=>exact dD
 | succ fuel=>
  intro cs d ps h hw;unfold DataW.trod at h;rw[ht]at h;split at h <;> try (simp_all; done)
  rename_i s hk;split at h
  ·cases h;refine⟨s,RdL.one (.str _),?_⟩;have:s.data.toList.length+1<=1048576:=hw;have:s.size=s.data.toList.length:=rfl;unfold vS;omega
  ·cases h
theorem yV{α β:Type}{f:α->Option β}:∀ {l:List α} {r:List β},l.mapM f=some r->r.length=l.length/\∀ (i:Nat) a b,l[i]? = some a->r[i]? = some b->f a=some b
 | [],r,h=>by simp at h; subst h; simp
 | x::l,r,h=>by
  rw[List.mapM_cons]at h;simp only[Option.bind_eq_bind,Mk]at h;obtain⟨y,hy,ys,hys,hr⟩:=h;simp at hr; subst hr;obtain⟨h1,h2⟩:=yV hys;refine⟨by simp[h1],fun i a b ha hb=>?_⟩;cases i with
  | zero=>simp at ha hb; subst ha; subst hb; exact hy
  | succ i=>exact h2 i a b (by simpa using ha) (by simpa using hb)
theorem Kz:∀ d:DataW H,1<=uptoBulk d
 | .lit l=>by unfold uptoBulk; split <;> omega
 | .nil=>by simp[uptoBulk]
 | .ptr d=>by simp[uptoBulk]
 | .slice e s=>by simp[uptoBulk]
 | .agg p=>by simp[uptoBulk]
 | .iface t d=>by simp[uptoBulk]
 | .map e=>by simp[uptoBulk]
 | .held h=>by simp[uptoBulk]
theorem Bt:∀ l:List (DataW H),l.length<=uptoBulkAll l
 | []=>by simp
 | d::l=>by simp only[uptoBulkAll,dA]; have:=Kz d; have:=Bt l; omega
theorem Ce:∀ {l:List (DataW H)} {d:DataW H},d∈l->uptoBulk d<=uptoBulkAll l
 | x::l,d,h=>by
  simp only[uptoBulkAll];rcases aX.1 h with rfl | h
  ·omega
  ·have:=Ce h; omega
def okL(_b:Nat)(ok:X->Prop)(xs:List X):Prop:=xs.length<=1048576/\∀ x,x∈xs->ok x
theorem gD{t e b:Nat}(ht:P.underlying t=some (.slice e))(hn:Nat.blt 0 (P.cellsOf e)=true)(hb:P.bytesOf e=b){X:Type}[Inhabited X]{c:X->List T}{ok:X->Prop}{fuel:Nat}(he:fR enc P W e c ok fuel)(mk:List X->T)
  (hmk:∀ xs,(mk xs).view=some (xs.length,fun i=>c (xs.getD i default))):fR enc P W t (fun xs=>[mk xs]) (okL b ok) (fuel+1):=by
 have hz:0<P.cellsOf e:=by simpa[eO] using hn
 clear hn;subst hb;intro cs d ps h hw;unfold DataW.trod at h;rw[ht]at h;split at h <;> try (simp_all; done)
 ·
  rename_i hk;cases hk;refine⟨[],RdL.one (.nil (hmk [])),by simp,by simp⟩
 ·rename_i e' a len cap hk;cases hk;simp only at h;split at h
  ·rename_i hcap;simp only[Mk,kM]at h;obtain⟨elems,hel,rest,hrest,hd⟩:=h;simp only[gP]at hd;obtain⟨rfl,rfl⟩:=hd;obtain⟨hlen,hget⟩:=yV hel;simp only[List.length_range]at hlen;have hwt:uptoBulkAll (elems.map (·.1))<=1048576:=by have hw2:uptoBulkAll (elems.map (·.1))+uptoBulkAll (rest.map (·.1))+1<=1048576:=hw;omega
   have hl:len<=1048576:=by have:=Bt (elems.map (·.1));simp only[bI,hlen]at this;omega
   have each:∀ i,i<len->∃ x vs,W.cells? 0 (a.add (i*P.cellsOf e)) (P.cellsOf e)=some vs/\RdL (fun b=>b<W.heap.size) W (c x) vs/\ok x:=by
    intro i hi;have hi':i<elems.length:=by omega
    have:=hget i i elems[i] (by simp[hi]) (by simp[hi']);simp only[Mk]at this;obtain⟨vs,hvs,htr⟩:=this;obtain⟨x,h1,h2⟩:=he vs elems[i].1 elems[i].2 htr (gZ (Ce (zO (xM hi'))) hwt);exact⟨x,vs,hvs,h1,h2⟩
   have all:∃ xs:List X,xs.length=len/\∀ i,i<len->∃ vs,W.cells? 0 (a.add (i*P.cellsOf e)) (P.cellsOf e)=some vs/\RdL (fun b=>b<W.heap.size) W (c (xs.getD i default)) vs/\ok (xs.getD i default):=by
    clear hel hrest hget hw hwt hl hlen hcap
    induction len with
    | zero=>exact⟨[],rfl,fun i hi=>absurd hi (Ba _)⟩
    | succ len ih=>
     obtain⟨xs,h1,h2⟩:=ih fun i hi=>each i (by omega);obtain⟨x,vs,h3,h4,h5⟩:=each len (by omega);refine⟨xs++[x],by simp[h1],fun i hi=>?_⟩;by_cases hil:i<len
     ·have:(xs++[x]).getD i default=xs.getD i default:=by simp[fO (show i<xs.length by omega)]
      rw[this]; exact h2 i hil
     ·have hil:i=len:=by omega
      subst hil;have:(xs++[x]).getD i default=x:=by simp[<-h1]
      rw[this]; exact⟨vs,h3,h4,h5⟩
   obtain⟨xs,hxl,hxs⟩:=all;refine⟨xs,RdL.one ?_,by rw[hxl]; exact hl,fun x hx=>?_⟩
   ·have hsz:∀ i,i<len->(c (xs.getD i default)).length=P.cellsOf e:=by intro i hi;obtain⟨vs,h1,h2,_⟩:=hxs i hi;rw[<-h2.1];unfold World.cells? at h1;rw[aA (vU _)]at h1;have:=(yV h1).1; simpa using this
    have hcell:∀ i j,i<len->j<P.cellsOf e->∃ u,W.cell? (a.add (i*P.cellsOf e+j))=some u/\∀ x,(c (xs.getD i default))[j]? = some x->Rd (fun b=>b<W.heap.size) W x u:=by intro i j hi hj;obtain⟨vs,h1,h2,_⟩:=hxs i hi;unfold World.cells? at h1;rw[aA (vU _)]at h1;obtain⟨h3,h4⟩:=yV h1;simp only[List.length_range]at h3;have:=h4 j j vs[j] (by simp[hj]) (by simp[h3,hj]);rw[Addr.add_add]at this;exact⟨vs[j],this,fun x hx=>h2.2 j x vs[j] hx (by simp[h3,hj])⟩
    let vsf:Nat->Nat->Value:=fun i j=>(W.cell? (a.add (i*P.cellsOf e+j))).getD undef;refine .sl a cap (P.cellsOf e) vsf (n:=len) (f:=fun i=>c (xs.getD i default)) (by rw[hmk,hxl]) hcap.2.1 (fun hn=>?_) hsz (fun i j hi hj=>?_) (fun i j x hi hx=>?_)
    ·obtain⟨u,hu,_⟩:=hcell 0 0 hn hz;have hb:=World.block_lt_of_cell? W _ hu;have:(a.add (0*P.cellsOf e+0)).block=a.block:=by unfold Addr.add; split <;> rfl
     rw[this]at hb;exact hb
    ·obtain⟨u,hu,_⟩:=hcell i j hi hj;simp[vsf,hu]
    ·have hj:j<P.cellsOf e:=by rw[<-hsz i hi]; exact(eN.1 hx).1
     obtain⟨u,hu,hr⟩:=hcell i j hi hj;simp only[vsf,hu,rU];exact hr x hx
   ·obtain⟨i,hi,rfl⟩:=List.getElem_of_mem hx;obtain⟨_,_,_,h⟩:=hxs i (by omega);simpa[cG,hi] using h
  ·cases h
def Nj(enc:TypeId×Value->H)(P:Program)(W:World)(off:Nat)(fs:List Field)(c:X->List T)(ok:X->Prop)(fuel:Nat):Prop:=
 ∀ (cs:List Value) xs,fs.mapM (fun f=>DataW.trod enc P W 0 (fun _=>true) true fuel f.type ((cs.drop f.offset).take (P.cellsOf f.type)))=some xs ->
  uptoBulkAll (xs.map (·.1))<=1048576->cs.length=off+(fs.map fun f=>P.cellsOf f.type).sum->∃ x,RdL (fun b=>b<W.heap.size) W (c x) (cs.drop off)/\ok x
theorem iO{off:Nat}:Nj enc P W off [] (fun (_:Unit)=>[]) (fun _=>True) fuel:=by intro cs xs _ _ hl;simp at hl;exact⟨(),⟨by simp[hl],by simp⟩,trivial⟩
theorem bC{off:Nat}{f:Field}{fs:List Field}{Y:Type}{c:X->List T}{c':Y->List T}{ok:X->Prop}{ok':Y->Prop}(ho:f.offset=off)(h:fR enc P W f.type c ok fuel)
  (h':Nj enc P W (off+P.cellsOf f.type) fs c' ok' fuel):Nj enc P W off (f::fs) (fun (x:X×Y)=>c x.1++c' x.2) (fun x=>ok x.1/\ok' x.2) fuel:=by
 intro cs xs hx hw hl;rw[List.mapM_cons]at hx;simp only[Option.bind_eq_bind,Mk]at hx;obtain⟨y,hy,ys,hys,hr⟩:=hx;simp at hr; subst hr;simp only[gJ,uptoBulkAll]at hw;obtain⟨x,h1,h2⟩:=h _ _ _ hy (by omega);simp only[gJ,List.sum_cons]at hl;obtain⟨x',h3,h4⟩:=h' cs ys hys (by omega) (by omega);refine⟨(x,x'),?_,h2,h4⟩;have:cs.drop off=(cs.drop f.offset).take (P.cellsOf f.type)++cs.drop (off+P.cellsOf f.type):=by rw[ho,<-wY,iM]
 rw[this];exact h1.append h3
theorem gC{fs:Array Field}(ht:P.underlying t=some (.struct fs)){c:X->List T}{ok:X->Prop}(h:Nj enc P W 0 fs.toList c ok fuel)
  (hs:P.cellsOf t=(fs.toList.map fun f=>P.cellsOf f.type).sum):fR enc P W t c ok (fuel+1):=by
 intro cs d ps hd hw;unfold DataW.trod at hd;rw[ht]at hd;split at hd <;> try (simp_all; done)
 rename_i cs0 _ _ fs' hk;cases hk;split at hd
 ·rename_i hl;simp only[kM]at hd;obtain⟨xs,hxs,hd⟩:=hd;simp only[gP]at hd;obtain⟨rfl,_⟩:=hd;have hw2:uptoBulkAll (xs.map (·.1))+1<=1048576:=hw;have:=h _ xs hxs (by omega) (by rw[hl,hs]; simp);simpa using this
 ·cases hd
theorem fR.map{Y:Type}{c:X->List T}{ok:X->Prop}{c':Y->List T}{ok':Y->Prop}(h:fR enc P W t c ok fuel)(g:X->Y)(hc:∀ x,c' (g x)=c x)(ho:∀ x,ok x->ok' (g x)):
  fR enc P W t c' ok' fuel:=by
 intro cs d ps hd hw;obtain⟨x,h1,h2⟩:=h cs d ps hd hw;exact⟨g x,by rw[hc]; exact h1,ho x h2⟩
end
theorem RdL.agg{F:Nat->Prop}{W:World}{l:List T}{v:Value}(h:RdL F W l v.cells.toList)(hv:∃ vs,v = .agg vs):Rd F W (.agg l) v:=by obtain⟨vs,rfl⟩:=hv;simp only[Value.cells]at h;exact .agg (by simpa using h.1) fun j x v hx hv=>h.2 j x v hx (by simpa using hv)
section
variable {H:Type} {enc:TypeId×Value->H} {P:Program} {W:World} {r:Reach} {base:Nat}
theorem Vg{fs:Array Field}(ht:P.underlying t=some (.struct fs)){c:X->List T}{ok:X->Prop}(hO:∀ fuel,fR enc P W t c ok fuel){d:DataW H} 
  (hv:Value.okWide P W r base t v)(h:DataW.Trod enc P W 0 (fun _=>true) true t v d ps)(hw:uptoBulk d<=1048576):∃ x,Rd (fun b=>b<W.heap.size) W (.agg (c x)) v/\ok x:=by
 obtain⟨cs,rfl,_⟩:=Go.WideShapes.okWide_struct ht hv;obtain⟨fuel,hf⟩:=h;obtain⟨x,h1,h2⟩:=hO fuel _ _ _ hf hw;exact⟨x,h1.agg ⟨cs,rfl⟩,h2⟩
theorem aOJ{c:X->T}{ok:X->Prop}(hO:∀ fuel,fR enc P W t (fun x=>[c x]) ok fuel){d:DataW H} 
  (hv:v.cells=#[v])(h:DataW.Trod enc P W 0 (fun _=>true) true t v d ps)(hw:uptoBulk d<=1048576):∃ x,Rd (fun b=>b<W.heap.size) W (c x) v/\ok x:=by
 obtain⟨fuel,hf⟩:=h;obtain⟨x,h1,h2⟩:=hO fuel _ _ _ hf hw;exact⟨x,h1.2 0 _ _ (by simp) (by simp[hv]),h2⟩
theorem uG{e:TypeId}(ht:P.underlying t=some (.slice e)){c:X->T}{ok:X->Prop}(hO:∀ fuel,fR enc P W t (fun x=>[c x]) ok fuel){d:DataW H} 
  (hv:Value.okWide P W r base t v)(h:DataW.Trod enc P W 0 (fun _=>true) true t v d ps)(hw:uptoBulk d<=1048576):∃ x,Rd (fun b=>b<W.heap.size) W (c x) v/\ok x:=by
 obtain⟨a,l,q,rfl⟩:=Go.WideShapes.okWide_slice ht hv;exact aOJ hO rfl h hw
end
theorem Ik{W W':World}(h:Below W.heap.size W W')(may:MemPlace->Prop):W.keptBut W' may:=by
 refine⟨h.os,h.output,fun i hi=>?_⟩;rw[h.block i hi];cases W.heap[i]? with
 | none=>trivial
 | some o=>cases o <;> simp
section
variable {H:Type} {enc:TypeId×Value->H} {P:Program}
theorem vP(hl:laidOutB P=true){W W':World}(hb:Below W.heap.size W W'):∀ {ts:List TypeId} {vs:List Value} {ds:List (DataW H)} {ps:List MemPlace},
  (∀ t,t∈ts->P.readableRec t=true/\t<P.types.size)->DataW.TrodAll enc P W 0 (fun _=>true) true ts vs ds ps->(∀ x,x∈ps->x.block<W.heap.size) ->
  DataW.TrodAll enc P W' 0 (fun b=>decide (b<W.heap.size)) true ts vs ds ps
 | [],[],[],ps,_,h,_=>h
 | t::ts,v::vs,d::ds,ps,hr,h,hp=>by obtain⟨p,q,h1,h2,rfl⟩:=h;obtain⟨r1,r2⟩:=hr t (by simp);exact⟨p,q,Go.RowKit.Below.trod hl r1 r2 h1 hb (fun x hx=>hp x (nE _ hx)),vP hl hb (fun t ht=>hr t (cC _ ht)) h2 (fun x hx=>hp x (nN _ hx)),rfl⟩
 | [],_::_,_,_,_,h,_=>by simp[DataW.TrodAll]at h
 | [],[],_::_,_,_,h,_=>by simp[DataW.TrodAll]at h
 | _::_,[],_,_,_,h,_=>by simp[DataW.TrodAll]at h
 | _::_,_::_,[],_,_,h,_=>by simp[DataW.TrodAll]at h
theorem aFE(hlay:laidOutB P=true){f:Func}{s:ChangeSpec}{W W':World}{args:Array Value}{ds gs:List (DataW H)}{before:List MemPlace}{tb:TypeId}(hvars:s.vars=[])
  (hW:DataW.Whole enc P f.params.toList s.vars false W args.toList ds gs before)(hb:Below W.heap.size W W')(hres:f.resultTypes=#[tb])(htb:P.underlying tb=some .bool)
  (hread:∀ t,t∈f.params.toList->P.readableRec t=true/\t<P.types.size)(hfn:s.fn H (ds++gs)={ results:=[.lit (.bool true)],args:=ds }):
  s.post enc P f false true false false W args (.bool true) W':=by
 have hW':=hW;obtain⟨p,q,hA,hV,rfl,_⟩:=hW;rw[hvars]at hV;cases gs with
 | cons g gs=>simp[DataW.TrodVars]at hV
 | nil=>
  simp only[DataW.TrodVars]at hV;subst hV;have hlt:∀ x,x∈p->x.block<W.heap.size:=fun x hx=>by simpa using hW'.lt x (by simp[hx])
  refine⟨ds,[],p++[],[],p,[],hW',?_,?_,?_,Ik hb _,fun h=>by cases h⟩
  ·rw[hfn,hres];exact⟨[],[],⟨1,by simp[DataW.trod,htb,Value.cells]⟩,rfl,rfl⟩
  ·rw[hfn];exact vP hlay hb hread hA hlt
  ·rw[hvars,hfn]; exact rfl
theorem iJ.law{P:Program}{k:FuncId}{args:List PV}(h:iJ P k args [] [] (Ret (.t (.bool true)))){W:World}{vs:Array Value}(hs:vs.size=args.length)
  (hv:∀ (j:Nat) x v,args[j]? = some x->vs[j]? = some v->VR (fun b=>b<W.heap.size) (fun _=>undef) W x v)(hg:GLP P (fun b=>b<W.heap.size) W):
  Calls P k vs W fun e W'=>e = .returned (.bool true)/\Below W.heap.size W W':=by
 refine(h (fun b=>b<W.heap.size) (fun _=>undef) W vs hs hv ⟨by simp,by simp,by simp⟩ (fun _ h=>h) hg).mono ?_;rintro e w' ⟨v,r,H',F',g',rfl,hr,hvr,hW⟩;unfold Ret at hr;subst hr;have:=hvr.inv_bool;subst this;exact⟨rfl,⟨hW.ext.os,hW.ext.tape,hW.ext.output,hW.ext.size,fun b hb=>hW.ext.block b hb (by rintro⟨o,x,hx,_⟩; simp at hx)⟩⟩
end
set_option maxRecDepth 20000
theorem o23{H:Type}{enc:TypeId×Value->H}{W:World}(fuel:Nat):fR enc Proofs.Tryz.prog W 23 (fun xs=>[eL aY (xs)]) (okL 8 fA) fuel:=by
 cases fuel with
 | zero=>exact dD
 | succ fuel=>exact gD Proofs.Tryz.underlying23 (by kernel_rfl) (by kernel_rfl) (dM Proofs.Tryz.underlying3 fuel) (fun xs=>eL aY (xs)) (fun _=>rfl)
inductive dR:bS->Prop
 | mk0 {a b:Int} {s:ByteArray} {l:List bS} (ha:fA a) (hb:fA b) (hs:vS s) (hn:l.length<=1048576) (hl:∀ x,x∈l->dR x):dR (.mk a b s l)
theorem dR.mk{a b:Int}{s:ByteArray}{l:List bS}(ha:fA a)(hb:fA b)(hs:vS s)(hl:okL 56 dR l):dR (.mk a b s l):=.mk0 ha hb hs hl.1 hl.2
theorem Vj{H:Type}{enc:TypeId×Value->H}{W:World}:∀ fuel,fR enc Proofs.Tryz.prog W 90 dL dR fuel/\fR enc Proofs.Tryz.prog W 24 (fun xs=>[.lz (.exprs xs)]) (okL 56 dR) fuel
 | 0=>⟨dD,dD⟩
 | fuel+1=>by have ih:=Vj (enc:=enc) (W:=W) fuel;exact⟨(gC Proofs.Tryz.underlying90 (bC (by kernel_rfl) (dM Proofs.Tryz.underlying3 fuel) (bC (by kernel_rfl) (dM Proofs.Tryz.underlying3 fuel) (bC (by kernel_rfl) (gU Proofs.Tryz.underlying9 fuel) (bC (by kernel_rfl) ih.2 iO)))) (by kernel_rfl)).map (fun x=>bS.mk x.1 x.2.1 x.2.2.1 x.2.2.2.1) (fun _=>rfl) (fun x h=>.mk h.1 h.2.1 h.2.2.1 h.2.2.2.1),gD Proofs.Tryz.underlying24 (by kernel_rfl) (by kernel_rfl) ih.1 (fun xs=>.lz (.exprs xs)) (fun _=>rfl)⟩
def Tj(x:jD):Prop:=fA x.Kind/\fA x.Col/\vS x.Name
theorem bAM{H:Type}{enc:TypeId×Value->H}{W:World}(fuel:Nat):fR enc Proofs.Tryz.prog W 122 kG Tj fuel:=by
 cases fuel with
 | zero=>exact dD
 | succ fuel=>exact(gC Proofs.Tryz.underlying122 (bC (by kernel_rfl) (dM Proofs.Tryz.underlying3 fuel) (bC (by kernel_rfl) (dM Proofs.Tryz.underlying3 fuel) (bC (by kernel_rfl) (gU Proofs.Tryz.underlying9 fuel) iO))) (by kernel_rfl)).map (fun x=>jD.mk x.1 x.2.1 x.2.2.1) (fun _=>rfl) (fun x h=>⟨h.1,h.2.1,h.2.2.1⟩)
theorem o25{H:Type}{enc:TypeId×Value->H}{W:World}(fuel:Nat):fR enc Proofs.Tryz.prog W 25 (fun xs=>[eL kG (xs)]) (okL 32 Tj) fuel:=by
 cases fuel with
 | zero=>exact dD
 | succ fuel=>exact gD Proofs.Tryz.underlying25 (by kernel_rfl) (by kernel_rfl) (bAM fuel) (fun xs=>eL kG (xs)) (fun _=>rfl)
def Vf(x:If):Prop:=dR x.Pred/\fA x.Rep
theorem o93{H:Type}{enc:TypeId×Value->H}{W:World}(fuel:Nat):fR enc Proofs.Tryz.prog W 93 Qw Vf fuel:=by
 cases fuel with
 | zero=>exact dD
 | succ fuel=>exact(gC Proofs.Tryz.underlying93 (bC (by kernel_rfl) (Vj fuel).1 (bC (by kernel_rfl) (dM Proofs.Tryz.underlying3 fuel) iO)) (by kernel_rfl)).map (fun x=>If.mk x.1 x.2.1) (fun _=>rfl) (fun x h=>⟨h.1,h.2.1⟩)
theorem o26{H:Type}{enc:TypeId×Value->H}{W:World}(fuel:Nat):fR enc Proofs.Tryz.prog W 26 (fun xs=>[eL Qw (xs)]) (okL 64 Vf) fuel:=by
 cases fuel with
 | zero=>exact dD
 | succ fuel=>exact gD Proofs.Tryz.underlying26 (by kernel_rfl) (by kernel_rfl) (o93 fuel) (fun xs=>eL Qw (xs)) (fun _=>rfl)
def Sf(x:Hu):Prop:=vS x.Name/\fA x.Type_/\vS x.Unit
theorem bAP{H:Type}{enc:TypeId×Value->H}{W:World}(fuel:Nat):fR enc Proofs.Tryz.prog W 354 Wb Sf fuel:=by
 cases fuel with
 | zero=>exact dD
 | succ fuel=>exact(gC Proofs.Tryz.underlying354 (bC (by kernel_rfl) (gU Proofs.Tryz.underlying9 fuel) (bC (by kernel_rfl) (dM Proofs.Tryz.underlying3 fuel) (bC (by kernel_rfl) (gU Proofs.Tryz.underlying9 fuel) iO))) (by kernel_rfl)).map (fun x=>Hu.mk x.1 x.2.1 x.2.2.1) (fun _=>rfl) (fun x h=>⟨h.1,h.2.1,h.2.2.1⟩)
theorem o27{H:Type}{enc:TypeId×Value->H}{W:World}(fuel:Nat):fR enc Proofs.Tryz.prog W 27 (fun xs=>[eL Wb (xs)]) (okL 40 Sf) fuel:=by
 cases fuel with
 | zero=>exact dD
 | succ fuel=>exact gD Proofs.Tryz.underlying27 (by kernel_rfl) (by kernel_rfl) (bAP fuel) (fun xs=>eL Wb (xs)) (fun _=>rfl)
def jI(x:aG):Prop:=fA x.Op/\okL 8 fA x.In/\vS x.Source/\fA x.Schema/\okL 56 dR x.Exprs/\fA x.Kind/\fA x.Size/\fA x.Step/\okL 8 fA x.Key/\okL 8 fA x.Key2/\fA x.Before/\fA x.After/\fA x.Keep/\okL 32 Tj x.Aggs/\okL 64 Vf x.Seq/\okL 40 Sf x.Cols
theorem o29{H:Type}{enc:TypeId×Value->H}{W:World}(fuel:Nat):fR enc Proofs.Tryz.prog W 29 Oe jI fuel:=by
 cases fuel with
 | zero=>exact dD
 | succ fuel=>exact(gC Proofs.Tryz.underlying29 (bC (by kernel_rfl) (dM Proofs.Tryz.underlying3 fuel) (bC (by kernel_rfl) (o23 fuel) (bC (by kernel_rfl) (gU Proofs.Tryz.underlying9 fuel) (bC (by kernel_rfl) (dM Proofs.Tryz.underlying3 fuel) (bC (by kernel_rfl) (Vj fuel).2 (bC (by kernel_rfl) (dM Proofs.Tryz.underlying3 fuel) (bC (by kernel_rfl) (dM Proofs.Tryz.underlying3 fuel) (bC (by kernel_rfl) (dM Proofs.Tryz.underlying3 fuel) (bC (by kernel_rfl) (o23 fuel) (bC (by kernel_rfl) (o23 fuel) (bC (by kernel_rfl) (dM Proofs.Tryz.underlying3 fuel) (bC (by kernel_rfl) (dM Proofs.Tryz.underlying3 fuel) (bC (by kernel_rfl) (dM Proofs.Tryz.underlying3 fuel) (bC (by kernel_rfl) (o25 fuel) (bC (by kernel_rfl) (o26 fuel) (bC (by kernel_rfl) (o27 fuel) iO)))))))))))))))) (by kernel_rfl)).map (fun x=>aG.mk x.1 x.2.1 x.2.2.1 x.2.2.2.1 x.2.2.2.2.1 x.2.2.2.2.2.1 x.2.2.2.2.2.2.1 x.2.2.2.2.2.2.2.1 x.2.2.2.2.2.2.2.2.1 x.2.2.2.2.2.2.2.2.2.1 x.2.2.2.2.2.2.2.2.2.2.1 x.2.2.2.2.2.2.2.2.2.2.2.1 x.2.2.2.2.2.2.2.2.2.2.2.2.1 x.2.2.2.2.2.2.2.2.2.2.2.2.2.1 x.2.2.2.2.2.2.2.2.2.2.2.2.2.2.1 x.2.2.2.2.2.2.2.2.2.2.2.2.2.2.2.1) (fun _=>rfl) (fun x h=>⟨h.1,h.2.1,h.2.2.1,h.2.2.2.1,h.2.2.2.2.1,h.2.2.2.2.2.1,h.2.2.2.2.2.2.1,h.2.2.2.2.2.2.2.1,h.2.2.2.2.2.2.2.2.1,h.2.2.2.2.2.2.2.2.2.1,h.2.2.2.2.2.2.2.2.2.2.1,h.2.2.2.2.2.2.2.2.2.2.2.1,h.2.2.2.2.2.2.2.2.2.2.2.2.1,h.2.2.2.2.2.2.2.2.2.2.2.2.2.1,h.2.2.2.2.2.2.2.2.2.2.2.2.2.2.1,h.2.2.2.2.2.2.2.2.2.2.2.2.2.2.2.1⟩)
theorem o55{H:Type}{enc:TypeId×Value->H}{W:World}(fuel:Nat):fR enc Proofs.Tryz.prog W 55 (fun xs=>[eL kE (xs)]) (okL 24 (okL 8 fA)) fuel:=by
 cases fuel with
 | zero=>exact dD
 | succ fuel=>exact gD Proofs.Tryz.underlying55 (by kernel_rfl) (by kernel_rfl) (o23 fuel) (fun xs=>eL kE (xs)) (fun _=>rfl)
def yE(x:aF):Prop:=fA x.Kind/\fA x.N/\vS x.S
theorem o67{H:Type}{enc:TypeId×Value->H}{W:World}(fuel:Nat):fR enc Proofs.Tryz.prog W 67 bD yE fuel:=by
 cases fuel with
 | zero=>exact dD
 | succ fuel=>exact(gC Proofs.Tryz.underlying67 (bC (by kernel_rfl) (dM Proofs.Tryz.underlying3 fuel) (bC (by kernel_rfl) (dM Proofs.Tryz.underlying3 fuel) (bC (by kernel_rfl) (gU Proofs.Tryz.underlying9 fuel) iO))) (by kernel_rfl)).map (fun x=>aF.mk x.1 x.2.1 x.2.2.1) (fun _=>rfl) (fun x h=>⟨h.1,h.2.1,h.2.2.1⟩)
theorem o48{H:Type}{enc:TypeId×Value->H}{W:World}(fuel:Nat):fR enc Proofs.Tryz.prog W 48 (fun xs=>[eL bD (xs)]) (okL 32 yE) fuel:=by
 cases fuel with
 | zero=>exact dD
 | succ fuel=>exact gD Proofs.Tryz.underlying48 (by kernel_rfl) (by kernel_rfl) (o67 fuel) (fun xs=>eL bD (xs)) (fun _=>rfl)
def dZ(x:aC):Prop:=fA x.Time/\okL 32 yE x.Row/\fA x.N
theorem o50{H:Type}{enc:TypeId×Value->H}{W:World}(fuel:Nat):fR enc Proofs.Tryz.prog W 50 aH dZ fuel:=by
 cases fuel with
 | zero=>exact dD
 | succ fuel=>exact(gC Proofs.Tryz.underlying50 (bC (by kernel_rfl) (dM Proofs.Tryz.underlying3 fuel) (bC (by kernel_rfl) (o48 fuel) (bC (by kernel_rfl) (dM Proofs.Tryz.underlying3 fuel) iO))) (by kernel_rfl)).map (fun x=>aC.mk x.1 x.2.1 x.2.2.1) (fun _=>rfl) (fun x h=>⟨h.1,h.2.1,h.2.2.1⟩)
theorem o37{H:Type}{enc:TypeId×Value->H}{W:World}(fuel:Nat):fR enc Proofs.Tryz.prog W 37 (fun xs=>[eL aH (xs)]) (okL 40 dZ) fuel:=by
 cases fuel with
 | zero=>exact dD
 | succ fuel=>exact gD Proofs.Tryz.underlying37 (by kernel_rfl) (by kernel_rfl) (o50 fuel) (fun xs=>eL aH (xs)) (fun _=>rfl)
def eC(x:aU):Prop:=vS x.Name/\okL 8 fA x.Params/\fA x.Result/\dR x.Body
theorem bAS{H:Type}{enc:TypeId×Value->H}{W:World}(fuel:Nat):fR enc Proofs.Tryz.prog W 150 bM eC fuel:=by
 cases fuel with
 | zero=>exact dD
 | succ fuel=>exact(gC Proofs.Tryz.underlying150 (bC (by kernel_rfl) (gU Proofs.Tryz.underlying9 fuel) (bC (by kernel_rfl) (o23 fuel) (bC (by kernel_rfl) (dM Proofs.Tryz.underlying3 fuel) (bC (by kernel_rfl) (Vj fuel).1 iO)))) (by kernel_rfl)).map (fun x=>aU.mk x.1 x.2.1 x.2.2.1 x.2.2.2.1) (fun _=>rfl) (fun x h=>⟨h.1,h.2.1,h.2.2.1,h.2.2.2.1⟩)
theorem o22{H:Type}{enc:TypeId×Value->H}{W:World}(fuel:Nat):fR enc Proofs.Tryz.prog W 22 (fun xs=>[eL bM (xs)]) (okL 104 eC) fuel:=by
 cases fuel with
 | zero=>exact dD
 | succ fuel=>exact gD Proofs.Tryz.underlying22 (by kernel_rfl) (by kernel_rfl) (bAS fuel) (fun xs=>eL bM (xs)) (fun _=>rfl)
end Go.PL
namespace Go.PL
open Go
set_option linter.unusedVariables false
set_option maxRecDepth 20000
variable {S:Nat->Prop} {T X Y l o:List aC} {a j k:Nat} {cs:List Int} {e:bS} {fs:List aU} {n:aG} {s t:Int} {x y:aC}
theorem dU{S R:Type}{b:Bool}{bd:S->Option (S⊕R)}(idx:S->Int)(N:Nat)(hN:N<=1000000000000000)(I:S->Prop){Q:R->Prop}
  (h:∀ s (k:Nat),I s->idx s=k->k<=N->Sq b (bd s) (sel (fun s'=>idx s'=IntKind.i64.wrap ((k:Int)+1)/\k<N/\I s') Q)){s:S}(hs:I s)(h0:idx s=0):Sq b (cD bd s) Q:=by
 refine Sq.while (fun s=>I s/\∃ k:Nat,idx s=k/\k<=N) (fun s=>N-(idx s).toNat) (fun s hs=>?_) ⟨hs,0,h0,by omega⟩;obtain⟨hI,k,hk,hkN⟩:=hs;refine(h s k hI hk hkN).imp fun z hz=>?_;cases z with
 | inr r=>exact hz
 | inl s'=>obtain⟨q1,q2,q3⟩:=hz;rw[aK (by omega)]at q1;exact⟨⟨q3,k+1,q1,by omega⟩,by rw[q1,hk]; omega⟩
theorem dR.len(h:dR e):e.Args.length<=1048576:=by cases h; assumption
theorem dR.arg(h:dR e):∀ x,x∈e.Args->dR x:=by cases h; assumption
theorem wN{x:bS}(h:x∈e.Args):SizeOf.sizeOf x<SizeOf.sizeOf e:=by
 cases e with
 | mk a b s l=>have:=List.sizeOf_lt_of_mem h;simp only[bS.Args]at this;simp only[bS.mk.sizeOf_spec];omega
theorem So(e:bS)(h:dR e):Sp (G79 e) (fun _=>True):=by
 refine mH (C:=fun (a:bS) (x:Option Int)=>Con Proofs.Tryz.prog 129 [.t (dH a)] x (fun (y:Int)=>.t (.int .i64 (y)))) (fun a=>⟨bU Proofs.Tryz.func129 (by kernel_rfl),fun _ h=>nomatch h⟩) (fun rec a=>T79 rec a) (fun rec a=>aGF rec a)
  dR (fun e=>SizeOf.sizeOf e) (fun _ _=>True) (fun b f e he hrec=>?_) true e h
 have hl:=he.len;unfold T79;simp only[Tr.den,bX];refine dU (fun s:Int×Int=>s.2) e.Args.length (by omega) (fun _=>True) (fun s k _ hk hkN=>?_) trivial rfl;obtain⟨v1,v2⟩:=s;simp only at hk;subst hk;unfold aEC;simp only[Tr.den,aQ];by_cases hc:k<e.Args.length
 ·rw[aA (bO (by omega)),aA (by omega)];refine Sq.bind _ (hrec _ (he.arg _ (aR hc)) (wN (aR hc))) fun r _=>aB.2 ⟨rfl,hc,trivial⟩
 ·rw[aE (cB (by omega))];exact aB.2 (aB.2 trivial)
theorem aIL(e:bS)(h:dR e):Sp (G80 e) (fun _=>True):=by
 refine mH (C:=fun (a:bS) (x:Option Int)=>Con Proofs.Tryz.prog 130 [.t (dH a)] x (fun (y:Int)=>.t (.int .i64 (y)))) (fun a=>⟨bU Proofs.Tryz.func130 (by kernel_rfl),fun _ h=>nomatch h⟩) (fun rec a=>T80 rec a) (fun rec a=>Rt rec a)
  dR (fun e=>SizeOf.sizeOf e) (fun _ _=>True) (fun b f e he hrec=>?_) true e h
 have hl:=he.len;unfold T80;simp only[Tr.den,bX];refine dU (fun s:Int×Int=>s.2) e.Args.length (by omega) (fun _=>True) (fun s k _ hk hkN=>?_) trivial rfl;obtain⟨v1,v2⟩:=s;simp only at hk;subst hk;unfold Ue;simp only[Tr.den,aQ];by_cases hc:k<e.Args.length
 ·rw[aA (bO (by omega)),aA (by omega)];refine Sq.bind _ (hrec _ (he.arg _ (aR hc)) (wN (aR hc))) fun r _=>aB.2 ⟨rfl,hc,trivial⟩
 ·rw[aE (cB (by omega))];exact aB.2 (aB.2 trivial)
theorem Vl(fs:List Int)(e:bS)(hf:fs.length<=1100000)(h:dR e):Sp (aZE fs e) (fun _=>True):=by
 refine mH (C:=fun (a:(List Int)×bS) (x:Option Int)=>Con Proofs.Tryz.prog 211 [.t (eL aY (a.1)),.t (dH a.2)] x (fun (y:Int)=>.t (.int .i64 (y)))) (fun a=>⟨bU Proofs.Tryz.func211 (by kernel_rfl),fun _ h=>nomatch h⟩) (fun rec a=>aEN rec a.1 a.2) (fun rec a=>Yh rec a.1 a.2)
  (fun a=>a.1.length<=1100000/\dR a.2) (fun a=>SizeOf.sizeOf a.2) (fun _ _=>True) (fun b f a ha hrec=>?_) true (fs,e) ⟨hf,h⟩
 obtain⟨fs,e⟩:=a;obtain⟨hf,he⟩:=ha;simp only at hf he hrec ⊢;have hl:=he.len;unfold aEN;simp only[Tr.den,bX];refine dU (fun s:List Int×Int=>s.2) e.Args.length (by omega) (fun s=>s.1.length=s.2.toNat) (fun s k hI hk hkN=>?_) rfl rfl;obtain⟨v1,v2⟩:=s;simp only at hk hI;subst hk;unfold Wz;simp only[Tr.den,aQ]at hI ⊢;by_cases hc:k<e.Args.length
 ·rw[aA (bO (by omega)),aA (by omega)];refine Sq.bind _ (hrec (fs,e.Args.getD k default) ⟨hf,he.arg _ (aR hc)⟩ (wN (aR hc))) fun r _=>?_;rw[aA (by simp only[dA,fH]; omega)];refine aB.2 ⟨rfl,hc,?_⟩;rw[aK (by omega)]; simp; omega
 ·rw[aE (cB (by omega))];refine aB.2 ?_;simp only[sel];have hv:v1.length=e.Args.length:=by omega
  have rest:Sq b ((cD (fun s=>(Ln s).den) (1,v1,0)).bind (sel (fun b10=>((if (e.Op==22)=true then (if decide (e.N>=0)=true then some (decide (e.N<(fs.length:Int))) else some false) else some false)).bind fun j11=>
    ((if j11=true then (if 0<=e.N/\e.N<(fs.length:Int) then some (if (1099511627776:Int)<IntKind.i64.wrap (b10+fs.getD e.N.toNat default) then (1099511627776:Int) else IntKind.i64.wrap (b10+fs.getD e.N.toNat default)) else none) else some b10)).bind fun j12=>some j12) some)) (fun _=>True):=by
   rw[bX];refine dU (fun s:Int×List Int×Int=>s.2.2) v1.length (by omega) (fun s=>s.2.1=v1) (fun s k hI hk hkN=>?_) rfl rfl;obtain⟨w1,w2,w3⟩:=s;simp only at hk hI;subst hk hI;unfold Ln;simp only[Tr.den,aQ];by_cases hc:k<w2.length
   ·rw[aA (bO (by omega)),aA (by omega),aA hc];exact aB.2 ⟨rfl,hc,rfl⟩
   ·rw[aE (cB (by omega))];refine aB.2 ?_;simp only[sel,oF];by_cases h22:(e.Op==22)=true
    ·rw[aA h22];simp only[aI];by_cases hr:e.N>=0/\e.N<(fs.length:Int)
     ·rw[aA (bO hr),aA hr]; exact aB.2 trivial
     ·rw[aE (cB hr)]; exact aB.2 trivial
    ·rw[aE h22]; exact aB.2 trivial
  by_cases h21:(e.Op==21)=true
  ·rw[aA h21];simp only[aI];by_cases h3:((v1.length:Int)==3)=true
   ·rw[aA h3];have h3':v1.length=3:=by have:=eE.1 h3; omega
    rw[aA (by omega),aA (by simp; omega),aA (by omega),aA (by simp; omega),aA (by omega),aA (by simp; omega)];exact aB.2 trivial
   ·rw[aE h3]; exact rest
  ·rw[aE h21];simp only[aI,dC,cT];exact rest
theorem okEs.get{l:List bS}(h:okL 56 dR l)(hk:k<l.length):dR (l.getD k default):=h.2 _ (aR hk)
theorem aOL(a b c:Int):aSI a b c=some (decide (b<=a/\a<=c)):=by unfold aSI aYI;simp only[Tr.den,oF,aI]
theorem zX(l types:List Int)(h:l.length<=1048576):Sp (G88 l types) (fun r=>r=true->∀ c,c∈l->0<=c/\c<types.length):=by
 unfold G88 T88;simp only[Tr.den,bX];refine dU (fun s:Int=>s) l.length (by omega) (fun s=>∀ c,c∈l.take s.toNat->0<=c/\c<types.length) (fun s k hI hk hkN=>?_) (by simp) rfl;subst hk;unfold aII;simp only[Tr.den,aQ]at hI ⊢;by_cases hc:k<l.length
 ·rw[aA (bO (by omega)),aA (by omega)];by_cases h1:l.getD k default<0
  ·rw[aA (bO h1)];exact aB.2 (aB.2 fun h=>by cases h)
  ·rw[aE (cB h1),aA (by omega)];simp only[aI];by_cases h2:l.getD k default>=types.length
   ·rw[aA (bO h2)];exact aB.2 (aB.2 fun h=>by cases h)
   ·rw[aE (cB h2)];refine aB.2 ⟨rfl,hc,fun c hcm=>?_⟩;rw[aK (by omega),aQ,aL hc,dE,bZ]at hcm;rcases hcm with hcm | rfl
    ·exact hI c hcm
    ·omega
 ·rw[aE (cB (by omega))];refine aB.2 (aB.2 fun _=>?_)
  rwa [kV (by omega)]at hI
theorem dZ.okd(h:okL 40 dZ l):okD l:=⟨fun d hd=>by have:=(h.2 d hd).2.1.1;unfold okR; omega,fun d hd=>(h.2 d hd).2.2⟩
theorem eH{i:Int}{k:ByteArray}:x∈ofK n i k l↔x∈l/\kd n i x=k:=by unfold ofK;rw[iD,gY]
theorem wJ{f g:ByteArray->Int}{ks:List ByteArray}(h:∀ k,k∈ks->f k=g k):kK f ks=kK g ks:=by
 induction ks with
 | nil=>rfl
 | cons k ks ih=>simp only[kK,h k bW,ih fun k' hk=>h k' (cC _ hk)]
theorem aEO(f g:ByteArray->Int)(ks:List ByteArray):kK (fun k=>f k+g k) ks=kK f ks+kK g ks:=by
 induction ks with
 | nil=>rfl
 | cons k ks ih=>simp only[kK,ih]; omega
theorem Jb(ks:List ByteArray):kK (fun _=>0) ks=0:=by
 induction ks with
 | nil=>rfl
 | cons k ks ih=>simp only[kK,ih]; rfl
theorem Rg(q:ByteArray)(v:Int):∀ (ks:List ByteArray),ks.Nodup->q∈ks->kK (fun k=>if q=k then v else 0) ks=v
 | [],_,h=>by simp at h
 | k::ks,hn,h=>by
  have h1:=lG.1 hn;simp only[kK];by_cases hq:q=k
  ·subst hq;rw[aA rfl,wJ (f:=fun k=>if q=k then v else 0) (g:=fun _=>0) (fun k' hk'=>aE (fun he:q=k'=>h1.1 (he▸hk'))),Jb]; omega
  ·rw[aE hq,Rg q v ks h1.2 ((aX.1 h).resolve_left hq)]; omega
theorem Pc(p:Pl->Bool)(n:aG)(i:Int)(ks:List ByteArray)(hn:ks.Nodup):∀ (l:List aC),(∀ x,x∈l->kd n i x∈ks)->kK (fun k=>wt p (ofK n i k l)) ks=wt p l
 | [],_=>by refine Eq.trans (wJ (g:=fun _=>0) fun k _=>rfl) (Jb ks)
 | x::l,h=>by
  have ih:=Pc p n i ks hn l fun y hy=>h y (cC _ hy);have e:∀ k,wt p (ofK n i k (x::l))=(if kd n i x=k then (if p (pl x)=true then x.N else 0) else 0)+wt p (ofK n i k l):=by
   intro k;unfold ofK;by_cases hk:kd n i x=k
   ·rw[Gg (p:=fun d=>decide (kd n i d=k)) (bO hk),aA hk]; rfl
   ·rw[zJ (p:=fun d=>decide (kd n i d=k)) (cB hk),aE hk]; omega
  rw[wJ fun k _=>e k,aEO,ih,Rg _ _ ks hn (h x bW)];rfl
theorem iR{k:ByteArray}:k∈aT (bP n 0 l)↔ofK n 0 k l≠[]:=by
 rw[Hi,tC];constructor
 ·rintro⟨c,hc⟩ h0;rw[aA h0]at hc; cases hc
 ·intro h0;exact⟨_,aE h0⟩
def Ha(n:aG)(a:Int):Nat->Int
 | 0=>a
 | k+1=>if ((n.Seq.getD k default).Rep==2)=true/\(xW .i64 (bY .i64 (Ha n a k) k) 1==1)=true then Mh .i64 (Ha n a k) (Ae .i64 1 (k+1:Nat)) else Ha n a k
def sZ(n:aG)(a:Int):Int:=Ha n a n.Seq.length
def Qt(n:aG):Nat->Int
 | 0=>0
 | k+1=>if ((n.Seq.getD k default).Rep==1)=true then Mh .i64 (Qt n k) (Ae .i64 1 k) else Qt n k
def nxF(n:aG)(now:Int)(p:dW):Int:=sZ n (Mh .i64 (Ae .i64 (xW .i64 now p.fits_) 1) (xW .i64 (xW .i64 now p.fits_) (Qt n n.Seq.length)))
def Hy(n:aG)(s:Int):Bool:=xW .i64 s (Ae .i64 1 (n.Seq.length:Int)) != 0
def mI(n:aG)(row:List aF):List aF:=n.Key.map fun c=>row.getD c.toNat default
theorem pL(n:aG)(row:List aF):(mI n row).length=n.Key.length:=bI _
noncomputable def evV (fs:List aU)(e:bS)(d:aC):aF:=(Ch fs e d.Time d.Row).getD default
def aCQ(fs:List aU)(n:aG)(l:List aC):Prop:=∀ d,d∈l->∀ i,i<n.Seq.length->(Ch fs (n.Seq.getD i default).Pred d.Time d.Row).isSome=true
theorem aCQ.get(h:aCQ fs n l){d:aC}(hd:d∈l){i:Nat}(hi:i<n.Seq.length):Ch fs (n.Seq.getD i default).Pred d.Time d.Row=some (evV fs (n.Seq.getD i default).Pred d):=by have:=h d hd i hi;obtain⟨v,hv⟩:=Bk.1 this;unfold evV;rw[hv]; rfl
theorem aCQ.sub{r:List aC}(h:aCQ fs n l)(hs:∀ x,x∈r->x∈l):aCQ fs n r:=fun d hd=>h d (hs d hd)
noncomputable def Qr (fs:List aU)(n:aG)(d:aC):Nat->Int
 | 0=>0
 | k+1=>if ((evV fs (n.Seq.getD k default).Pred d).N==1)=true then Mh .i64 (Qr fs n d k) (Ae .i64 1 k) else Qr fs n d k
noncomputable def plD (fs:List aU)(n:aG)(d:aC):List dW:=List.replicate d.N.toNat ⟨d.Time,Qr fs n d n.Seq.length⟩
theorem dR.bnd(h:dR e):vK e:=by
 induction h with
 | mk0 ha hb hs hn hl ih=>exact .mk hs hn (fun i hi=>ih _ (aR hi))
theorem Dj{n:Nat}(h:okL n eC fs):fs.length<=1048576/\∀ i,i<fs.length->vK (fs.getD i default).Body/\(fs.getD i default).Params.length<=1048576:=
 ⟨h.1,fun i hi=>by have h1:=h.2 _ (aR hi);exact⟨h1.2.2.2.bnd,h1.2.1.1⟩⟩
theorem aPF{n:Nat}(hf:okL n eC fs)(h:G82 fs=some true)(he:dR e)(ht:oP fs cs [] e=some (t,true))
  (tm:Int){row:List aF}(hr:row.length=cs.length)(hs:∀ v,v∈row->Sm v):Sp (Ch fs e tm row) Sm:=by
 obtain⟨hl,hb⟩:=Dj hf;obtain⟨k,hk⟩:=aBK hl hb h he.bnd ht;unfold Ch aLP;simp only[Tr.den];exact Sq.bind _ (aPH fs cs.length 0 k _ e ⟨rfl,hr,rfl,hs,fun v hv=>by cases hv⟩ hk) fun v hv=>aB.2 hv
structure aEZ (n:aG):Prop where
 op:n.Op=8
 seq:1<=n.Seq.length/\n.Seq.length<=8
 size:1<=n.Size/\n.Size<=10000
 key:n.Key.length<=10
theorem W_W(a:Int):W (W a)=W a:=aBO a
def bl(b:ByteArray):List UInt8:=b.data.toList
theorem oW(a b:ByteArray):bl (a++b)=bl a++bl b:=by unfold bl; rw[ByteArray.data_append,Array.toList_append]
theorem aVK{a b:ByteArray}(h:bl a=bl b):a=b:=by cases a; cases b; simp[bl]at h; simp[h]
theorem uS{d:Nat}(h:d<10):(UInt8.ofNat (48+d)).toNat=48+d:=by rw[UInt8.toNat_ofNat']; omega
def aGX(l:List UInt8):Nat:=l.foldl (fun a b=>a*10+(b.toNat-48)) 0
theorem yO(u:Nat):aGX (Lib.decDigits u)=u:=by
 induction u using Nat.strongRecOn with
 | _ u ih=>
  by_cases h:u<10
  ·rw[Lib.decDigits,dif_pos h];simp only[aGX,oB,List.foldl_nil];rw[uS h]; omega
  ·rw[Lib.decDigits,dif_neg h];have:=ih (u / 10) (by omega);unfold aGX at this ⊢;rw[zH,this];simp only[oB,List.foldl_nil];rw[uS (by omega)]; omega
theorem Mm(u:Nat):∀ b,b∈Lib.decDigits u->48<=b.toNat/\b.toNat<=57:=by
 induction u using Nat.strongRecOn with
 | _ u ih=>
  intro b hb;by_cases h:u<10
  ·rw[Lib.decDigits,dif_pos h,bZ]at hb;rw[hb,uS h]; omega
  ·rw[Lib.decDigits,dif_neg h,dE,bZ]at hb;rcases hb with hb | rfl
   ·exact ih (u / 10) (by omega) b hb
   ·rw[uS (by omega)]; omega
theorem aFY(n:Int):∀ b,b∈Lib.itoa n->b.toNat=45\/(48<=b.toNat/\b.toNat<=57):=by
 intro b hb;unfold Lib.itoa at hb;split at hb
 ·rcases aX.1 hb with rfl | hb
  ·exact .inl rfl
  ·exact .inr (Mm _ b hb)
 ·exact .inr (Mm _ b hb)
theorem aZF(u:Nat)(l:List UInt8):Lib.decDigits u≠45::l:=by intro h;have:=Mm u 45 (by rw[h]; exact bW);have e:(45:UInt8).toNat=45:=rfl;omega
theorem Ou{n m:Int}(h:Lib.itoa n=Lib.itoa m):n=m:=by
 unfold Lib.itoa at h;split at h <;> split at h
 ·have:=congrArg aGX (wM h).2;rw[yO,yO]at this; omega
 ·exact absurd h.symm (aZF _ _)
 ·exact absurd h (aZF _ _)
 ·have:=congrArg aGX h;rw[yO,yO]at this; omega
theorem wZ{c:UInt8}:∀ {l l' x y:List UInt8},(∀ b,b∈l->b≠c)->(∀ b,b∈l'->b≠c)->l++c::x=l'++c::y->l=l'/\x=y
 | [],[],x,y,_,_,h=>⟨rfl,(wM h).2⟩
 | [],b::l',x,y,_,h',h=>absurd (wM h).1.symm (h' b bW)
 | b::l,[],x,y,h',_,h=>absurd (wM h).1 (h' b bW)
 | b::l,b'::l',x,y,h1,h2,h=>by obtain⟨e1,e2⟩:=wM h;obtain⟨q1,q2⟩:=wZ (fun b hb=>h1 b (cC _ hb)) (fun b hb=>h2 b (cC _ hb)) e2;exact⟨by rw[e1,q1],q2⟩
theorem Dn(n:Int){c:UInt8}(h:58<=c.toNat):∀ b,b∈Lib.itoa n->b≠c:=by rintro b hb rfl;have:=aFY n b hb;omega
theorem Xx(n:Int):bl (yT n)=Lib.itoa n:=rfl
theorem aHI(n:Int):bl (wD n)=Lib.itoa n++[59]:=by unfold wD; rw[oW,Xx]; rfl
theorem Nl{n m:Int}{x y:List UInt8}(h:bl (wD n)++x=bl (wD m)++y):n=m/\x=y:=by rw[aHI,aHI,cJ,cJ]at h;obtain⟨q1,q2⟩:=wZ (Dn n (by decide)) (Dn m (by decide)) h;exact⟨Ou q1,q2⟩
theorem aHH(s:ByteArray):bl (Nd s)=Lib.itoa s.size++58::(bl s++[44]):=by unfold Nd;rw[oW,oW,oW,Xx];simp[bl]
theorem aLG{s t:ByteArray}{x y:List UInt8}(h:bl (Nd s)++x=bl (Nd t)++y):s=t/\x=y:=by
 rw[aHH,aHH,cJ,cJ]at h;obtain⟨q1,q2⟩:=wZ (Dn _ (by decide)) (Dn _ (by decide)) h;have hs:=Ou q1;have hl:(bl s).length=(bl t).length:=by
  have e:∀ z:ByteArray,(bl z).length=z.size:=fun z=>by unfold bl; rw[iI]; rfl
  rw[e,e]; omega
 have q2':(bl s++[44])++x=(bl t++[44])++y:=q2;rw[cJ,cJ]at q2';obtain⟨q3,q4⟩:=List.append_inj q2' hl;exact⟨aVK q3,(wM q4).2⟩
theorem aMT{v w:aF}{x y:List UInt8}(h:bl (xA v)++x=bl (xA w)++y):v=w/\x=y:=by unfold xA at h;rw[oW,oW,oW,oW]at h;simp only[cJ]at h;obtain⟨q1,h⟩:=Nl h;obtain⟨q2,h⟩:=Nl h;obtain⟨q3,h⟩:=aLG h;refine⟨?_,h⟩;cases v; cases w; simp_all
theorem Wg(b:ByteArray):∀ r:List aF,bl (r.foldl (fun b v=>b++xA v) b)=bl b++r.flatMap (fun v=>bl (xA v))
 | []=>by simp
 | v::r=>by rw[oB,Wg,oW,fT,cJ]
theorem aYK(r:List aF):bl (Cf r)=bl (wD r.length)++r.flatMap (fun v=>bl (xA v)):=by unfold Cf;rw[Wg,oW]; rfl
theorem Qv:∀ {r s:List aF} {x y:List UInt8},r.length=s.length->r.flatMap (fun v=>bl (xA v))++x=s.flatMap (fun v=>bl (xA v))++y->r=s/\x=y
 | [],[],x,y,_,h=>⟨rfl,h⟩
 | [],_::_,_,_,h,_=>by cases h
 | _::_,[],_,_,h,_=>by cases h
 | v::r,w::s,x,y,hl,h=>by rw[fT,fT,cJ,cJ]at h;obtain⟨q1,q2⟩:=aMT h;obtain⟨q3,q4⟩:=Qv (by simpa using hl) q2;exact⟨by rw[q1,q3],q4⟩
theorem aDA{r s:List aF}(h:Cf r=Cf s):r=s:=by have h:=congrArg (fun b=>bl b++[]) h;simp only[aYK]at h;rw[cJ,cJ]at h;obtain⟨q1,q2⟩:=Nl h;exact(Qv (by omega) q2).1
def pI(n:aG)(R:List aC)(a:aC):List aC:=if n.Op=6 then pQ n 0 R a else kO n R a
def sI(n:aG)(A B:List aC):List aC:=A.flatMap fun a=>pI n (ofK n 1 (kd n 0 a) B) a
theorem uI(a b:List aF)(ha:a.length<=1073741824)(hb:b.length<=1073741824):Oz a b=some (Ct a b==0):=by unfold Oz aWM;simp only[Tr.den];rw[Vr a b ha hb];rfl
structure MI (o X Y T:List aC):Prop where
 can:Can o
 lt:∀ x,x∈o->∀ y,y∈X++Y->dJ x y<0
 same:lJ (o++(X++Y)) T
 cx:Can X
 cy:Can Y
theorem Can.snoc(h:Can o)(h1:∀ y,y∈o->dJ y x<0)(h2:x.N≠0)(h3:rR x.N):Can (o++[x]):=by
 refine⟨lM.2 ⟨h.lt,oO _ _,fun y hy z hz=>?_⟩,fun y hy=>?_,fun y hy=>?_⟩
 ·rw[bZ.1 hz]; exact h1 y hy
 ·rcases dE.1 hy with hy | hy
  ·exact h.nz y hy
  ·rw[bZ.1 hy]; exact h2
 ·rcases dE.1 hy with hy | hy
  ·exact h.n64 y hy
  ·rw[bZ.1 hy]; exact h3
theorem aHX(h:Can (y::Y))(hx:dJ x y<0):∀ z,z∈y::Y->dJ x z<0:=by
 intro z hz;rcases aX.1 hz with rfl | hz
 ·exact hx
 ·exact xT hx (h.head z hz)
theorem MI.left(h:MI o (x::X) Y T)(hy:∀ z,z∈Y->dJ x z<0):MI (o++[x]) X Y T:=by
 refine⟨h.can.snoc (fun y hy'=>h.lt y hy' x (by simp)) (h.cx.nz x bW) (h.cx.n64 x bW),fun z hz w hw=>?_,?_,h.cx.tail,h.cy⟩
 ·rcases dE.1 hz with hz | hz
  ·exact h.lt z hz w (by rcases dE.1 hw with hw | hw <;> simp[hw])
  ·rw[bZ.1 hz];rcases dE.1 hw with hw | hw
   ·exact h.cx.head w hw
   ·exact hy w hw
 ·have:=h.same;simpa using this
theorem MI.right(h:MI o X (y::Y) T)(hx:∀ z,z∈X->dJ y z<0):MI (o++[y]) X Y T:=by
 refine⟨h.can.snoc (fun z hz=>h.lt z hz y (by simp)) (h.cy.nz y bW) (h.cy.n64 y bW),fun z hz w hw=>?_,?_,h.cx,h.cy.tail⟩
 ·rcases dE.1 hz with hz | hz
  ·exact h.lt z hz w (by rcases dE.1 hw with hw | hw <;> simp[hw])
  ·rw[bZ.1 hz];rcases dE.1 hw with hw | hw
   ·exact hx w hw
   ·exact h.cy.head w hw
 ·refine lJ.trans (.of_perm ?_) h.same;rw[cJ];refine Bd _ ?_;show (y::(X++Y)).Perm (X++y::Y);exact List.perm_middle.symm
theorem Yb(hp:pl x=pl y)(p:Pl->Bool):W (wt p (o++(x::X++y::Y)))=W (wt p o+(if p (pl y)=true then W (y.N+x.N) else 0)+wt p (X++Y)):=by
 rw[iL,iL,iL];simp only[wt,hp];by_cases h:p (pl y)=true
 ·rw[aA h,aA h,aA h];have:=vN (vN (rfl:W (wt p o)=W (wt p o)) (W_W (y.N+x.N))) (rfl:W (wt p X+wt p Y)=W (wt p X+wt p Y));rw[this]; congr 1; omega
 ·rw[aE h,aE h,aE h]; congr 1; omega
theorem MI.both(h:MI o (x::X) (y::Y) T)(hp:pl x=pl y)(h0:W (y.N+x.N)≠0):MI (o++[⟨y.Time,y.Row,W (y.N+x.N)⟩]) X Y T:=by
 have e:∀ z:aC,dJ (⟨y.Time,y.Row,W (y.N+x.N)⟩:aC) z=dJ y z:=fun z=>rfl;have e':∀ z:aC,dJ z (⟨y.Time,y.Row,W (y.N+x.N)⟩:aC)=dJ z y:=fun z=>rfl;refine⟨h.can.snoc (fun z hz=>by rw[e']; exact h.lt z hz y (by simp)) h0 (aPY _),fun z hz w hw=>?_,fun p=>?_,h.cx.tail,h.cy.tail⟩
 ·rcases dE.1 hz with hz | hz
  ·exact h.lt z hz w (by rcases dE.1 hw with hw | hw <;> simp[hw])
  ·rw[bZ.1 hz,e];rcases dE.1 hw with hw | hw
   ·rw[<-nP hp rfl]; exact h.cx.head w hw
   ·exact h.cy.head w hw
 ·rw[<-h.same p,Yb hp,iL,iL];simp only[wt,Int.add_zero];rfl
theorem MI.both0(h:MI o (x::X) (y::Y) T)(hp:pl x=pl y)(h0:W (y.N+x.N)=0):MI o X Y T:=by refine⟨h.can,fun z hz w hw=>h.lt z hz w (by rcases dE.1 hw with hw | hw <;> simp[hw]),fun p=>?_,h.cx.tail,h.cy.tail⟩;rw[<-h.same p,Yb hp,iL,h0];simp
theorem Can.drop{l:List aC}(h:Can l)(k:Nat):Can (l.drop k):=⟨h.lt.drop,fun x hx=>h.nz x (List.mem_of_mem_drop hx),fun x hx=>h.n64 x (List.mem_of_mem_drop hx)⟩
theorem Xa(a b:aC)(ha:okR a)(hb:okR b):aVO a b=some (dJ a b):=by
 unfold aVO aSA;simp only[Tr.den];rw[Vr _ _ ha hb];unfold dJ fX vJ;by_cases h1:a.Time<b.Time
 ·rw[aA (bO h1),aA h1,aE (by omega)]
 ·rw[aE (cB h1),aE h1];by_cases h2:b.Time<a.Time
  ·rw[aA (bO h2),aA h2,aE (by omega)]
  ·rw[aE (cB h2),aE h2,aA rfl]; rfl
theorem aFZ(a b:List aC)(ha:Can a)(hb:Can b)(oa:kH a)(ob:kH b)(hn:a.length+b.length<=1000000000000):
  Sp (cD (fun s=>(Na a b s).den) (([]:List aC),0,0)) (sel (fun r=>Can r/\lJ r (a++b)) (fun _=>False)):=by
 refine Sq.while (fun s:List aC×Int×Int=>∃ i k:Nat,s.2.1=i/\s.2.2=k/\i<=a.length/\k<=b.length/\MI s.1 (a.drop i) (b.drop k) (a++b)/\s.1.length<=i+k) (fun s=>(a.length-s.2.1).toNat+(b.length-s.2.2).toNat) (fun s hs=>?_)
  ⟨0,0,rfl,rfl,by omega,by omega,⟨.nil,by simp,by simpa using lJ.refl _,ha,hb⟩,by simp⟩
 obtain⟨o,i,k⟩:=s;obtain⟨i,k,e1,e2,h1,h2,hM,hlen⟩:=hs;simp only at e1 e2 hM hlen;subst e1 e2;unfold Na;simp only[Tr.den,aQ];have w1:k<b.length->(if IntKind.i64.wrap ((b.length:Int)-1)<(k:Int) then IntKind.i64.wrap ((b.length:Int)-1) else (k:Int))=(k:Int):=by intro hk;rw[bF (by omega) (by omega),aE (by omega)]
 have left:i<a.length->(∀ z,z∈b.drop k->dJ (a.getD i default) z<0)->∀ c:Int,c<0->∀ f:Option (List aC×Int×Int),
   Sp ((if decide (c<0)=true then if 0<=(i:Int)/\(i:Int)<(a.length:Int) then if (o.length+[a.getD i default].length)*40<=140737488355328 then some (o++[a.getD i default],IntKind.i64.wrap ((i:Int)+1),(k:Int)) else none else none else f).bind fun v=>some (Sum.inl (v.1,v.2.1,v.2.2)))
    (sel (fun s':List aC×Int×Int=>(∃ i k:Nat,s'.2.1=i/\s'.2.2=k/\i<=a.length/\k<=b.length/\MI s'.1 (a.drop i) (b.drop k) (a++b)/\s'.1.length<=i+k)/\(a.length-s'.2.1).toNat+(b.length-s'.2.2).toNat<(a.length-(i:Int)).toNat+(b.length-(k:Int)).toNat) (sel (fun r:List aC=>Can r/\lJ r (a++b)) (fun _:List aC=>False))):=by
  intro hi hlt c hc f;rw[aA (bO hc),aA (by omega),aA (by simp only[dA,fH]; omega),aK (by omega)];rw[cU hi]at hM;exact aB.2 ⟨⟨i+1,k,rfl,rfl,by omega,h2,hM.left hlt,by simp only[bQ,dA,fH]; omega⟩,by simp only; omega⟩
 have right:k<b.length->(∀ z,z∈a.drop i->dJ (b.getD k default) z<0)->∀ c:Int,0<c->∀ f:Option (List aC×Int×Int),
   Sp ((if decide (c<0)=true then f else
       if 0<=(if IntKind.i64.wrap ((b.length:Int)-1)<(k:Int) then IntKind.i64.wrap ((b.length:Int)-1) else (k:Int))/\(if IntKind.i64.wrap ((b.length:Int)-1)<(k:Int) then IntKind.i64.wrap ((b.length:Int)-1) else (k:Int))<(b.length:Int) then
        (if (c==0)=true then if 0<=(i:Int)/\(i:Int)<(a.length:Int) then some (IntKind.i64.wrap ((b.getD (if IntKind.i64.wrap ((b.length:Int)-1)<(k:Int) then IntKind.i64.wrap ((b.length:Int)-1) else (k:Int)).toNat default).N+(a.getD i default).N),o,IntKind.i64.wrap ((i:Int)+1)) else none
         else some ((b.getD (if IntKind.i64.wrap ((b.length:Int)-1)<(k:Int) then IntKind.i64.wrap ((b.length:Int)-1) else (k:Int)).toNat default).N,o,(i:Int))).bind fun v=>
         (if (v.1 != 0)=true then if (v.2.1.length+[(⟨(b.getD (if IntKind.i64.wrap ((b.length:Int)-1)<(k:Int) then IntKind.i64.wrap ((b.length:Int)-1) else (k:Int)).toNat default).Time,(b.getD (if IntKind.i64.wrap ((b.length:Int)-1)<(k:Int) then IntKind.i64.wrap ((b.length:Int)-1) else (k:Int)).toNat default).Row,v.1⟩:aC)].length)*40<=140737488355328 then
           some (v.2.1++[(⟨(b.getD (if IntKind.i64.wrap ((b.length:Int)-1)<(k:Int) then IntKind.i64.wrap ((b.length:Int)-1) else (k:Int)).toNat default).Time,(b.getD (if IntKind.i64.wrap ((b.length:Int)-1)<(k:Int) then IntKind.i64.wrap ((b.length:Int)-1) else (k:Int)).toNat default).Row,v.1⟩:aC)]) else none
          else some v.2.1).bind fun v_1=>some (v_1,v.2.2,IntKind.i64.wrap ((k:Int)+1))
       else none).bind fun v=>some (Sum.inl (v.1,v.2.1,v.2.2)))
    (sel (fun s':List aC×Int×Int=>(∃ i k:Nat,s'.2.1=i/\s'.2.2=k/\i<=a.length/\k<=b.length/\MI s'.1 (a.drop i) (b.drop k) (a++b)/\s'.1.length<=i+k)/\(a.length-s'.2.1).toNat+(b.length-s'.2.2).toNat<(a.length-(i:Int)).toNat+(b.length-(k:Int)).toNat) (sel (fun r:List aC=>Can r/\lJ r (a++b)) (fun _:List aC=>False))):=by
  intro hk hlt c hc f;rw[aE (cB (by omega)),w1 hk,aA (by omega),aE (cZ (by omega))];simp only[aI,aQ];rw[cU hk]at hM;rw[aA (Oh (hM.cy.nz _ bW)),aA (by simp only[dA,fH]; omega),aK (by omega)];simp only[aI];exact aB.2 ⟨⟨i,k+1,rfl,rfl,h1,by omega,hM.right hlt,by simp only[bQ,dA,fH]; omega⟩,by simp only; omega⟩
 by_cases hi:i<a.length
 ·rw[aA (bO (show (i:Int)<a.length by omega))];simp only[aI,eJ];rw[aE (cB (show ¬ (i:Int)>=a.length by omega))];by_cases hk:k<b.length
  ·rw[aE (cB (show ¬ (k:Int)>=b.length by omega)),aA (by omega),aA (by omega),Xa _ _ (oa.get i) (ob.get k)];simp only[aI];have hX:=cU hi;have hY:=cU hk;have cX:=ha.drop i;have cY:=hb.drop k;by_cases c1:dJ (a.getD i default) (b.getD k default)<0
   ·exact left hi (by rw[hY]at cY ⊢; exact aHX cY c1) _ c1 _
   ·by_cases c2:dJ (a.getD i default) (b.getD k default)=0
    ·have hp:=lE.1 c2;rw[aE (cB c1),w1 hk,aA (by omega),aA (dI c2),aA (by omega)];simp only[aI,aQ];rw[hX,hY]at hM;by_cases h0:W ((b.getD k default).N+(a.getD i default).N)=0
     ·rw[aE (Ia h0)];simp only[aI];rw[aK (by omega),aK (by omega)];exact aB.2 ⟨⟨i+1,k+1,rfl,rfl,by omega,by omega,hM.both0 hp h0,by simp only; omega⟩,by simp only; omega⟩
     ·rw[aA (Oh h0),aA (by simp only[dA,fH]; omega)];simp only[aI];rw[aK (by omega),aK (by omega)];exact aB.2 ⟨⟨i+1,k+1,rfl,rfl,by omega,by omega,hM.both hp h0,by simp only[bQ,dA,fH]; omega⟩,by simp only; omega⟩
    ·have c3:0<dJ (a.getD i default) (b.getD k default):=by omega
     exact right hk (by rw[hX]at cX ⊢; exact aHX cX (xB.1 c3)) _ c3 _
  ·rw[aA (bO (show (k:Int)>=b.length by omega))];simp only[aI];exact left hi (by rw[jN (show b.length<=k by omega)]; simp) (-1) (by omega) _
 ·rw[aE (cB (show ¬ (i:Int)<a.length by omega))];simp only[aI];by_cases hk:k<b.length
  ·rw[aA (bO (show (k:Int)<b.length by omega)),aA (bO (show (i:Int)>=a.length by omega))];simp only[aI];exact right hk (by rw[jN (show a.length<=i by omega)]; simp) 1 (by omega) _
  ·rw[aE (cB (show ¬ (k:Int)<b.length by omega))];refine aB.2 ⟨hM.can,?_⟩;have:=hM.same;rw[jN (show a.length<=i by omega),jN (show b.length<=k by omega)]at this;simpa using this
theorem Lh(l:List aC)(ho:okD l)(hn:l.length<=1000000000000):aYV l=some (PL.cons l):=by
 refine Sp.eq ?_;refine mH (C:=fun (a:List aC) (x:Option (List aC))=>Con Proofs.Tryz.prog 37 [.t (eL aH (a))] x (fun (y:List aC)=>.t (eL aH (y)))) (fun a=>⟨bU Proofs.Tryz.func37 (by kernel_rfl),fun _ h=>nomatch h⟩) (fun rec a=>aGC rec a) (fun rec a=>Zg rec a)
  (fun l=>okD l/\l.length<=1000000000000) (fun l=>l.length) (fun l d=>d=PL.cons l) (fun b f l hl hrec=>?_) true l ⟨ho,hn⟩
 obtain⟨ho,hn⟩:=hl;unfold aGC;simp only[Tr.den];by_cases h0:l.length=0
 ·rw[aA (dI (by omega))];simp only[aI,eJ];rw[rK h0];exact aB.2 rfl
 rw[aE (cZ (by omega))];by_cases hl1:l.length=1
 ·obtain⟨x,rfl⟩:=Kt.1 hl1;have e1:(([x]:List aC).length:Int)=1:=rfl;have e2:([x]:List aC).getD (0:Int).toNat default=x:=rfl;rw[aA (dI e1),aA (by omega),e2];simp only[aI];have hc:PL.cons [x]=if x.N=0 then [] else [x]:=rfl
  rw[hc];by_cases hz:x.N=0
  ·rw[aA (dI hz),aA hz]; exact aB.2 rfl
  ·have hr:x.Row.length<=1073741824:=ho.r x bW;rw[aE (cZ hz),aA (dI e1),aA (by omega),aA (by omega),aA (by omega),aA (by omega),aE hz]; exact aB.2 rfl
 rw[aE (cZ (by omega))];simp only[aI,dC,cT];have w1:IntKind.i64.wrap (Int.tdiv (l.length:Int) 2)=((l.length / 2:Nat):Int):=by rw[show Int.tdiv (l.length:Int) 2=((l.length / 2:Nat):Int) from rfl];rw[sM (by omega)]
 rw[aE (cZ (by omega)),w1];have e1:(l.drop (0:Int).toNat).take (((l.length / 2:Nat):Int)-0).toNat=l.take (l.length / 2):=by rw[Int.toNat_zero,List.drop_zero,Int.sub_zero,aQ]
 have e2:(l.drop ((l.length / 2:Nat):Int).toNat).take ((l.length:Int)-((l.length / 2:Nat):Int)).toNat=l.drop (l.length / 2):=by rw[aQ]; exact kV (by simp only[fC]; omega)
 have o1:okD (l.take (l.length / 2)):=ho.sub fun x hx=>Hq hx;have o2:okD (l.drop (l.length / 2)):=ho.sub fun x hx=>List.mem_of_mem_drop hx;rw[aA (by omega),e1];refine Sq.bind _ (hrec _ ⟨o1,by simp; omega⟩ (by simp; omega)) (fun r1 h1=>?_);rw[aA (by omega),e2];refine Sq.bind _ (hrec _ ⟨o2,by simp; omega⟩ (by simp; omega)) (fun r2 h2'=>?_);subst h1 h2';have l1:=xF (l.take (l.length / 2));have l2:=xF (l.drop (l.length / 2));simp only[cE,fC]at l1 l2;obtain⟨z,hz1,hz2⟩:=(aFZ _ _ (iS o1.n) (iS o2.n) o1.cons.r o2.cons.r (by omega)).get;rw[hz1];cases z with
 | inr z=>exact hz2.elim
 | inl z=>refine aB.2 (Nq hz2.1 ho.n ?_).symm;refine hz2.2.trans (((iZ _).app (iZ _)).trans ?_);rw[iM];exact lJ.refl _
theorem Ze(fs:List aU)(e:bS)(hl:okL 104 eC fs)(h:dR e):Sp (G81 fs e) (fun _=>True):=by
 have hl1:=hl.1;unfold G81 T81;simp only[Tr.den,bX];refine dU (fun s:List Int×Int=>s.2) fs.length (by omega) (fun s=>s.1.length=s.2.toNat) (fun s k hI hk hkN=>?_) rfl rfl;obtain⟨v1,v2⟩:=s;simp only at hk hI;subst hk;simp only[aQ]at hI;unfold aIN;simp only[Tr.den,aQ];by_cases hc:k<fs.length
 ·rw[aA (bO (by omega)),aA (by omega)];refine Sq.bind _ (Sq.of (Vl v1 _ (by omega) (hl.2 _ (aR hc)).2.2.2)) fun r _=>?_;rw[aA (by simp only[dA,fH]; omega)];refine aB.2 ⟨rfl,hc,?_⟩;simp only;rw[aK (by omega)]; simp; omega
 ·rw[aE (cB (by omega))];refine aB.2 ?_;simp only[sel,bX];exact(Sq.of (Vl v1 e (by omega) h)).imp fun _ _=>aB.2 trivial
theorem aOW(fs:List aU)(n:aG)(hl:okL 104 eC fs)(h:jI n):Sp (G33 fs n) (fun r=>r=true->n.Key.length<=20/\n.Seq.length<=8):=by
 obtain⟨_,_,_,_,hE,_,_,_,_,_,_,_,_,_,hS,_⟩:=h;have hE1:=hE.1;have hS1:=hS.1;have hl1:=hl.1;unfold G33 T33;simp only[Tr.den,bX];refine dU (fun s:Int=>s) fs.length (by omega) (fun _=>True) (fun s k _ hk hkN=>?_) trivial rfl;subst hk;unfold aHV;simp only[Tr.den,aQ,oF,aI];by_cases hc:((k:Int)<(fs.length:Int))/\(k:Int)<6
 ·rw[aA (bO hc),aA (by omega)];refine Sq.bind _ (So _ (hl.2 _ (aR (show k<fs.length by omega))).2.2.2) fun r _=>?_;refine Sq.bind (fun _=>True) ?_ (fun j _=>?_)
  ·by_cases h1:r>100
   ·rw[aA (bO h1)]; exact aB.2 trivial
   ·rw[aE (cB h1),aA (by omega)]; exact aB.2 trivial
  ·cases j with
   | true=>exact aB.2 (aB.2 fun h=>by cases h)
   | false=>exact aB.2 ⟨rfl,by omega,trivial⟩
 ·rw[aE (cB hc)];refine aB.2 ?_;simp only[sel,bX];refine dU (fun s:Int=>s) n.Exprs.length (by omega) (fun _=>True) (fun s k _ hk hkN=>?_) trivial rfl;subst hk;unfold aEJ;simp only[Tr.den,aQ,oF,aI];by_cases hc:((k:Int)<(n.Exprs.length:Int))/\(k:Int)<13
  ·rw[aA (bO hc),aA (by omega)];have he:=okEs.get hE (show k<n.Exprs.length by omega);refine Sq.bind _ (Sq.of (So _ he)) fun r _=>?_;refine Sq.bind (fun _=>True) ?_ (fun j _=>?_)
   ·by_cases h1:r>200
    ·rw[aA (bO h1)]; exact aB.2 trivial
    ·rw[aE (cB h1),aA (by omega)];refine Sq.bind _ (Sq.of (aIL _ he)) fun r _=>?_;by_cases h2:r>12
     ·rw[aA (bO h2)]; exact aB.2 trivial
     ·rw[aE (cB h2),aA (by omega)];refine Sq.bind _ (Sq.of (Ze fs _ hl he)) fun r _=>aB.2 trivial
   ·cases j with
    | true=>exact aB.2 (aB.2 fun h=>by cases h)
    | false=>exact aB.2 ⟨rfl,by omega,trivial⟩
  ·rw[aE (cB hc)];refine aB.2 ?_;simp only[sel,bX];refine dU (fun s:Int=>s) n.Seq.length (by omega) (fun _=>True) (fun s k _ hk hkN=>?_) trivial rfl;subst hk;unfold aJQ;simp only[Tr.den,aQ,oF,aI];by_cases hc:((k:Int)<(n.Seq.length:Int))/\(k:Int)<9
   ·rw[aA (bO hc),aA (by omega)];have he:=(hS.2 _ (aR (show k<n.Seq.length by omega))).1;refine Sq.bind _ (Sq.of (So _ he)) fun r _=>?_;refine Sq.bind (fun _=>True) ?_ (fun j _=>?_)
    ·by_cases h1:r>200
     ·rw[aA (bO h1)]; exact aB.2 trivial
     ·rw[aE (cB h1),aA (by omega)];refine Sq.bind _ (Sq.of (aIL _ he)) fun r _=>?_;by_cases h2:r>12
      ·rw[aA (bO h2)]; exact aB.2 trivial
      ·rw[aE (cB h2),aA (by omega)];refine Sq.bind _ (Sq.of (Ze fs _ hl he)) fun r _=>aB.2 trivial
    ·cases j with
     | true=>exact aB.2 (aB.2 fun h=>by cases h)
     | false=>exact aB.2 ⟨rfl,by omega,trivial⟩
   ·rw[aE (cB hc)];refine aB.2 ?_;simp only[sel];exact aB.2 fun h=>by have:=dX h; omega
theorem Xz(fs:List aU)(hl:okL 104 eC fs):Sp (G82 fs) (fun _=>True):=(aEL fs (Dj hl).1 (Dj hl).2).imp fun _ _=>trivial
theorem aEB(fs:List aU)(cs ps:List Int)(e:bS)(hl:okL 104 eC fs)(he:dR e):Sp (G86 fs cs ps e) (fun r=>r.2=true->oP fs cs ps e=some (r.1,true)):=by
 unfold G86 T86;simp only[Tr.den];refine Sq.bind _ (Xz fs hl) fun r _=>?_;split
 ·exact aB.2 fun h=>by cases h
 ·obtain⟨y,hy,_⟩:=(Ga fs cs ps e he.bnd).get;rw[hy];simp only[aI];exact aB.2 fun h=>by rw[show (y.1,true)=y from Prod.ext rfl h.symm]
theorem aEG(fs:List aU)(e:bS)(cs:List Int)(hl:okL 104 eC fs)(he:dR e):Sp (G85 fs e cs) (fun r=>r=true->oP fs cs [] e=some (2,true)):=by
 unfold G85 T85;simp only[Tr.den];refine Sq.bind _ (aEB fs cs [] e hl he) fun r hr=>?_;refine Sq.bind (fun j:Bool=>j=true->r.2=true/\r.1=2) (bT (fun h=>aB.2 fun h2=>⟨h,eE.1 h2⟩) (fun _=>aB.2 fun h=>by cases h)) fun j hj=>aB.2 fun h=>by
  have h1:=hr (hj h).1
  rwa [(hj h).2]at h1
theorem sqf{α:Type}{x:Option α}{Q:α->Prop}:Sq false x Q↔∀ y,x=some y->Q y:=⟨fun h=>h.1,fun h=>⟨h,fun h'=>by cases h'⟩⟩
theorem kD{α:Type}{c:Prop}[Decidable c]{x:Option α}{Q:α->Prop}(h:c->Sq false x Q):Sq false (if c then x else none) Q:=by
 by_cases hc:c
 ·rw[aA hc]; exact h hc
 ·rw[aE hc]; exact sqf.2 fun y hy=>by cases hy
section
variable {P:Program} {A R:Type}
theorem aBZ{C:A->Option R->Prop}(c0:∀ a,C a none)(B:{f:A->Option R // ∀ a,C a (f a)}->A->Tr P R)(ok:∀ f a,C a (B f a).den)(Q:A->R->Prop)
  (h:∀ f a,(∀ a',Sq false (f.1 a') (Q a'))->Sq false (B f a).den (Q a))(a:A):Sq false (vL c0 B ok a) (Q a):=by
 have h1:∀ k a,Sq false ((aBN c0 B ok k).1 a) (Q a):=by
  intro k
  induction k with
  | zero=>intro a; exact sqf.2 fun y hy=>by cases hy
  | succ k ih=>intro a; exact h _ _ ih
 unfold vL Lim;split
 ·rename_i hh;obtain⟨k,hk⟩:=hh.choose_spec;exact aB.2 ((h1 k a).1 _ hk)
 ·exact sqf.2 fun y hy=>by cases hy
end
def TyV(t:Int)(v:aF):Prop:=v.Kind=t/\(t≠1->v.S.toList=(⟨#[]⟩:ByteArray).toList)/\(t=1->v.N=0/\v.S.size<=200)/\(t=2->v.N=0\/v.N=1)/\0<=t/\t<=2
theorem pY(n:Int):TyV 0 (vI n):=⟨rfl,fun _=>rfl,(fun h=>by cases h),(fun h=>by cases h),by decide,by decide⟩
theorem Bj(b:Bool):TyV 2 (vB b):=⟨rfl,fun _=>rfl,(fun h=>by cases h),(fun _=>by cases b with | false=>exact .inl rfl | true=>exact .inr rfl),by decide,by decide⟩
theorem aRN{s:ByteArray}(h:s.size<=200):TyV 1 (vT s):=⟨rfl,fun h=>absurd rfl h,fun _=>⟨rfl,h⟩,(fun h=>by cases h),by decide,by decide⟩
theorem aBT(s:ByteArray)(k:Nat)(h:k<=200):(s.extract 0 k).size<=200:=by rw[ByteArray.size_extract]; omega
def tyB(op:Int):Int:=if op<=12 then 0 else if op<=18 then 2 else 1
theorem aFW(op:Int)(a b:aF)(h:8<=op/\op<=19):TyV (tyB op) (bop op a b):=by
 have hs:op=8\/op=9\/op=10\/op=11\/op=12\/op=13\/op=14\/op=15\/op=16\/op=17\/op=18\/op=19:=by omega
 rcases hs with h | h | h | h | h | h | h | h | h | h | h | h
 all_goals subst h
 all_goals unfold bop
 ·exact pY _
 ·exact pY _
 ·exact pY _
 ·show TyV 0 (if b.N=0 then vI 0 else vI (IntKind.i64.wrap (Int.tdiv a.N b.N)));split <;> exact pY _
 ·show TyV 0 (if b.N=0 then vI 0 else vI (Int.tmod a.N b.N));split <;> exact pY _
 ·exact Bj _
 ·exact Bj _
 ·exact Bj _
 ·exact Bj _
 ·exact Bj _
 ·exact Bj _
 ·exact aRN (aBT _ _ (by omega))
theorem aPV(p:cF):Sq false (aAF p) (TyV 1):=by
 by_cases h:p.a_.S.size+p.b_.S.size<=9223372036854775807
 ·rw[Xs p h]; exact aB.2 (aFW 19 p.a_ p.b_ (by decide))
 ·unfold aAF aJG;simp only[Tr.den];exact kD fun h'=>absurd h' (by omega)
inductive TyE (fs:List aU)(cs ps:List Int):bS->Int->Prop
 | mk {e:bS} {t:Int} (ts:List Int) (hl:ts.length=e.Args.length) (hb:e.Args.length<=1048576) (ho:0<=e.Op/\e.Op<=22)
   (hA:∀ i,i<e.Args.length->TyE fs cs ps (e.Args.getD i default) (ts.getD i default))
   (o0:e.Op=0\/e.Op=5\/e.Op=7\/e.Op=20->t=0) (o1:e.Op=1->t=1/\e.S.size<=200) (o2:e.Op=2\/e.Op=6->t=2) (ob:8<=e.Op/\e.Op<=19->2<=e.Args.length/\t=tyB e.Op)
   (o3:e.Op=3->(0<=e.N/\e.N<cs.length)/\t=cs.getD e.N.toNat default) (o4:e.Op=4->(0<=e.N/\e.N<ps.length)/\t=ps.getD e.N.toNat default)
   (o21:e.Op=21->(3<=e.Args.length)/\ts.getD 1 default=t/\ts.getD 2 default=t)
   (o22:e.Op=22->(0<=e.N/\e.N<fs.length)/\ts=(fs.getD e.N.toNat default).Params/\t=(fs.getD e.N.toNat default).Result)
   (oc:13<=e.Op/\e.Op<=16->ts.getD 0 default=ts.getD 1 default):TyE fs cs ps e t
def TyR(ts:List Int)(row:List aF):Prop:=∀ i,i<ts.length->TyV (ts.getD i default) (row.getD i default)
def aSE(fs:List aU):Prop:=∀ i,i<fs.length->TyE fs [] (fs.getD i default).Params (fs.getD i default).Body (fs.getD i default).Result
theorem aNL(f:gG)(e:bS):Sq false (aUQ f e) (fun v=>∀ cs ps t,TyR cs f.row_->TyR ps f.params_->aSE f.funcs_->TyE f.funcs_ cs ps e t->TyV t v):=by
 refine aBZ (C:=fun (a:gG×bS) (x:Option (aF))=>Con Proofs.Tryz.prog 171 [.t (jK a.1),.t (dH a.2)] x (fun (y:aF)=>.t (cP y))) (fun a=>⟨bU Proofs.Tryz.func171 (by kernel_rfl),fun _ h=>nomatch h⟩) (fun rec a=>Sb rec a.1 a.2) (fun rec a=>Mb rec a.1 a.2)
  (fun a v=>∀ cs ps t,TyR cs a.1.row_->TyR ps a.1.params_->aSE a.1.funcs_->TyE a.1.funcs_ cs ps a.2 t->TyV t v) (fun r a hrec=>?_) (f,e)
 clear f e;obtain⟨f,e⟩:=a;simp only at hrec ⊢;refine sqf.2 fun y hy cs ps t hrow hpar hfs he=>?_;revert y;refine sqf.1 ?_;cases he with
 | mk ts hl hb ho hA o0 o1 o2 ob o3 o4 o21 o22 oc=>
 have hr:∀ i,i<e.Args.length->Sq false (r.1 (f,e.Args.getD i default)) (TyV (ts.getD i default)):=fun i hi=>(hrec (f,e.Args.getD i default)).imp fun v hv=>hv cs ps _ hrow hpar hfs (hA i hi);unfold Sb;by_cases h21:e.Op=21
 ·obtain⟨hl3,e1,e2⟩:=o21 h21;simp only[h21,Tr.den];rw[aA (by decide),aA (by omega)];refine Sq.bind _ (hr 0 (by omega)) fun v1 _=>?_;split
  ·rw[aA (by omega)];refine Sq.bind _ (hr 1 (by omega)) fun v2 h2=>aB.2 (e1▸h2)
  ·rw[aA (by omega)];refine Sq.bind _ (hr 2 (by omega)) fun v2 h2=>aB.2 (e2▸h2)
 ·simp only[Tr.den];rw[aE (by simpa using h21)];refine bX.2 (mZ (fun s:List aF×Int=>s.2) e.Args.length (by omega) (fun s=>(s.1.length:Int)=s.2/\∀ i:Nat,(i:Int)<s.2->TyV (ts.getD i default) (s.1.getD i default)) (fun s k hI hk hkN=>?_) ⟨rfl,fun i hi=>absurd hi (by show ¬ ((i:Int)<0); omega)⟩ rfl);obtain⟨b6,v5⟩:=s;obtain⟨hbl,hbs⟩:=hI;simp only at hk hbl hbs;subst hk;unfold Lo;simp only[Tr.den,aQ];by_cases hc:k<e.Args.length
  ·rw[aA (bO (by omega)),aA (by omega)];refine Sq.bind _ (hr k hc) fun v hv=>?_;refine kD fun _=>?_;refine aB.2 ⟨rfl,hc,?_,fun i hi=>?_⟩
   ·simp only[bQ,dN]; rw[aK (by omega)]; omega
   ·simp only at hi;rw[aK (by omega)]at hi;simp only;rw[bE];by_cases hik:i<b6.length
    ·rw[aA hik]; exact hbs i (by omega)
    ·rw[aE hik];obtain rfl:i=k:=by omega
     rw[show i-b6.length=0 by omega]; exact hv
  ·rw[aE (cB (by omega))];refine aB.2 ?_;have hbe:b6.length=e.Args.length:=by omega
   show Sq false _ (TyV t);simp only[sel];have z0:(0:Int).toNat=0:=rfl;have z1:(1:Int).toNat=1:=rfl;have hop:e.Op=0\/e.Op=1\/e.Op=2\/e.Op=3\/e.Op=4\/e.Op=5\/e.Op=6\/e.Op=7\/e.Op=20\/e.Op=22\/(8<=e.Op/\e.Op<=19):=by omega
   rcases hop with h | h | h | h | h | h | h | h | h | h | h
   ·rw[aA (by rw[h]; rfl),gW]; exact aB.2 (o0 (by omega)▸pY _)
   ·simp (decide:=true) only[h,↓reduceIte];rw[(o1 h).1]; exact aB.2 (aRN (o1 h).2)
   ·simp (decide:=true) only[h,↓reduceIte,jJ];exact aB.2 (o2 (by omega)▸Bj _)
   ·obtain⟨h3,e3⟩:=o3 h;simp (decide:=true) only[h,↓reduceIte];refine kD fun _=>aB.2 ?_;rw[e3]; exact hrow _ (by omega)
   ·obtain⟨h3,e3⟩:=o4 h;simp (decide:=true) only[h,↓reduceIte];refine kD fun _=>aB.2 ?_;rw[e3]; exact hpar _ (by omega)
   ·simp (decide:=true) only[h,↓reduceIte,gW];exact aB.2 (o0 (by omega)▸pY _)
   ·simp (decide:=true) only[h,↓reduceIte,jJ];exact kD fun _=>kD fun _=>aB.2 (o2 (by omega)▸Bj _)
   ·simp (decide:=true) only[h,↓reduceIte,gW];exact kD fun _=>kD fun _=>aB.2 (o0 (by omega)▸pY _)
   ·simp (decide:=true) only[h,↓reduceIte,gW];exact kD fun _=>kD fun _=>aB.2 (o0 (by omega)▸pY _)
   ·obtain⟨h3,e3,e4⟩:=o22 h;simp (decide:=true) only[h,↓reduceIte];refine kD fun _=>?_;refine Sq.bind _ (hrec (_,_)) fun v hv=>aB.2 ?_;rw[e4];refine hv [] _ _ (fun i hi=>absurd hi (Ba i)) ?_ hfs (hfs e.N.toNat (by omega));rw[<-e3];exact fun i hi=>hbs i (by omega)
   ·obtain⟨l2,ht⟩:=ob h;have d2:0<b6.length:=by omega
    have d3:1<b6.length:=by omega
    have hop:e.Op=8\/e.Op=9\/e.Op=10\/e.Op=11\/e.Op=12\/e.Op=13\/e.Op=14\/e.Op=15\/e.Op=16\/e.Op=17\/e.Op=18\/e.Op=19:=by omega
    have fin:∀ {x:Option aF} {op:Int},e.Op=op->x=some (bop op (b6.getD 0 default) (b6.getD 1 default))->Sq false x (TyV t):=fun h1 h2=>by rw[h2,ht,h1]; exact aB.2 (aFW _ _ _ (by omega))
    rcases hop with h | h | h | h | h | h | h | h | h | h | h | h
    ·simp (decide:=true) only[h,↓reduceIte];change Sq false (((some 225:Option Nat).bind _).bind _) (TyV t);simp only[aI,Tr.den,z0,z1];rw[aA ⟨trivial,by omega⟩,aA d2,aA ⟨trivial,by omega⟩,aA d3,Xh];exact fin h rfl
    ·simp (decide:=true) only[h,↓reduceIte];change Sq false (((some 226:Option Nat).bind _).bind _) (TyV t);simp only[aI,Tr.den,z0,z1];rw[aA ⟨trivial,by omega⟩,aA d2,aA ⟨trivial,by omega⟩,aA d3,Xw];exact fin h rfl
    ·simp (decide:=true) only[h,↓reduceIte];change Sq false (((some 227:Option Nat).bind _).bind _) (TyV t);simp only[aI,Tr.den,z0,z1];rw[aA ⟨trivial,by omega⟩,aA d2,aA ⟨trivial,by omega⟩,aA d3,Yd];exact fin h rfl
    ·simp (decide:=true) only[h,↓reduceIte];change Sq false (((some 228:Option Nat).bind _).bind _) (TyV t);simp only[aI,Tr.den,z0,z1];rw[aA ⟨trivial,by omega⟩,aA d2,aA ⟨trivial,by omega⟩,aA d3,Vu];exact fin h rfl
    ·simp (decide:=true) only[h,↓reduceIte];change Sq false (((some 229:Option Nat).bind _).bind _) (TyV t);simp only[aI,Tr.den,z0,z1];rw[aA ⟨trivial,by omega⟩,aA d2,aA ⟨trivial,by omega⟩,aA d3,Za];exact fin h rfl
    ·simp (decide:=true) only[h,↓reduceIte];change Sq false (((some 230:Option Nat).bind _).bind _) (TyV t);simp only[aI,Tr.den,z0,z1];rw[aA ⟨trivial,by omega⟩,aA d2,aA ⟨trivial,by omega⟩,aA d3,Yi];exact fin h rfl
    ·simp (decide:=true) only[h,↓reduceIte];change Sq false (((some 231:Option Nat).bind _).bind _) (TyV t);simp only[aI,Tr.den,z0,z1];rw[aA ⟨trivial,by omega⟩,aA d2,aA ⟨trivial,by omega⟩,aA d3,Vq];exact fin h rfl
    ·simp (decide:=true) only[h,↓reduceIte];change Sq false (((some 232:Option Nat).bind _).bind _) (TyV t);simp only[aI,Tr.den,z0,z1];rw[aA ⟨trivial,by omega⟩,aA d2,aA ⟨trivial,by omega⟩,aA d3,Wh];exact fin h rfl
    ·simp (decide:=true) only[h,↓reduceIte];change Sq false (((some 233:Option Nat).bind _).bind _) (TyV t);simp only[aI,Tr.den,z0,z1];rw[aA ⟨trivial,by omega⟩,aA d2,aA ⟨trivial,by omega⟩,aA d3,Xp];exact fin h rfl
    ·simp (decide:=true) only[h,↓reduceIte];change Sq false (((some 234:Option Nat).bind _).bind _) (TyV t);simp only[aI,Tr.den,z0,z1];rw[aA ⟨trivial,by omega⟩,aA d2,aA ⟨trivial,by omega⟩,aA d3,Xi];exact fin h rfl
    ·simp (decide:=true) only[h,↓reduceIte];change Sq false (((some 235:Option Nat).bind _).bind _) (TyV t);simp only[aI,Tr.den,z0,z1];rw[aA ⟨trivial,by omega⟩,aA d2,aA ⟨trivial,by omega⟩,aA d3,Ys];exact fin h rfl
    ·simp (decide:=true) only[h,↓reduceIte];change Sq false (((some 236:Option Nat).bind _).bind _) (TyV t);simp only[aI,Tr.den,z0,z1];rw[aA ⟨trivial,by omega⟩,aA d2,aA ⟨trivial,by omega⟩,aA d3];rw[ht,h];exact Sq.bind (fun v:Int×Int×ByteArray=>TyV 1 ⟨v.1,v.2.1,v.2.2⟩) (Sq.bind _ (aPV _) fun v hv=>aB.2 hv) fun v hv=>aB.2 hv
theorem Xu(l:List Int)(n:Int):Sp (aHC l n) (fun r=>r.2=true->(0<=n/\n<l.length)/\r.1=l.getD n.toNat default):=by
 unfold aHC aOM;simp only[Tr.den];by_cases h1:n<0
 ·rw[aA (bO h1)];exact aB.2 (fun h=>by cases h)
 ·rw[aE (cB h1)];by_cases h2:n>=(l.length:Int)
  ·simp only[aI,wV h2,eJ];exact aB.2 (fun h=>by cases h)
  ·simp only[aI,fI h2,dC,cT];rw[aA (by omega),aA (by omega),Ed];exact aB.2 (fun _=>⟨by omega,rfl⟩)
theorem aKI(fs:List aU)(n:Int)(l:List Int)(hl:l.length<=1048576):Sp (aFO fs n l) (fun r=>r.2=true->(0<=n/\n<fs.length)/\l=(fs.getD n.toNat default).Params/\r.1=(fs.getD n.toNat default).Result):=by
 unfold aFO aLC;simp only[Tr.den];by_cases h1:n<0
 ·rw[aA (bO h1)];exact aB.2 (fun h=>by cases h)
 ·rw[aE (cB h1)];by_cases h2:n>=(fs.length:Int)
  ·simp only[aI,wV h2,eJ];exact aB.2 (fun h=>by cases h)
  ·simp only[aI,fI h2,dC,cT];rw[aA (by omega)];by_cases h3:((fs.getD n.toNat default).Params.length:Int)=(l.length:Int)
   ·rw[aE (by simpa using h3)];refine bX.2 (mZ (fun s:Int=>s) l.length (by omega) (fun s=>∀ i:Nat,(i:Int)<s->l.getD i default=(fs.getD n.toNat default).Params.getD i default) (fun s k hI hk hkN=>?_) (fun i hi=>absurd hi (by show ¬ ((i:Int)<0); omega)) rfl);subst hk;unfold Md;simp only[Tr.den,aQ];by_cases hc:k<l.length
    ·rw[aA (bO (by omega)),aA (by omega),aA (by omega)];split
     ·exact aB.2 (aB.2 (fun h=>by cases h))
     ·rename_i hne;refine aB.2 ⟨rfl,hc,fun i hi=>?_⟩;rw[aK (by omega)]at hi;rcases mG i k with h | h
      ·exact hI i (by omega)
      ·obtain rfl:i=k:=by omega
       exact oY fun hh=>hne (Oh hh)
    ·rw[aE (cB (by omega))];exact aB.2 (aB.2 (fun _=>⟨by omega,Fs (by omega) fun i hi=>hI i (by omega),rfl⟩))
   ·rw[aA (by simpa using h3)];exact aB.2 (fun h=>by cases h)
theorem aKE(fs:List aU)(cs ps:List Int)(e:bS)(he:vK e):Sp (aWW fs cs ps e) (fun r=>r.2=true->TyE fs cs ps e r.1):=by
 refine mH (C:=fun (a:(List aU)×(List Int)×(List Int)×bS) (x:Option (Int×Bool))=>Con Proofs.Tryz.prog 212 [.t (eL bM (a.1)),.t (eL aY (a.2.1)),.t (eL aY (a.2.2.1)),.t (dH a.2.2.2)] x (fun (y:Int×Bool)=>.tup [.t (.int .i64 (y.1)),.t (.bool (y.2))])) (fun a=>⟨bU Proofs.Tryz.func212 (by kernel_rfl),fun _ h=>nomatch h⟩) (fun rec a=>Ux rec a.1 a.2.1 a.2.2.1 a.2.2.2) (fun rec a=>Nk rec a.1 a.2.1 a.2.2.1 a.2.2.2)
  (fun a=>vK a.2.2.2) (fun a=>SizeOf.sizeOf a.2.2.2) (fun a r=>r.2=true->TyE a.1 a.2.1 a.2.2.1 a.2.2.2 r.1) (fun b r a ha hrec=>?_) true (fs,cs,ps,e) he
 clear he fs cs ps e;obtain⟨fs,cs,ps,e⟩:=a;simp only at ha hrec ⊢;cases ha with
 | mk hs hl hA=>
 have hr:∀ i,i<e.Args.length->Sq b (r.1 (fs,cs,ps,e.Args.getD i default)) (fun r=>r.2=true->TyE fs cs ps (e.Args.getD i default) r.1):=fun i hi=>hrec _ (hA i hi) (sK (aR hi));unfold Ux;simp only[Tr.den];refine bX.2 (mZ (fun s:List Int×Int=>s.2) e.Args.length (by omega) (fun s=>(s.1.length:Int)=s.2/\∀ i:Nat,(i:Int)<s.2->TyE fs cs ps (e.Args.getD i default) (s.1.getD i default)) (fun s k hI hk hkN=>?_) ⟨rfl,fun i hi=>absurd hi (by show ¬ ((i:Int)<0); omega)⟩ rfl);obtain⟨b3,v2⟩:=s;obtain⟨hbl,hbs⟩:=hI;simp only at hk hbl hbs;subst hk;unfold Mn;simp only[Tr.den,aQ];by_cases hc:k<e.Args.length
 ·rw[aA (bO (by omega)),aA (by omega)];refine Sq.bind _ (hr k hc) fun v hv=>?_;by_cases hv2:v.2=true
  ·rw[aE (by rw[hv2]; decide),aA (by simp only[dN]; omega)];refine aB.2 ⟨rfl,hc,?_,fun i hi=>?_⟩
   ·simp only[bQ,dN]; rw[aK (by omega)]; omega
   ·simp only at hi ⊢;rw[aK (by omega)]at hi;rw[bE];rcases mG i k with h | h
    ·rw[aA (by omega)]; exact hbs i (by omega)
    ·have:i=k:=by omega
     subst this;rw[aE (by omega),show i-b3.length=0 by omega]; exact hv hv2
  ·rw[aA (by simp only[Bool.not_eq_true]at hv2; rw[hv2]; rfl)];exact aB.2 (aB.2 (fun h=>by cases h))
 ·rw[aE (cB (by omega))];refine aB.2 ?_;have hbe:b3.length=e.Args.length:=by omega
  have hA':∀ i,i<e.Args.length->TyE fs cs ps (e.Args.getD i default) (b3.getD i default):=fun i hi=>hbs i (by omega);simp only[sel];refine Sq.bind (fun s:List Int×Bool=>s.1=b3) (by split <;> exact aB.2 rfl) (fun s hsb=>?_);obtain⟨j5,j6⟩:=s;simp only at hsb;subst hsb;cases j6 with
  | true=>exact aB.2 (fun h=>by cases h)
  | false=>
   simp only[dC,cT];by_cases h22:e.Op=22
   ·rw[aA (by rw[h22]; rfl)];refine Sq.bind _ (Sq.of (aKI fs e.N j5 (by omega))) fun r hr=>aB.2 (fun h=>?_);have h3:=hr h;exact .mk j5 hbe (by omega) (by omega) hA' (fun h=>by omega) (fun h=>by omega) (fun h=>by omega) (fun h=>by omega) (fun h=>by omega) (fun h=>by omega) (fun h=>by omega) (fun _=>h3) (fun h=>by omega)
   ·rw[aE (by simpa using h22),Yp];simp only[aI];by_cases hN:Zt e.Op=(j5.length:Int)
    ·rw[aE (by simpa using hN)];have hh:(0<=e.Op/\e.Op<=21)/\(e.Op=6\/e.Op=7\/e.Op=20->1<=j5.length)/\(8<=e.Op/\e.Op<=19->2<=j5.length)/\(e.Op=21->3<=j5.length):=by
      unfold Zt at hN
      repeat' split at hN
      all_goals omega
     obtain⟨ho,c1,c2,c21⟩:=hh;clear hN;by_cases h3:e.Op=3
     ·simp (decide:=true) only[h3,↓reduceIte];refine Sq.bind _ (Sq.of (Xu cs e.N)) fun r hr=>aB.2 (fun h=>.mk j5 hbe (by omega) (by omega) hA' (fun h=>by omega) (fun h=>by omega) (fun h=>by omega) (fun h=>by omega) (fun _=>hr h) (fun h=>by omega) (fun h=>by omega) (fun h=>by omega) (fun h=>by omega))
     by_cases h4:e.Op=4
     ·simp (decide:=true) only[h4,↓reduceIte];refine Sq.bind _ (Sq.of (Xu ps e.N)) fun r hr=>aB.2 (fun h=>.mk j5 hbe (by omega) (by omega) hA' (fun h=>by omega) (fun h=>by omega) (fun h=>by omega) (fun h=>by omega) (fun h=>by omega) (fun _=>hr h) (fun h=>by omega) (fun h=>by omega) (fun h=>by omega))
     have fin:∀ t:Int,e.Op≠21->(e.Op=0\/e.Op=5\/e.Op=7\/e.Op=20->t=0)->(e.Op=1->t=1/\e.S.size<=200)->(e.Op=2\/e.Op=6->t=2)->(8<=e.Op/\e.Op<=19->t=tyB e.Op)->(13<=e.Op/\e.Op<=16->j5.getD 0 default=j5.getD 1 default)->TyE fs cs ps e t:=fun t q1 q2 q3 q4 q5 q6=>
      .mk j5 hbe (by omega) (by omega) hA' q2 q3 q4 (fun h=>⟨by have:=c2 h; omega,q5 h⟩) (fun h=>absurd h h3) (fun h=>absurd h h4) (fun h=>absurd h q1) (fun h=>absurd h h22) q6
     by_cases hu:e.Op=0\/e.Op=1\/e.Op=2\/e.Op=5
     ·rcases hu with h | h | h | h
      ·simp (decide:=true) only[h,↓reduceIte]
       repeat' (first | exact aB.2 (fun _=>fin 0 (by omega) (fun _=>rfl) (fun _=>by omega) (fun _=>by omega) (fun _=>by omega) (fun _=>by omega)) | exact aB.2 (fun h=>by cases h) | split)
      ·simp (decide:=true) only[h,↓reduceIte]
       repeat' (first | exact aB.2 (fun hd=>fin 1 (by omega) (fun _=>by omega) (fun _=>⟨rfl,by have:=dX hd; omega⟩) (fun _=>by omega) (fun _=>by omega) (fun _=>by omega)) | exact aB.2 (fun h=>by cases h) | split)
      ·simp (decide:=true) only[h,↓reduceIte]
       repeat' (first | exact aB.2 (fun _=>fin 2 (by omega) (fun _=>by omega) (fun _=>by omega) (fun _=>by omega) (fun _=>by omega) (fun _=>by omega)) | exact aB.2 (fun h=>by cases h) | split)
      ·simp (decide:=true) only[h,↓reduceIte]
       repeat' (first | exact aB.2 (fun _=>fin 0 (by omega) (fun _=>rfl) (fun _=>by omega) (fun _=>by omega) (fun _=>by omega) (fun _=>by omega)) | exact aB.2 (fun h=>by cases h) | split)
     by_cases hu1:e.Op=6\/e.Op=7\/e.Op=20
     ·have g0:(0:Int)<(j5.length:Int):=by have:=c1 hu1; omega
      have g0':Int.toNat 0<j5.length:=by show 0<j5.length; omega
      rcases hu1 with h | h | h
      ·simp (decide:=true) only[h,g0,g0',nH,↓reduceIte]
       repeat' (first | exact aB.2 (fun _=>fin 2 (by omega) (fun _=>by omega) (fun _=>by omega) (fun _=>by omega) (fun _=>by omega) (fun _=>by omega)) | exact aB.2 (fun h=>by cases h) | split)
      ·simp (decide:=true) only[h,g0,g0',nH,↓reduceIte]
       repeat' (first | exact aB.2 (fun _=>fin 0 (by omega) (fun _=>rfl) (fun _=>by omega) (fun _=>by omega) (fun _=>by omega) (fun _=>by omega)) | exact aB.2 (fun h=>by cases h) | split)
      ·simp (decide:=true) only[h,g0,g0',nH,↓reduceIte]
       repeat' (first | exact aB.2 (fun _=>fin 0 (by omega) (fun _=>rfl) (fun _=>by omega) (fun _=>by omega) (fun _=>by omega) (fun _=>by omega)) | exact aB.2 (fun h=>by cases h) | split)
     have l2:2<=j5.length:=by
      by_cases h:e.Op=21
      ·have:=c21 h; omega
      ·exact c2 (by omega)
     have g0:(0:Int)<(j5.length:Int):=by omega
     have g0':Int.toNat 0<j5.length:=by show 0<j5.length; omega
     have g1:(1:Int)<(j5.length:Int):=by omega
     have g1':Int.toNat 1<j5.length:=by show 1<j5.length; omega
     have hop:e.Op=8\/e.Op=9\/e.Op=10\/e.Op=11\/e.Op=12\/e.Op=13\/e.Op=14\/e.Op=15\/e.Op=16\/e.Op=17\/e.Op=18\/e.Op=19\/e.Op=21:=by omega
     have fin2:∀ t:Int,(8<=e.Op/\e.Op<=19)->t=tyB e.Op->(13<=e.Op/\e.Op<=16->j5.getD 0 default=j5.getD 1 default)->TyE fs cs ps e t:=fun t q1 q2 q3=>fin t (by omega) (fun _=>by omega) (fun _=>by omega) (fun _=>by omega) (fun _=>q2) q3;rcases hop with h | h | h | h | h | h | h | h | h | h | h | h | h
     iterate 5
      ·simp (decide:=true) only[h,g0,g0',g1,g1',nH,↓reduceIte,aI]
       repeat' (first | exact aB.2 (fun _=>fin2 0 (by omega) (by rw[h]; rfl) fun _=>by omega) | exact aB.2 (fun h=>by cases h) | split)
     iterate 4
      ·simp (decide:=true) only[h,g0,g0',g1,g1',nH,↓reduceIte,aI]
       repeat' (first | exact aB.2 (fun hq=>fin2 2 (by omega) (by rw[h]; rfl) fun _=>eE.1 hq) | exact aB.2 (fun h=>by cases h) | split)
     iterate 2
      ·simp (decide:=true) only[h,g0,g0',g1,g1',nH,↓reduceIte,aI]
       repeat' (first | exact aB.2 (fun _=>fin2 2 (by omega) (by rw[h]; rfl) fun _=>by omega) | exact aB.2 (fun h=>by cases h) | split)
     ·simp (decide:=true) only[h,g0,g0',g1,g1',nH,↓reduceIte,aI]
      repeat' (first | exact aB.2 (fun _=>fin2 1 (by omega) (by rw[h]; rfl) fun _=>by omega) | exact aB.2 (fun h=>by cases h) | split)
     have l3:=c21 h;have g2:(2:Int)<(j5.length:Int):=by omega
     have g2':Int.toNat 2<j5.length:=by show 2<j5.length; omega
     simp (decide:=true) only[h,g0,g0',g1,g1',g2,g2',nH,↓reduceIte,aI];split
     ·exact aB.2 (fun h=>by cases h)
     ·split
      ·refine aB.2 fun hq=>?_;have hq:=eE.1 hq;exact .mk j5 hbe (by omega) (by omega) hA' (fun h=>by omega) (fun h=>by omega) (fun h=>by omega) (fun h=>by omega) (fun h=>by omega) (fun h=>by omega) (fun _=>⟨by omega,rfl,hq.symm⟩) (fun h=>by omega) (fun h=>by omega)
      ·exact aB.2 (fun h=>by cases h)
    ·rw[aA (by simpa using hN)];exact aB.2 (fun h=>by cases h)
theorem Ym(fs:List aU)(cs ps:List Int)(e:bS)(he:vK e):Sp (oP fs cs ps e) (fun r=>r.2=true->TyE fs cs ps e r.1):=by
 unfold oP aMM;simp only[Tr.den];refine Sq.bind _ (Vo e he) fun r _=>?_;split
 ·exact aB.2 (fun h=>by cases h)
 ·refine Sq.bind _ (aKE fs cs ps e he) fun r2 h2=>?_;split
  ·exact aB.2 (fun h=>by cases h)
  ·rename_i h3;exact aB.2 (fun _=>h2 (by simpa using h3))
theorem TyE.mono{i:Nat}{ps:List Int}(h:TyE (fs.take i) cs ps e t):TyE fs cs ps e t:=by
 induction h with
 | @mk e t ts hl hb ho hA o0 o1 o2 ob o3 o4 o21 o22 oc ih=>
  refine .mk ts hl hb ho ih o0 o1 o2 ob o3 o4 o21 (fun h=>?_) oc;obtain⟨g1,g2,g3⟩:=o22 h;rw[cE]at g1;have e1:(fs.take i).getD e.N.toNat default=fs.getD e.N.toNat default:=by rw[cG,cG,gM,aA (by omega)]
  rw[e1]at g2 g3;exact⟨by omega,g2,g3⟩
theorem aTM(fs:List aU)(hl:fs.length<=1048576)(hb:∀ i,i<fs.length->vK (fs.getD i default).Body/\(fs.getD i default).Params.length<=1048576):
  Sp (G82 fs) (fun ok=>ok=true->aSE fs):=by
 unfold G82 T82;simp only[Tr.den];refine bX.2 (mZ (fun s:Int=>s) fs.length (by omega) (fun s=>∀ i:Nat,(i:Int)<s->TyE (fs.take i) [] (fs.getD i default).Params (fs.getD i default).Body (fs.getD i default).Result) (fun s k hI hk hkN=>?_) (fun i hi=>absurd hi (by show ¬ ((i:Int)<0); omega)) rfl);subst hk;unfold Ug;simp only[Tr.den,aQ];by_cases hc:k<fs.length
 ·rw[aA (bO (by omega))];by_cases h20:(k:Int)<=20
  ·simp only[aI,wV h20,eJ];rw[aA (by omega)];have hp:=(hb k hc).2;refine bX.2 (mZ (fun s:Int=>s) (fs.getD k default).Params.length (by omega) (fun _=>True) (fun s m _ hm hmN=>?_) trivial rfl);subst hm;unfold Sk;simp only[Tr.den,aQ];by_cases hm:m<(fs.getD k default).Params.length
   ·rw[aA (bO (by omega)),aA (by omega),Ed];simp only[aI];split
    ·exact aB.2 (aB.2 (aB.2 (fun h=>by cases h)))
    ·exact aB.2 ⟨rfl,hm,trivial⟩
   ·rw[aE (cB (by omega))];refine aB.2 ?_;simp only[sel];rw[aA ⟨by omega,by omega,by omega⟩];have e1:(fs.drop (Int.toNat 0)).take ((k:Int)-0).toNat=fs.take k:=by rw[show ((k:Int)-0).toNat=k by omega]; rfl
    rw[e1,aA ⟨by omega,by omega,by omega⟩];refine Sq.bind _ (Sq.of (Ym (fs.take k) [] (fs.getD k default).Params (fs.getD k default).Body (hb k hc).1)) fun r5 h5=>?_;by_cases ho:r5.2=true
    ·rw[aE (by rw[ho]; decide)];refine Sq.bind (fun j:Bool=>j=false->r5.1=(fs.getD k default).Result) ?_ fun j6 hj=>?_
     ·refine bT (fun _=>aB.2 fun h=>by cases h) fun h=>aB.2 fun _=>?_;simpa using h
     cases j6 with
     | true=>exact aB.2 (aB.2 (fun h=>by cases h))
     | false=>
      refine aB.2 ⟨rfl,hc,fun i hi=>?_⟩;rw[aK (by omega)]at hi;rcases mG i k with h | h
      ·exact hI i (by omega)
      ·have:i=k:=by omega
       subst this; rw[<-hj rfl]; exact h5 ho
    ·rw[aA (by simp only[Bool.not_eq_true]at ho; rw[ho]; rfl)];exact aB.2 (aB.2 (fun h=>by cases h))
  ·simp only[aI,fI h20,dC,cT];refine aB.2 (aB.2 (fun h=>?_));have:=dX h;omega
 ·rw[aE (cB (by omega))];simp only[aI,dC,cT];refine aB.2 (aB.2 (fun h i hi=>(hI i (by omega)).mono))
theorem aMI{n:Nat}(hf:okL n eC fs)(h:G82 fs=some true)(he:dR e)(ht:oP fs cs [] e=some (t,true))
  (tm:Int){row:List aF}(hr:TyR cs row){v:aF}(hv:Ch fs e tm row=some v):TyV t v:=by
 obtain⟨hl,hb⟩:=Dj hf;have h1:=(aTM fs hl hb).1 _ h rfl;have h2:=(Ym fs cs [] e he.bnd).1 _ ht rfl;have h3:Sq false (Ch fs e tm row) (TyV t):=by unfold Ch aLP;simp only[Tr.den];exact Sq.bind _ (aNL _ e) fun v hv=>aB.2 (hv cs [] t hr (fun i hi=>absurd hi (Ba i)) h1 h2)
 exact h3.1 v hv
theorem aLD(v:aF):Sp (aIP v) (fun r=>r=true->TyV v.Kind v):=by
 unfold aIP aQW;simp only[Tr.den];refine bT (fun h0=>aB.2 fun h=>?_) fun _=>bT (fun h1=>Sq.bind (fun r:Bool=>r=true->v.N=0/\v.S.size<=200) ?_ fun r hr=>aB.2 fun h=>?_)
  fun hk1=>Sq.bind (fun r:Bool=>r=true->v.Kind=2/\(v.N=0\/v.N=1)/\v.S.toList=(⟨#[]⟩:ByteArray).toList) ?_ fun r hr=>aB.2 fun h=>?_
 ·have h0:=eE.1 h0;exact⟨rfl,fun _=>eE.1 h,fun h1=>by omega,fun h1=>by omega,by omega,by omega⟩
 ·exact bT (fun h=>aB.2 fun h2=>⟨eE.1 h,by have:=dX h2; omega⟩) fun _=>aB.2 fun h=>by cases h
 ·have h1:=eE.1 h1;exact⟨rfl,fun hn=>absurd h1 hn,fun _=>hr h,fun h2=>by omega,by omega,by omega⟩
 ·exact bT (fun hk=>bT (fun h0=>aB.2 fun h=>⟨eE.1 hk,.inl (eE.1 h0),eE.1 h⟩) fun _=>bT (fun h0=>aB.2 fun h=>⟨eE.1 hk,.inr (eE.1 h0),eE.1 h⟩) fun _=>aB.2 fun h=>by cases h) fun _=>aB.2 fun h=>by cases h
 ·obtain⟨h2,h3,h4⟩:=hr h;exact⟨rfl,fun _=>h4,fun h5=>by omega,fun _=>h3,by omega,by omega⟩
theorem aNA(r:List aF)(h:r.length<=1048576):Sp (Zw r) (fun q=>q=true->∀ i,i<r.length->TyV (r.getD i default).Kind (r.getD i default)):=by
 unfold Zw aNJ;simp only[Tr.den,bX];refine dU (fun s:Int=>s) r.length (by omega) (fun s=>∀ i:Nat,(i:Int)<s->TyV (r.getD i default).Kind (r.getD i default)) (fun s k hI hk hkN=>?_) (fun i hi=>absurd hi (by show ¬ ((i:Int)<0); omega)) rfl;subst hk;unfold yM;simp only[Tr.den,aQ];by_cases hc:k<r.length
 ·rw[aA (bO (by omega)),aA (by omega)];refine Sq.bind _ (aLD _) fun q hq=>?_;cases q with
  | false=>exact aB.2 (aB.2 fun h=>by cases h)
  | true=>
   refine aB.2 ⟨rfl,hc,fun i hi=>?_⟩;rw[aK (by omega)]at hi;rcases mG i k with h | h
   ·exact hI i (by omega)
   ·have:i=k:=by omega
    subst this; exact hq rfl
 ·rw[aE (cB (by omega))];exact aB.2 (aB.2 fun _ i hi=>hI i (by omega))
theorem aXG(r:List aF)(h:r.length<=1048576):Sp (G78 r) (fun q=>q=true->∀ i,i<r.length->TyV (r.getD i default).Kind (r.getD i default)):=by unfold G78 T78;simp only[Tr.den];refine Sq.bind (fun q:Bool=>q=true->∀ i,i<r.length->TyV (r.getD i default).Kind (r.getD i default)) ?_ fun _ h=>aB.2 h;exact bT (fun _=>Sq.bind _ (aNA r h) fun _ h=>aB.2 h) fun _=>aB.2 fun h=>by cases h
structure aMU (n:aG):Prop where
 op:0<=n.Op/\n.Op<=8
 w:n.Op=4->(1<=n.Size/\n.Size<=10000)/\(n.Kind=0\/(n.Kind=1/\(1<=n.Step/\n.Step<=10000)/\Int.tmod n.Size n.Step=0)\/(n.Kind=2/\1<=n.Step/\n.Step<=n.Size))
 t:n.Op=5->(1<=n.Size/\n.Size<=10000)/\1<=n.Keep/\n.Keep<=100
 j:n.Op=6->okB n
 a:n.Op=7->1<=n.Keep/\n.Keep<=10000
 p:n.Op=8->(1<=n.Size/\n.Size<=10000)/\1<=n.Seq.length/\n.Seq.length<=8
theorem aRH(hs:1<=s/\s<=10000)(h1:1<=t)(h:Int.tmod s t=0):t<=10000:=by rw[Int.tmod_eq_emod_of_nonneg (by omega)]at h;have:=Int.le_of_dvd (by omega) (Int.dvd_of_emod_eq_zero h);omega
theorem aNB(n:aG):Sp (G83 n) (fun r=>r=true->aMU n):=by
 have oth:∀ {P:Prop} {k m:Int},n.Op=k->k≠m->n.Op=m->P:=fun h1 h2 h3=>absurd (h1.symm.trans h3) h2;unfold G83 T83;simp only[Tr.den,aOL,aI];by_cases h4:n.Op=4
 ·rw[aA (dI h4)];refine bT (fun _=>aB.2 fun h=>by cases h) fun q=>?_;have hz:1<=n.Size/\n.Size<=10000:=by simpa using q
  have mk:(n.Kind=0\/(n.Kind=1/\(1<=n.Step/\n.Step<=10000)/\Int.tmod n.Size n.Step=0)\/(n.Kind=2/\1<=n.Step/\n.Step<=n.Size))->aMU n:=fun h=>
   ⟨by omega,fun _=>⟨hz,h⟩,oth h4 (by decide),oth h4 (by decide),oth h4 (by decide),oth h4 (by decide)⟩
  refine bT (fun h0=>aB.2 fun _=>mk (.inl (eE.1 h0))) fun _=>bT (fun h1=>bT (fun _=>aB.2 fun h=>by cases h) fun h2=>?_) fun _=>bT (fun h2=>aB.2 fun h=>mk (.inr (.inr ⟨eE.1 h2,dX h⟩))) fun _=>aB.2 fun h=>by cases h
  have h2:=iG h2;exact oQ (by omega) (aB.2 fun h=>mk (.inr (.inl ⟨eE.1 h1,⟨by omega,aRH hz (by omega) (eE.1 h)⟩,eE.1 h⟩)))
 ·rw[aE (cZ h4)];by_cases h5:n.Op=5
  ·rw[aA (dI h5)];refine Sq.bind (fun j:Bool=>j=true->(1<=n.Size/\n.Size<=10000)/\1<=n.Keep/\n.Keep<=100) (bT (fun q=>aB.2 fun q2=>⟨dX q,dX q2⟩) fun _=>aB.2 fun h=>by cases h) fun j hj=>aB.2 fun h=>
    ⟨by omega,oth h5 (by decide),fun _=>hj h,oth h5 (by decide),oth h5 (by decide),oth h5 (by decide)⟩
  ·rw[aE (cZ h5)];by_cases h6:n.Op=6
   ·rw[aA (dI h6)];refine Sq.bind (fun j:Bool=>j=true->okB n) (bT (fun q=>aB.2 fun q2=>⟨dX q,dX q2⟩) fun _=>aB.2 fun h=>by cases h) fun j hj=>aB.2 fun h=>
     ⟨by omega,oth h6 (by decide),oth h6 (by decide),fun _=>hj h,oth h6 (by decide),oth h6 (by decide)⟩
   ·rw[aE (cZ h6)];by_cases h7:n.Op=7
    ·rw[aA (dI h7)];exact aB.2 fun h=>⟨by omega,oth h7 (by decide),oth h7 (by decide),oth h7 (by decide),fun _=>dX h,oth h7 (by decide)⟩
    ·rw[aE (cZ h7)];by_cases h8:n.Op=8
     ·rw[aA (dI h8)];refine Sq.bind (fun j:Bool=>j=true->(1<=n.Size/\n.Size<=10000)/\1<=n.Seq.length/\n.Seq.length<=8) (bT (fun q=>aB.2 fun q2=>⟨dX q,by have:=dX q2; omega⟩) fun _=>aB.2 fun h=>by cases h) fun j hj=>aB.2 fun h=>
       ⟨by omega,oth h8 (by decide),oth h8 (by decide),oth h8 (by decide),oth h8 (by decide),fun _=>hj h⟩
     ·rw[aE (cZ h8)];exact aB.2 fun h=>⟨dX h,fun h=>absurd h h4,fun h=>absurd h h5,fun h=>absurd h h6,fun h=>absurd h h7,fun h=>absurd h h8⟩
def nIn(n:aG):Nat:=if n.Op=0 then 0 else if n.Op=3\/n.Op=6\/n.Op=7 then 2 else 1
theorem Ya(n:aG):G84 n=some (nIn n:Int):=by
 unfold G84 T84 nIn;simp only[Tr.den];by_cases h0:n.Op=0
 ·rw[aA (dI h0),aA h0]; rfl
 ·rw[aE (cZ h0),aE h0];by_cases h3:n.Op=3
  ·rw[aA (dI h3),aA (.inl h3),dI h3]; rfl
  ·rw[aE (cZ h3)];by_cases h6:n.Op=6
   ·rw[aA (dI h6),aA (.inr (.inl h6)),dI h6]; rfl
   ·rw[aE (cZ h6)];by_cases h7:n.Op=7
    ·rw[aA (.inr (.inr h7)),dI h7]; rfl
    ·rw[aE (by omega),show (n.Op==7)=false by simpa using h7]; rfl
def okC(l:List Int)(m:Nat):Prop:=∀ c,c∈l->0<=c/\c<m
structure fF (fs:List aU)(n:aG)(ta tb:List Int):Prop where
 b:aMU n
 fr:G82 fs=some true
 la:1<=ta.length/\ta.length<=12
 lb:1<=tb.length/\tb.length<=12
 f:n.Op=1->n.Exprs.length=1/\oP fs ta [] (n.Exprs.getD 0 default)=some (2,true)
 m:n.Op=2->(1<=n.Exprs.length/\n.Exprs.length<=12)/\∀ i,i<n.Exprs.length->∃ t,oP fs ta [] (n.Exprs.getD i default)=some (t,true)
 u:n.Op=3->ta=tb
 w:n.Op=4->okC n.Key ta.length/\(∀ g,g∈n.Aggs->(0<=g.Kind/\g.Kind<4)/\(g.Kind≠0->0<=g.Col/\g.Col<ta.length)/\(g.Kind=1->ta.getD g.Col.toNat default=0))/\n.Key.length+n.Aggs.length<12
 t:n.Op=5->okC n.Key ta.length/\0<=n.Step/\n.Step<ta.length
 j:n.Op=6\/n.Op=7->okC n.Key ta.length/\okC n.Key2 tb.length/\n.Key.length=n.Key2.length/\(∀ i,i<n.Key.length->ta.getD (n.Key.getD i default).toNat default=tb.getD (n.Key2.getD i default).toNat default)/\ta.length+tb.length<=12
 p:n.Op=8->(∀ i,i<n.Seq.length->oP fs ta [] (n.Seq.getD i default).Pred=some (2,true)/\0<=(n.Seq.getD i default).Rep/\(n.Seq.getD i default).Rep<3)/\okC n.Key ta.length/\n.Key.length<=10
theorem aUM(a b:List Int)(ha:a.length<=1048576):Sp (G87 a b) (fun r=>r=true->a=b):=by
 unfold G87 T87;simp only[Tr.den];by_cases hl:(a.length:Int)=b.length
 ·rw[aE (Ia hl)];refine bX.2 ?_;refine dU (fun s:Int=>s) a.length (by omega) (fun s=>∀ i:Nat,(i:Int)<s->a.getD i default=b.getD i default) (fun s k hI hk hkN=>?_) (fun i hi=>absurd hi (by show ¬ ((i:Int)<0); omega)) rfl;subst hk;unfold aJL;simp only[Tr.den,aQ];by_cases hc:k<a.length
  ·rw[aA (bO (by omega)),aA (by omega),aA (by omega)];refine bT (fun _=>aB.2 (aB.2 fun h=>by cases h)) fun hb=>aB.2 ⟨rfl,hc,fun i hi=>?_⟩;rw[aK (by omega)]at hi;rcases mG i k with h | h
   ·exact hI i (by omega)
   ·have:i=k:=by omega
    subst this; simpa using hb
  ·rw[aE (cB (by omega))];exact aB.2 (aB.2 fun _=>Fs (by omega) fun i hi=>hI i (by omega))
 ·rw[aA (Oh hl)]; exact aB.2 fun h=>by cases h
theorem aYS(l:List jD)(ts:List Int)(h:l.length<=1048576)(h1:1<=ts.length/\ts.length<=12):Sp (G89 l ts) (fun r=>r=true->∀ g,g∈l->(0<=g.Kind/\g.Kind<4)/\(g.Kind≠0->0<=g.Col/\g.Col<ts.length)/\(g.Kind=1->ts.getD g.Col.toNat default=0)):=by
 unfold G89 T89;simp only[Tr.den,bX];refine dU (fun s:Int=>s) l.length (by omega) (fun s=>∀ g,g∈l.take s.toNat->(0<=g.Kind/\g.Kind<4)/\(g.Kind≠0->0<=g.Col/\g.Col<ts.length)/\(g.Kind=1->ts.getD g.Col.toNat default=0)) (fun s k hI hk hkN=>?_) (by simp) rfl;subst hk;unfold aEV;simp only[Tr.den,aQ]at hI ⊢;by_cases hc:k<l.length
 ·rw[aA (bO (by omega)),aA (by omega)];refine Sq.bind (fun j:Bool=>j=false->0<=(l.getD k default).Kind/\(l.getD k default).Kind<4) (bT (fun _=>aB.2 fun h=>by cases h) fun q1=>aB.2 fun q2=>?_) fun j hj=>?_
  ·have q1:=iG q1;have q2:=iG q2;omega
  ·cases j with
   | true=>exact aB.2 (aB.2 fun h=>by cases h)
   | false=>
    have hk4:=hj rfl;simp only[dC,cT];refine Sq.bind (fun j:Bool=>j=false->(l.getD k default).Kind≠0->0<=(l.getD k default).Col/\(l.getD k default).Col<ts.length) (bT (fun q0=>bT (fun _=>aB.2 fun h=>by cases h) fun q1=>aB.2 fun q2 _=>?_) fun q0=>aB.2 fun _ h=>absurd (by simpa using q0) h) fun j hj=>?_
    ·have q1:=iG q1;have q2:=iG q2;omega
    ·cases j with
     | true=>exact aB.2 (aB.2 fun h=>by cases h)
     | false=>
      have hcol:=hj rfl;simp only[dC,cT];refine Sq.bind (fun j:Bool=>j=false->(l.getD k default).Kind=1->ts.getD (l.getD k default).Col.toNat default=0) (bT (fun q0=>?_) fun q0=>aB.2 fun _ h=>by rw[h]at q0; cases q0) fun j hj=>?_
      ·have hcc:=hcol (by have:=eE.1 q0; omega);have w:IntKind.i64.wrap ((ts.length:Int)-1)=(ts.length:Int)-1:=bF (by omega) (by omega);have e:(if IntKind.i64.wrap ((ts.length:Int)-1)<(if (0:Int)>(l.getD k default).Col then 0 else (l.getD k default).Col) then IntKind.i64.wrap ((ts.length:Int)-1) else (if (0:Int)>(l.getD k default).Col then 0 else (l.getD k default).Col))=(l.getD k default).Col:=by rw[w,aE (show ¬ (0:Int)>(l.getD k default).Col by omega),aE (by omega)]
       simp only[e];rw[aA hcc];exact aB.2 fun h _=>by simpa using h
      ·cases j with
       | true=>exact aB.2 (aB.2 fun h=>by cases h)
       | false=>
        refine aB.2 ⟨rfl,hc,fun g' hg'=>?_⟩;rw[aK (by omega),aQ,aL hc,dE,bZ]at hg';rcases hg' with hg' | rfl
        ·exact hI g' hg'
        ·exact⟨hk4,hcol,hj rfl⟩
 ·rw[aE (cB (by omega))];refine aB.2 (aB.2 fun _=>?_)
  rwa [kV (by omega)]at hI
theorem aWD(n:aG)(a b:List Int)(h:n.Key.length<=1048576)(ha:okC n.Key a.length)(hb:okC n.Key2 b.length):Sp (G90 n a b) (fun r=>r=true->n.Key.length=n.Key2.length/\∀ i,i<n.Key.length->a.getD (n.Key.getD i default).toNat default=b.getD (n.Key2.getD i default).toNat default):=by
 unfold G90 T90;simp only[Tr.den];by_cases hl:(n.Key.length:Int)=n.Key2.length
 ·rw[aE (Ia hl)];refine bX.2 ?_;refine dU (fun s:Int=>s) n.Key.length (by omega) (fun s=>∀ i:Nat,(i:Int)<s->a.getD (n.Key.getD i default).toNat default=b.getD (n.Key2.getD i default).toNat default) (fun s k hI hk hkN=>?_) (fun i hi=>absurd hi (by show ¬ ((i:Int)<0); omega)) rfl;subst hk;unfold aIT;simp only[Tr.den,aQ];by_cases hc:k<n.Key.length
  ·have h1:=ha _ (aR hc);have h2:=hb _ (aR (show k<n.Key2.length by omega));rw[aA (bO (by omega)),aA (by omega),aA h1,aA (by omega),aA h2];refine bT (fun _=>aB.2 (aB.2 fun h=>by cases h)) fun hb=>aB.2 ⟨rfl,hc,fun i hi=>?_⟩;rw[aK (by omega)]at hi;rcases mG i k with h | h
   ·exact hI i (by omega)
   ·have:i=k:=by omega
    subst this; simpa using hb
  ·rw[aE (cB (by omega))];exact aB.2 (aB.2 fun _=>⟨by omega,fun i hi=>hI i (by omega)⟩)
 ·rw[aA (Oh hl)]; exact aB.2 fun h=>by cases h
theorem aQI(fs:List aU)(n:aG)(ts:List (List Int))(hl:okL 104 eC fs)(hn:jI n)(h12:ts.length<=1048576)(hts:∀ t,t∈ts->t.length<=1048576):
  Sp (G34 fs n ts) (fun r=>r=true->ts.length=nIn n/\1<=ts.length/\fF fs n (ts.getD 0 default) (ts.getD (ts.length-1) default)):=by
 obtain⟨_,_,_,_,hE,_,_,_,hK,hK2,_,_,_,hA,hS,_⟩:=hn;have hE1:=hE.1;have hK1:=hK.1;have hK21:=hK2.1;have hA1:=hA.1;have hS1:=hS.1;unfold G34 T34;simp only[Tr.den];obtain⟨y,hy,_⟩:=(Xz fs hl).get;rw[hy];simp only[aI];refine Sq.bind (fun j:Bool=>j=false->y=true/\aMU n/\ts.length=nIn n/\1<=ts.length) ?_ (fun j hj=>?_)
 ·cases y with
  | false=>exact aB.2 fun h=>by cases h
  | true=>
   simp only[yJ,dC,cT];refine Sq.bind _ (aNB n) fun r hr=>?_;cases r with
   | false=>exact aB.2 fun h=>by cases h
   | true=>
    simp only[yJ,dC,cT];rw[Ya n];simp only[aI];refine bT (fun _=>aB.2 fun h=>by cases h) fun q1=>aB.2 fun q2=>⟨trivial,hr rfl,?_,?_⟩
    ·have:(ts.length:Int)=(nIn n:Int):=by simpa using q1
     omega
    ·have:¬ (ts.length:Int)=0:=by simpa using q2
     omega
 ·cases j with
  | true=>exact aB.2 fun h=>by cases h
  | false=>
   obtain⟨hyt,hB,hin,h1⟩:=hj rfl;subst hyt;simp only[dC,cT];have w:IntKind.i64.wrap ((ts.length:Int)-1)=((ts.length-1:Nat):Int):=by rw[bF] <;> omega
   rw[aA (by omega),w,aA (by omega),aQ,show (0:Int).toNat=0 from rfl];have hta:=hts _ (aR (show 0<ts.length by omega));have htb:=hts _ (aR (show ts.length-1<ts.length by omega));have e00:(ts.getD (Int.toNat 0) default)=ts.getD 0 default:=rfl;generalize hA':ts.getD 0 default=ta at hta;generalize hB':ts.getD (ts.length-1) default=tb at htb;refine Sq.bind (fun j:Bool=>j=false->(1<=ta.length/\ta.length<=12)/\1<=tb.length/\tb.length<=12) ?_ (fun j hj=>?_)
   ·refine bT (fun _=>aB.2 fun h=>by cases h) fun q0=>bT (fun _=>aB.2 fun h=>by cases h) fun q1=>bT (fun _=>aB.2 fun h=>by cases h) fun q3=>aB.2 fun q2=>?_;have q1:=iG q1;have q2:=iG q2;have q0:¬ (ta.length:Int)=0:=by simpa using q0
    have q3:¬ (tb.length:Int)=0:=by simpa using q3
    omega
   ·cases j with
    | true=>exact aB.2 fun h=>by cases h
    | false=>
     obtain⟨la,lb⟩:=hj rfl;simp only[dC,cT];have oth:∀ {P:Prop} {k m:Int},n.Op=k->k≠m->n.Op=m->P:=fun h1 h2 h3=>absurd (h1.symm.trans h3) h2;have oth2:∀ {P:Prop} {k:Int},n.Op=k->k≠6->k≠7->(n.Op=6\/n.Op=7)->P:=fun h1 h2 h3 h4=>h4.elim (fun h=>absurd (h1.symm.trans h) h2) fun h=>absurd (h1.symm.trans h) h3;by_cases o1:n.Op=1
     ·rw[aA (dI o1)];refine Sq.bind (fun j:Bool=>j=true->n.Exprs.length=1/\oP fs ta [] (n.Exprs.getD 0 default)=some (2,true)) (bT (fun q=>?_) fun _=>aB.2 fun h=>by cases h) fun j hj=>aB.2 fun h=>
       ⟨hin,h1,hB,hy,la,lb,fun _=>hj h,oth o1 (by decide),oth o1 (by decide),oth o1 (by decide),oth o1 (by decide),oth2 o1 (by decide) (by decide),oth o1 (by decide)⟩
      have q:(n.Exprs.length:Int)=1:=by simpa using q
      refine oQ (by omega) ?_;exact Sq.bind _ (Sq.of (aEG fs _ ta hl (okEs.get hE (show 0<n.Exprs.length by omega)))) fun r hr=>aB.2 fun h=>⟨by omega,hr h⟩
     ·rw[aE (cZ o1)];by_cases o2:n.Op=2
      ·rw[aA (dI o2)];refine bX.2 (dU (fun s:Int=>s) n.Exprs.length (by omega) (fun s=>∀ i:Nat,(i:Int)<s->∃ t,oP fs ta [] (n.Exprs.getD i default)=some (t,true)) (fun s k hI hk hkN=>?_) (fun i hi=>absurd hi (by show ¬ ((i:Int)<0); omega)) rfl);subst hk;unfold aIJ;simp only[Tr.den,aQ,e00,hA'];by_cases hc:k<n.Exprs.length
       ·rw[aA (bO (by omega)),aA (by omega)];refine Sq.bind _ (Sq.of (aEB fs ta [] _ hl (okEs.get hE hc))) fun r hr=>?_;refine bT (fun _=>aB.2 (aB.2 fun h=>by cases h)) fun q=>aB.2 ⟨rfl,hc,fun i hi=>?_⟩;rw[aK (by omega)]at hi;rcases mG i k with h | h
        ·exact hI i (by omega)
        ·have:i=k:=by omega
         subst this; exact⟨_,hr (by simpa using q)⟩
       ·rw[aE (cB (by omega))];refine aB.2 ?_;simp only[sel];refine Sq.bind (fun j:Bool=>j=true->1<=n.Exprs.length/\n.Exprs.length<=12) (bT (fun q=>aB.2 fun q2=>by have:=dX q; have:=dX q2; omega) fun _=>aB.2 fun h=>by cases h) fun j hj=>aB.2 fun h=>
         ⟨hin,h1,hB,hy,la,lb,oth o2 (by decide),fun _=>⟨hj h,fun i hi=>hI i (by omega)⟩,oth o2 (by decide),oth o2 (by decide),oth o2 (by decide),oth2 o2 (by decide) (by decide),oth o2 (by decide)⟩
      ·rw[aE (cZ o2)];by_cases o3:n.Op=3
       ·rw[aA (dI o3)];exact Sq.bind _ (aUM ta tb hta) fun r hr=>aB.2 fun h=>
         ⟨hin,h1,hB,hy,la,lb,oth o3 (by decide),oth o3 (by decide),fun _=>hr h,oth o3 (by decide),oth o3 (by decide),oth2 o3 (by decide) (by decide),oth o3 (by decide)⟩
       ·rw[aE (cZ o3)];by_cases o4:n.Op=4
        ·rw[aA (dI o4)];refine Sq.bind _ (zX n.Key ta hK1) fun r hr=>?_;refine Sq.bind (fun j:Bool=>j=true->okC n.Key ta.length/\(∀ g,g∈n.Aggs->(0<=g.Kind/\g.Kind<4)/\(g.Kind≠0->0<=g.Col/\g.Col<ta.length)/\(g.Kind=1->ta.getD g.Col.toNat default=0))/\n.Key.length+n.Aggs.length<12) (bT (fun q=>?_) fun _=>aB.2 fun h=>by cases h) fun j hj=>aB.2 fun h=>
          ⟨hin,h1,hB,hy,la,lb,oth o4 (by decide),oth o4 (by decide),oth o4 (by decide),fun _=>hj h,oth o4 (by decide),oth2 o4 (by decide) (by decide),oth o4 (by decide)⟩
         refine Sq.bind _ (aYS n.Aggs ta hA1 la) fun r2 hr2=>bT (fun q2=>aB.2 fun q3=>⟨hr q,hr2 q2,?_⟩) fun _=>aB.2 fun h=>by cases h
         have q3:=dX q3;rw[bF (by omega) (by omega)]at q3;omega
        ·rw[aE (cZ o4)];by_cases o5:n.Op=5
         ·rw[aA (dI o5)];refine Sq.bind _ (zX n.Key ta hK1) fun r hr=>?_;refine Sq.bind (fun j:Bool=>j=true->okC n.Key ta.length/\0<=n.Step/\n.Step<ta.length) (bT (fun q=>?_) fun _=>aB.2 fun h=>by cases h) fun j hj=>aB.2 fun h=>
           ⟨hin,h1,hB,hy,la,lb,oth o5 (by decide),oth o5 (by decide),oth o5 (by decide),oth o5 (by decide),fun _=>hj h,oth2 o5 (by decide) (by decide),oth o5 (by decide)⟩
          exact Sq.bind _ (zX [n.Step] ta (by simp)) fun r2 hr2=>aB.2 fun q2=>⟨hr q,hr2 q2 _ (by simp)⟩
         ·rw[aE (cZ o5)];by_cases o67:n.Op=6\/n.Op=7
          ·have hor:((if (n.Op==6)=true then some (n.Op==6) else some (n.Op==7)):Option Bool)=some true:=by
            rcases o67 with h | h
            ·rw[aA (dI h),h]; rfl
            ·rw[aE (cZ (by omega)),h]; rfl
           rw[hor];simp only[aI,eJ];refine Sq.bind _ (zX n.Key ta hK1) fun r hr=>?_;refine Sq.bind (fun j:Bool=>j=true->okC n.Key ta.length/\okC n.Key2 tb.length/\n.Key.length=n.Key2.length/\(∀ i,i<n.Key.length->ta.getD (n.Key.getD i default).toNat default=tb.getD (n.Key2.getD i default).toNat default)/\ta.length+tb.length<=12) (bT (fun q=>?_) fun _=>aB.2 fun h=>by cases h) fun j hj=>aB.2 fun h=>
            ⟨hin,h1,hB,hy,la,lb,fun h=>absurd h o1,fun h=>absurd h o2,fun h=>absurd h o3,fun h=>absurd h o4,fun h=>absurd h o5,fun _=>hj h,fun h=>o67.elim (fun h'=>by omega) fun h'=>by omega⟩
           refine Sq.bind _ (zX n.Key2 tb hK21) fun r2 hr2=>bT (fun q2=>?_) fun _=>aB.2 fun h=>by cases h
           refine Sq.bind _ (aWD n ta tb hK1 (hr q) (hr2 q2)) fun r3 hr3=>bT (fun q3=>aB.2 fun q4=>⟨hr q,hr2 q2,(hr3 q3).1,(hr3 q3).2,?_⟩) fun _=>aB.2 fun h=>by cases h
           have q4:=dX q4;rw[bF (by omega) (by omega)]at q4;omega
          ·have hor:((if (n.Op==6)=true then some (n.Op==6) else some (n.Op==7)):Option Bool)=some false:=by rw[aE (cZ (by omega)),show (n.Op==7)=false by simpa using fun h=>o67 (.inr h)]
           rw[hor];simp only[aI,dC,cT];refine bT (fun q8=>?_) fun _=>aB.2 fun h=>by cases h
           have o8:n.Op=8:=eE.1 q8;refine bX.2 (dU (fun s:Int=>s) n.Seq.length (by omega) (fun s=>∀ i:Nat,(i:Int)<s->oP fs ta [] (n.Seq.getD i default).Pred=some (2,true)/\0<=(n.Seq.getD i default).Rep/\(n.Seq.getD i default).Rep<3) (fun s k hI hk hkN=>?_) (fun i hi=>absurd hi (by show ¬ ((i:Int)<0); omega)) rfl);subst hk;unfold aGO;simp only[Tr.den,aQ,e00,hA'];by_cases hc:k<n.Seq.length
           ·rw[aA (bO (by omega)),aA (by omega)];refine Sq.bind _ (Sq.of (aEG fs _ ta hl (hS.2 _ (aR hc)).1)) fun r hr=>?_;refine Sq.bind (fun j:Bool=>j=false->r=true/\0<=(n.Seq.getD k default).Rep/\(n.Seq.getD k default).Rep<3) ?_ (fun j hj=>?_)
            ·refine bT (fun _=>aB.2 fun h=>by cases h) fun q0=>oQ (by omega) (bT (fun _=>aB.2 fun h=>by cases h) fun q1=>oQ (by omega) (aB.2 fun q2=>?_));have q1:=iG q1;have q2:=iG q2;exact⟨by simpa using q0,by omega,by omega⟩
            ·cases j with
             | true=>exact aB.2 (aB.2 fun h=>by cases h)
             | false=>
              have hj:=hj rfl;refine aB.2 ⟨rfl,hc,fun i hi=>?_⟩;rw[aK (by omega)]at hi;rcases mG i k with h | h
              ·exact hI i (by omega)
              ·have:i=k:=by omega
               subst this; exact⟨hr hj.1,hj.2⟩
           ·rw[aE (cB (by omega))];refine aB.2 ?_;simp only[sel];refine Sq.bind _ (zX n.Key ta hK1) fun r hr=>?_;refine Sq.bind (fun j:Bool=>j=true->okC n.Key ta.length/\n.Key.length<=10) (bT (fun q=>aB.2 fun q2=>⟨hr q,by have:=dX q2; omega⟩) fun _=>aB.2 fun h=>by cases h) fun j hj=>aB.2 fun h=>
             ⟨hin,h1,hB,hy,la,lb,oth o8 (by decide),oth o8 (by decide),oth o8 (by decide),oth o8 (by decide),oth o8 (by decide),oth2 o8 (by decide) (by decide),fun _=>⟨fun i hi=>hI i (by omega),hj h⟩⟩
structure Mz (ts:List Int)(l:List aC)(m:Nat):Prop where
 len:l.length<=m
 t:∀ d,d∈l->0<=d.Time/\d.Time<=2199023255552
 n:∀ d,d∈l->1<=d.N/\d.N<=5
 r:∀ d,d∈l->d.Row.length=ts.length/\TyR ts d.Row
theorem Yw(l:List aC)(ts:List Int)(m:Nat)(hm:m<=1000)(hl:okL 40 dZ l)(ht:ts.length<=1048576):Sp (G30 l ts (m:Int)) (fun r=>r=true->Mz ts l m):=by
 have hl1:=hl.1;unfold G30 T30;simp only[Tr.den,bX];refine dU (fun s:Int=>s) l.length (by omega) (fun s=>∀ d,d∈l.take s.toNat->(0<=d.Time/\d.Time<=2199023255552)/\(1<=d.N/\d.N<=5)/\d.Row.length=ts.length/\TyR ts d.Row) (fun s k hI hk hkN=>?_) (by simp) rfl;subst hk;unfold aGW;simp only[Tr.den,aQ,oF,aI]at hI ⊢;by_cases hc:k<l.length/\k<=m
 ·have hx:=hl.2 _ (aR hc.1);rw[aA (bO (by omega)),aA (by omega)];refine Sq.bind (fun j:Bool=>j=false->(0<=(l.getD k default).Time/\(l.getD k default).Time<=2199023255552)/\(1<=(l.getD k default).N/\(l.getD k default).N<=5)/\(l.getD k default).Row.length=ts.length/\∀ i,i<(l.getD k default).Row.length->TyV ((l.getD k default).Row.getD i default).Kind ((l.getD k default).Row.getD i default)) ?_ (fun j hj=>?_)
  ·refine bT (fun _=>aB.2 fun h=>by cases h) fun q1=>oQ (by omega) (bT (fun _=>aB.2 fun h=>by cases h) fun q2=>oQ (by omega) (bT (fun _=>aB.2 fun h=>by cases h) fun q3=>oQ (by omega) (bT (fun _=>aB.2 fun h=>by cases h) fun q4=>oQ (by omega) (bT (fun _=>aB.2 fun h=>by cases h) fun q5=>oQ (by omega) (Sq.bind _ (Sq.of (aXG _ hx.2.1.1)) fun r hr=>aB.2 fun hq=>?_)))));have q1:=iG q1;have q2:=iG q2;have q3:=iG q3;have q4:=iG q4;simp only[bne_eq_false_iff_eq]at q5;have hq:r=true:=by simpa using hq
   exact⟨by omega,by omega,by omega,hr hq⟩
  ·cases j with
   | true=>exact aB.2 (aB.2 fun h=>by cases h)
   | false=>
    obtain⟨j1,j2,hlen,hty⟩:=hj rfl;simp only[dC,cT];refine bX.2 ?_;refine dU (fun s:Int=>s) ts.length (by omega) (fun s=>∀ i:Nat,(i:Int)<s->((l.getD k default).Row.getD i default).Kind=ts.getD i default) (fun s q hJ hq hqN=>?_) (fun i hi=>absurd hi (by show ¬ ((i:Int)<0); omega)) rfl;subst hq;unfold aHK;simp only[Tr.den,aQ];by_cases hc2:q<ts.length
    ·rw[aA (bO (by omega)),aA (by omega),aA (by omega),aA (by omega)];refine bT (fun _=>aB.2 (aB.2 (aB.2 fun h=>by cases h))) fun hb=>aB.2 ⟨rfl,hc2,fun i hi=>?_⟩;rw[aK (by omega)]at hi;rcases mG i q with h | h
     ·exact hJ i (by omega)
     ·have:i=q:=by omega
      subst this; simpa using hb
    ·rw[aE (cB (by omega))];refine aB.2 (aB.2 ⟨rfl,hc.1,fun d hd=>?_⟩);rw[aK (by omega),aQ,aL hc.1,dE,bZ]at hd;rcases hd with hd | rfl
     ·exact hI d hd
     ·refine⟨j1,j2,hlen,fun i hi=>?_⟩;have h1:=hty i (by omega)
      rwa [hJ i (by omega)]at h1
 ·rw[aE (cB (by omega))];refine aB.2 (aB.2 fun h=>?_);have h:=dX h;rw[kV (by omega)]at hI;exact⟨by omega,fun d hd=>(hI d hd).1,fun d hd=>(hI d hd).2.1,fun d hd=>(hI d hd).2.2⟩
theorem aOT(fs:List aU)(n:aG)(a b:List aC)(ts:List (List Int))(m:Nat)(hm:m<=1000)(hl:okL 104 eC fs)(hn:jI n)(ha:okL 40 dZ a)(hb:okL 40 dZ b)(h12:ts.length<=1048576)(hts:∀ t,t∈ts->t.length<=1048576):
  Sp (aWP fs n a b ts (m:Int)) (fun r=>r.2=true->∃ ta tb,fF fs n ta tb/\n.Key.length<=20/\Mz ta a m/\(n.Size<=IntKind.i64.wrap (400*(if (1:Int)>n.Step then 1 else n.Step))\/n.Kind≠1\/n.Op≠4)/\((ts=[ta]/\ta=tb/\nIn n=1/\r.1=[cons a])\/(ts=[ta,tb]/\nIn n=2/\Mz tb b m/\r.1=[cons a,cons b]))):=by
 unfold aWP aSX;simp only[Tr.den];refine Sq.bind _ (Sq.of (aOW fs n hl hn)) fun r1 h33=>?_;refine Sq.bind (fun j:Bool=>j=false->n.Key.length<=20/\ts.length=nIn n/\1<=ts.length/\fF fs n (ts.getD 0 default) (ts.getD (ts.length-1) default)) ?_ (fun j hj=>?_)
 ·refine bT (fun _=>aB.2 fun h=>by cases h) fun q33=>?_;have hk20:=(h33 (by simpa using q33)).1;rw[Ya];simp only[aI];refine bT (fun _=>aB.2 fun h=>by cases h) fun _=>?_;refine Sq.bind _ (Sq.of (aQI fs n ts hl hn h12 hts)) fun r hr=>bT (fun _=>aB.2 fun h=>by cases h) fun q=>aB.2 fun _=>⟨hk20,hr (by simpa using q)⟩
 ·cases j with
  | true=>exact aB.2 fun h=>by cases h
  | false=>
   obtain⟨hk20,h1,h2,hR⟩:=hj rfl;simp only[dC,cT];have hta:=hts _ (aR (show 0<ts.length by omega));rw[aA (by omega),show (0:Int).toNat=0 from rfl];refine Sq.bind _ (Sq.of (Yw a (ts.getD 0 default) m hm ha hta)) fun r hr=>?_;refine bT (fun _=>aB.2 fun h=>by cases h) fun q=>?_;have hF:=hr (by simpa using q);have oa:okD a:=dZ.okd ha;have ob:okD b:=dZ.okd hb;rw[Lh a oa (by have:=hF.len; omega)];simp only[aI];have fin:∀ (tb:List Int) (l:List (List aC)),fF fs n (ts.getD 0 default) tb->((ts=[ts.getD 0 default]/\ts.getD 0 default=tb/\nIn n=1/\l=[cons a])\/(ts=[ts.getD 0 default,tb]/\nIn n=2/\Mz tb b m/\l=[cons a,cons b])) ->
     Sp ((if decide (n.Size<=IntKind.i64.wrap (400*(if (1:Int)>n.Step then 1 else n.Step)))=true then some (l,true) else if (n.Kind != 1)=true then some (l,true) else some (l,n.Op != 4)).bind fun v=>some (v.1,v.2)) (fun r=>r.2=true->∃ ta tb,fF fs n ta tb/\n.Key.length<=20/\Mz ta a m/\(n.Size<=IntKind.i64.wrap (400*(if (1:Int)>n.Step then 1 else n.Step))\/n.Kind≠1\/n.Op≠4)/\((ts=[ta]/\ta=tb/\nIn n=1/\r.1=[cons a])\/(ts=[ta,tb]/\nIn n=2/\Mz tb b m/\r.1=[cons a,cons b]))):=fun tb l hR hl=>by
    refine bX.2 (bT (fun q=>aB.2 (aB.2 fun _=>⟨_,tb,hR,hk20,hF,.inl (dX q),hl⟩)) fun _=>bT (fun q=>aB.2 (aB.2 fun _=>⟨_,tb,hR,hk20,hF,.inr (.inl (by simpa using q)),hl⟩)) fun _=>aB.2 (aB.2 fun q=>⟨_,tb,hR,hk20,hF,.inr (.inr (by simpa using q)),hl⟩))
   by_cases h22:ts.length=2
   ·obtain⟨ta,tb,rfl⟩:∃ ta tb,ts=[ta,tb]:=by
     match ts,h22 with
     | [ta,tb],_=>exact⟨ta,tb,rfl⟩
    have e0:([ta,tb]:List (List Int)).getD 0 default=ta:=rfl;have e1:([ta,tb]:List (List Int)).getD (([ta,tb]:List (List Int)).length-1) default=tb:=rfl;have e2:([ta,tb]:List (List Int)).getD (1:Int).toNat default=tb:=rfl;rw[e0,e1]at hR;simp only[e0]at fin hF;rw[aA (dI (by simp)),aA (by simp),e2];refine Sq.bind (fun z=>z = .inr ([],false)\/(Mz tb b m/\z = .inl ([cons a]++[cons b]))) ?_ fun z hz=>?_
    ·refine Sq.bind _ (Sq.of (Yw b tb m hm hb (hts _ (by simp)))) fun r hr=>?_;refine bT (fun _=>aB.2 (.inl rfl)) fun q=>?_;have hFb:=hr (by simpa using q);rw[Lh b ob (by have:=hFb.len; omega)];simp only[aI];rw[aA (by simp)];exact aB.2 (.inr ⟨hFb,rfl⟩)
    ·rcases hz with rfl | ⟨hFb,rfl⟩
     ·exact aB.2 fun h=>by cases h
     ·simp only[sel];exact fin tb _ hR (.inr ⟨rfl,by rw[<-h1]; rfl,hFb,rfl⟩)
   ·obtain⟨ta,rfl⟩:∃ ta,ts=[ta]:=by
     have h3:ts.length=1:=by
      unfold nIn at h1;split at h1
      ·omega
      ·split at h1 <;> omega
     exact Kt.1 h3
    have e0:([ta]:List (List Int)).getD 0 default=ta:=rfl;have e1:([ta]:List (List Int)).getD (([ta]:List (List Int)).length-1) default=ta:=rfl;rw[e0,e1]at hR;simp only[e0]at fin;rw[aE (cZ (by simp))];simp only[aI,sel];exact fin ta _ hR (.inl ⟨trivial,rfl,by rw[<-h1]; rfl,rfl⟩)
theorem aAB{α:Type}{d:α}{u v:List α}(hv:v≠[]):(u++v).getLastD d=v.getLastD d:=by
 rcases List.eq_nil_or_concat v with rfl | ⟨w,z,rfl⟩
 ·exact absurd rfl hv
 ·rw[Su,Su,List.concat_eq_append,<-cJ,List.getLast?_concat,List.getLast?_concat]
section
variable {α:Type} [Inhabited α] (tm:α->Int) (nx:Int->α->Int) (hit:Int->Bool) (sz bg:Int)
def pF:List α->Option (Int×Int)
 | []=>none
 | q::qs=>if isM tm nx hit sz (tm q) bg (q::qs)=true then some (tm q,((q::qs).length:Int)) else pF qs
theorem Kj:∀ (u v:List α),v≠[]->(∀ x,x∈u->¬ tm (v.getLastD default)-tm x<sz)->pF tm nx hit sz bg (u++v)=pF tm nx hit sz bg v
 | [],v,_,_=>rfl
 | q::u,v,hv,h=>by rw[vV,pF,aE,Kj u v hv fun x hx=>h x (cC _ hx)];unfold isM;have e:(q::(u++v)).getLastD default=v.getLastD default:=aAB (u:=q::u) hv;rw[e,fI (h q bW),Bool.false_and];decide
theorem Ex:∀ (i:Int) (qs:List α) (k:Nat),k<qs.length->(pF tm nx hit sz bg (qs.take (k+1))=none/\Eh tm nx hit sz bg i qs k = -1) \/
  (∃ j:Nat,j<=k/\Eh tm nx hit sz bg i qs k=i+j/\pF tm nx hit sz bg (qs.take (k+1))=some (tm (qs.getD j default),(k:Int)-j+1))
 | i,[],k,hk=>by simp at hk
 | i,q::qs,0,hk=>by
  rw[show (q::qs).take (0+1)=[q] from rfl,pF];unfold Eh;by_cases h:isM tm nx hit sz (tm q) bg [q]=true
  ·rw[aA h,aA h];exact .inr ⟨0,cS _,by simp,by simp⟩
  ·rw[aE h,aE h];exact .inl ⟨rfl,rfl⟩
 | i,q::qs,k+1,hk=>by
  have hk':k<qs.length:=by simpa using hk
  have ih:=Ex (i+1) qs k hk';rw[Oq,pF];unfold Eh;rw[Oq];by_cases h:isM tm nx hit sz (tm q) bg (q::qs.take (k+1))=true
  ·rw[aA h,aA h];refine .inr ⟨0,vU _,by simp,?_⟩;rw[dA,cE,Iw (by omega)];simp
  ·rw[aE h,aE h];rcases ih with⟨h1,h2⟩ | ⟨j,h1,h2,h3⟩
   ·exact .inl ⟨h1,h2⟩
   ·refine .inr ⟨j+1,by omega,by rw[h2]; omega,?_⟩;rw[h3,List.getD_cons_succ]
    congr 2
    omega
end
def Ie(n:aG)(key:List aF)(L:List dW):List aC:=match pF dW.time_ (nxF n) (Hy n) n.Size (sZ n 1) L with
 | some (t,m)=>[⟨(L.getLastD default).time_,key++[vI t,vI m],1⟩]
 | none=>[]
def lF(n:aG)(key:List aF)(lo:Int):List dW->List dW->List aC
 | _,[]=>[]
 | u,q::qs=>(if lo<=q.time_ then Ie n key (u++[q]) else [])++lF n key lo (u++[q]) qs
theorem Pe(n:aG)(key:List aF)(lo:Int):∀ (u a b:List dW),lF n key lo u (a++b)=lF n key lo u a++lF n key lo (u++a) b
 | u,[],b=>by rw[sN,fN]; rfl
 | u,q::a,b=>by rw[vV,lF,lF,Pe n key lo (u++[q]) a b,cJ,cJ];rfl
theorem Jq(u:List dW)(q:dW):(u++[q]).getLastD default=q:=by rw[Su,List.getLast?_append];simp
noncomputable def plA (fs:List aU)(n:aG)(l:List aC):List dW:=l.flatMap (plD fs n)
def Rp(k:Nat)(s:Int)(S:Nat->Prop):Prop:=∃ a:Nat,s=(a:Int)/\a<2 ^ k/\∀ p,a.testBit p=true↔S p
theorem Rp.congr{T:Nat->Prop}(h:Rp k s S)(e:∀ p,S p↔T p):Rp k s T:=by obtain⟨a,h1,h2,h3⟩:=h;exact⟨a,h1,h2,fun p=>(h3 p).trans (e p)⟩
theorem Rp.mono(h:Rp k s S)(hj:k<=j):Rp j s S:=by obtain⟨a,h1,h2,h3⟩:=h;exact⟨a,h1,Ca h2 (Mx (by decide) hj),h3⟩
theorem lI(hk:k<=20)(h:a<2 ^ k):a<1048576:=Ca h (Mx (n:=2) (by decide) hk)
theorem Rf{b:Nat}(ha:a<1048576)(hb:b<1048576):xW .i64 (a:Int) (b:Int)=((a &&& b:Nat):Int):=by
 unfold xW;have e:(BitVec.ofInt IntKind.i64.bits (a:Int) &&& BitVec.ofInt IntKind.i64.bits (b:Int)).toNat=a &&& b:=by show (BitVec.ofInt 64 (a:Int) &&& BitVec.ofInt 64 (b:Int)).toNat=a &&& b;rw[BitVec.toNat_and,Lq,Lq,Om,Om,wU (by omega),wU (by omega)]
 rw[e];exact sM (by have:a &&& b<=a:=Nat.and_le_left; omega)
theorem aJJ{b:Nat}(hk:k<=20)(ha:a<2 ^ k)(hb:b<2 ^ k):Mh .i64 (a:Int) (b:Int)=((a ||| b:Nat):Int):=by
 have ha':=lI hk ha;have hb':=lI hk hb;have hab:=lI hk (Nat.or_lt_two_pow ha hb);unfold Mh;have e:(BitVec.ofInt IntKind.i64.bits (a:Int) ||| BitVec.ofInt IntKind.i64.bits (b:Int)).toNat=a ||| b:=by show (BitVec.ofInt 64 (a:Int) ||| BitVec.ofInt 64 (b:Int)).toNat=a ||| b;rw[BitVec.toNat_or,Lq,Lq,Om,Om,wU (by omega),wU (by omega)]
 rw[e];exact sM (by omega)
theorem Rp.and{T:Nat->Prop}(h:Rp k s S)(h':Rp j t T)(hk:k<=20)(hj:j<=20):Rp j (xW .i64 s t) (fun p=>S p/\T p):=by obtain⟨a,rfl,h2,h3⟩:=h;obtain⟨b,rfl,g2,g3⟩:=h';refine⟨a &&& b,Rf (lI hk h2) (lI hj g2),Nat.lt_of_le_of_lt Nat.and_le_right g2,fun p=>?_⟩;rw[Nat.testBit_and,cO,h3,g3]
theorem Rp.or{T:Nat->Prop}(h:Rp k s S)(h':Rp k t T)(hk:k<=20):Rp k (Mh .i64 s t) (fun p=>S p\/T p):=by obtain⟨a,rfl,h2,h3⟩:=h;obtain⟨b,rfl,g2,g3⟩:=h';refine⟨a ||| b,aJJ hk h2 g2,Nat.or_lt_two_pow h2 g2,fun p=>?_⟩;rw[Nat.testBit_or,nS,h3,g3]
theorem Xr(hj:j<=20)(ha:a<1048576):Ae .i64 (a:Int) (j:Int)=((a*2 ^ j:Nat):Int):=by
 unfold Ae;have hm:min ((j:Int)).toNat IntKind.i64.bits=j:=by rw[aQ]; exact Iw (by show j<=64; omega)
 rw[hm];have hp:(2:Nat) ^ j<=1048576:=Mx (n:=2) (by decide) hj;have e:(a:Int)*2 ^ j=((a*2 ^ j:Nat):Int):=by rw[Int.natCast_mul,Int.natCast_pow]; rfl
 rw[e];refine sM ?_;have:=tK (Nat.le_of_lt ha) hp;omega
theorem Rp.one(h:j<k)(hk:k<=20):Rp k (Ae .i64 1 (j:Int)) (fun p=>p=j):=by
 refine⟨2 ^ j,?_,Nat.pow_lt_pow_right (by decide) h,fun p=>?_⟩
 ·have:=Xr (a:=1) (j:=j) (by omega) (by omega)
  rwa [mE]at this
 ·rw[Nat.testBit_two_pow,gY]; exact eq_comm
theorem Rp.one0(h:0<k)(hk:k<=20):Rp k 1 (fun p=>p=0):=(Rp.one h hk)
theorem Rp.zero(k:Nat):Rp k 0 (fun _=>False):=⟨0,rfl,Nat.two_pow_pos k,fun p=>by simp⟩
theorem Rp.shl(h:Rp k s S)(hk:k<20):Rp (k+1) (Ae .i64 s 1) (fun p=>∃ q,S q/\p=q+1):=by
 obtain⟨a,rfl,h2,h3⟩:=h;refine⟨a*2 ^ 1,Xr (j:=1) (by omega) (lI (by omega) h2),?_,fun p=>?_⟩
 ·rw[Nat.pow_succ]; omega
 ·rw[Nat.testBit_mul_two_pow,cO,gY,h3];constructor
  ·rintro⟨h1,h4⟩; exact⟨p-1,h4,by omega⟩
  ·rintro⟨q,hq,rfl⟩; exact⟨by omega,hq⟩
theorem Rp.test(h:Rp k s S)(hk:k<=20)(hj:j<=20):((xW .i64 (bY .i64 s (j:Int)) 1==1)=true)↔S j:=by
 obtain⟨a,rfl,h2,h3⟩:=h;have ha:=lI hk h2;have e:bY .i64 (a:Int) (j:Int)=((a / 2 ^ j:Nat):Int):=by
  unfold bY;have hm:min ((j:Int)).toNat IntKind.i64.bits=j:=by rw[aQ]; exact Iw (by show j<=64; omega)
  rw[hm];have e2:(2:Int) ^ j=((2 ^ j:Nat):Int):=by rw[Int.natCast_pow]; rfl
  rw[e2]; exact(Int.ofNat_fdiv a (2 ^ j)).symm
 have hd:a / 2 ^ j<=a:=Nat.div_le_self _ _;rw[e,show (1:Int)=((1:Nat):Int) from rfl,Rf (by omega) (by omega),<-h3,eE];rw[Nat.testBit,Nat.shiftRight_eq_div_pow,Nat.and_comm];rw[show (1 &&& a / 2 ^ j)=(a / 2 ^ j) % 2 by rw[Nat.and_comm,Nat.and_one_is_mod]];have:=Nat.mod_lt (a / 2 ^ j) (show 0<2 by decide);constructor
 ·intro h; have:a / 2 ^ j % 2=1:=by omega
  rw[this]; rfl
 ·intro h;have h:a / 2 ^ j % 2≠0:=by simpa using h
  omega
theorem Rp.hit(h:Rp k s S)(hj:j<k)(hk:k<=20):((xW .i64 s (Ae .i64 1 (j:Int)) != 0)=true)↔S j:=by
 obtain⟨a,e1,e2,e3⟩:=h.and (Rp.one hj hk) hk hk;rw[e1,bne_iff_ne];constructor
 ·intro hne;have:a≠0:=fun h0=>hne (by rw[h0]; rfl);obtain⟨p,hp⟩:=Nat.exists_testBit_of_ne_zero this;obtain⟨hs,rfl⟩:=(e3 p).1 hp;exact hs
 ·intro hs h0;have:a=0:=by omega
  have hb:=(e3 j).2 ⟨hs,rfl⟩;rw[this,Nat.zero_testBit]at hb;cases hb
section
variable {α:Type} (K:Nat) (rep:Nat->Int) (ok:α->Nat->Prop)
def Skp(p q:Nat):Prop:=p<=q/\∀ r,p<=r->r<q->r<K/\rep r=2
def qX:List α->Nat->Prop
 | [],p=>Skp K rep p K
 | x::s,p=>∃ q,Skp K rep p q/\q<K/\ok x q/\(qX s (q+1)\/(rep q=1/\qX s q))
def Bwd:List α->Nat->Prop
 | [],p=>p=K
 | x::s,p=>p<K/\ok x p/\(qX K rep ok s (p+1)\/(rep p=1/\qX K rep ok s p))
theorem uX(s:List α)(p:Nat):qX K rep ok s p↔∃ q,Skp K rep p q/\Bwd K rep ok s q:=by
 cases s with
 | nil=>
  constructor
  ·intro h; exact⟨K,h,rfl⟩
  ·rintro⟨q,h,rfl⟩; exact h
 | cons x s=>exact Iff.rfl
variable {K rep ok}
theorem Skp.refl(p:Nat):Skp K rep p p:=⟨cS p,fun r h h'=>by omega⟩
theorem Skp.trans{p q r:Nat}(h:Skp K rep p q)(h':Skp K rep q r):Skp K rep p r:=⟨gZ h.1 h'.1,fun t h1 h2=>by
 rcases mG t q with h3 | h3
 ·exact h.2 t h1 h3
 ·exact h'.2 t h3 h2⟩
theorem qX.pre{s:List α}{p q:Nat}(h:Skp K rep p q)(ha:qX K rep ok s q):qX K rep ok s p:=by
 cases s with
 | nil=>exact h.trans ha
 | cons x s=>obtain⟨r,h1,h2⟩:=ha;exact⟨r,h.trans h1,h2⟩
variable (K rep ok)
def Nxt(S:Nat->Prop)(x:α):Nat->Prop:=fun p=>∃ q,(∃ b,S b/\b<K/\ok x b/\(q=b+1\/(rep b=1/\q=b)))/\Skp K rep q p
def Fwd:(Nat->Prop)->List α->Prop
 | S,[]=>S K
 | S,x::s=>Fwd (Nxt K rep ok S x) s
theorem Wv:∀ (s:List α) (S:Nat->Prop),(∀ p q,S p->Skp K rep p q->S q)->(Fwd K rep ok S s↔∃ p,S p/\qX K rep ok s p)
 | [],S,hc=>⟨fun h=>⟨K,h,.refl K⟩,fun⟨p,h1,h2⟩=>hc p K h1 h2⟩
 | x::s,S,hc=>by
  rw[Fwd,Wv s _ fun p q ⟨r,h1,h2⟩ h3=>⟨r,h1,h2.trans h3⟩];constructor
  ·rintro⟨p,⟨q,⟨b,hb,hK,ho,hq⟩,hs⟩,ha⟩;refine⟨b,hb,b,.refl b,hK,ho,?_⟩;have ha':=ha.pre hs;rcases hq with rfl | ⟨h1,rfl⟩
   ·exact .inl ha'
   ·exact .inr ⟨h1,ha'⟩
  ·rintro⟨p,hp,q,hs,hK,ho,ha⟩;have hq:=hc p q hp hs;rcases ha with ha | ⟨h1,ha⟩
   ·exact⟨q+1,⟨q+1,⟨q,hq,hK,ho,.inl rfl⟩,.refl _⟩,ha⟩
   ·exact⟨q,⟨q,⟨q,hq,hK,ho,.inr ⟨h1,rfl⟩⟩,.refl _⟩,ha⟩
theorem Zx(s:List α):Fwd K rep ok (fun p=>Skp K rep 0 p) s↔qX K rep ok s 0:=by rw[Wv K rep ok s _ fun p q h h'=>h.trans h'];exact⟨fun⟨p,h1,h2⟩=>h2.pre h1,fun h=>⟨0,.refl 0,h⟩⟩
theorem mX{β:Type}{okβ:β->Nat->Prop}(f:β->α)(h:∀ b q,q<K->(okβ b q↔ok (f b) q)):∀ (s:List β) (p:Nat),qX K rep okβ s p↔qX K rep ok (s.map f) p
 | [],p=>Iff.rfl
 | b::s,p=>by
  rw[gJ,qX,qX];constructor
  ·rintro⟨q,h1,h2,h3,h4⟩;exact⟨q,h1,h2,(h b q h2).1 h3,h4.imp (mX f h s _).1 fun h5=>⟨h5.1,(mX f h s _).1 h5.2⟩⟩
  ·rintro⟨q,h1,h2,h3,h4⟩;exact⟨q,h1,h2,(h b q h2).2 h3,h4.imp (mX f h s _).2 fun h5=>⟨h5.1,(mX f h s _).2 h5.2⟩⟩
end
abbrev gT (n:aG)(r:Nat):Int:=(n.Seq.getD r default).Rep
theorem Hn{n:aG}{K:Nat}(hK:K<=8){s:Int}{S:Nat->Prop}(h:Rp (K+1) s S):∀ k,k<=K->Rp (K+1) (Ha n s k) (fun p=>∃ q,S q/\Skp k (gT n) q p)
 | 0,_=>by
  refine h.congr fun p=>⟨fun hp=>⟨p,hp,.refl p⟩,fun⟨q,hq,h1,h2⟩=>?_⟩;rcases Nat.eq_or_lt_of_le h1 with e | e
  ·rw[<-e]; exact hq
  ·exact absurd (h2 q (cS q) e).1 (by omega)
 | k+1,hk=>by
  have ih:=Hn (n:=n) hK h k (by omega);have ht:=ih.test (j:=k) (by omega) (by omega);have up:∀ q p,Skp k (gT n) q p->Skp (k+1) (gT n) q p:=fun q p hs=>⟨hs.1,fun r h1 h2=>⟨by have:=(hs.2 r h1 h2).1; omega,(hs.2 r h1 h2).2⟩⟩;have dn:∀ q p,Skp (k+1) (gT n) q p->(p<=k\/q=p)->Skp k (gT n) q p:=fun q p hs hp=>⟨hs.1,fun r h1 h2=>⟨by rcases hp with hp | hp <;> omega,(hs.2 r h1 h2).2⟩⟩;rw[Ha];by_cases hc:((n.Seq.getD k default).Rep==2)=true/\(xW .i64 (bY .i64 (Ha n s k) k) 1==1)=true
  ·rw[aA hc];have h2:gT n k=2:=eE.1 hc.1;obtain⟨b,hb,hbs⟩:=ht.1 hc.2;refine(ih.or (Rp.one (j:=k+1) (by omega) (by omega)) (by omega)).congr fun p=>⟨?_,?_⟩
   ·rintro (⟨q,hq,hs⟩ | rfl)
    ·exact⟨q,hq,up q p hs⟩
    ·refine⟨b,hb,(up b k hbs).trans ⟨by omega,fun r h1 h2'=>?_⟩⟩;have:r=k:=by omega
     rw[this]; exact⟨by omega,h2⟩
   ·rintro⟨q,hq,hs⟩;by_cases hp:p<=k\/q=p
    ·exact .inl ⟨q,hq,dn q p hs hp⟩
    ·have:=hs.1;have h3:=(hs.2 (p-1) (by omega) (by omega)).1;exact .inr (by omega)
  ·rw[aE hc];refine ih.congr fun p=>⟨fun⟨q,hq,hs⟩=>⟨q,hq,up q p hs⟩,fun⟨q,hq,hs⟩=>?_⟩;by_cases hp:p<=k\/q=p
   ·exact⟨q,hq,dn q p hs hp⟩
   ·have h1:=hs.1;have h3:=(hs.2 (p-1) (by omega) (by omega)).1;have h4:=(hs.2 k (by omega) (by omega)).2;refine absurd ⟨eE.2 h4,ht.2 ⟨q,hq,⟨by omega,fun r h5 h6=>⟨h6,(hs.2 r h5 (by omega)).2⟩⟩⟩⟩ hc
theorem Ro{n:aG}{K:Nat}(hK:K<=8):∀ k,k<=K->Rp K (Qt n k) (fun p=>p<k/\gT n p=1)
 | 0,_=>(Rp.zero K).congr fun p=>by simp
 | k+1,hk=>by
  have ih:=Ro (n:=n) hK k (by omega);rw[Qt];by_cases hc:((n.Seq.getD k default).Rep==1)=true
  ·rw[aA hc];have h1:gT n k=1:=eE.1 hc;refine(ih.or (Rp.one (j:=k) (by omega) (by omega)) (by omega)).congr fun p=>⟨?_,?_⟩
   ·rintro (⟨h2,h3⟩ | rfl)
    ·exact⟨by omega,h3⟩
    ·exact⟨by omega,h1⟩
   ·rintro⟨h2,h3⟩;by_cases hp:p=k
    ·exact .inr hp
    ·exact .inl ⟨by omega,h3⟩
  ·rw[aE hc];have h1:¬ gT n k=1:=fun e=>hc (eE.2 e);refine ih.congr fun p=>⟨fun⟨h2,h3⟩=>⟨by omega,h3⟩,fun⟨h2,h3⟩=>⟨?_,h3⟩⟩;have:p≠k:=fun e=>h1 (by rw[<-e]; exact h3);omega
theorem aXF(hn:n.Seq.length<=8){x:dW}{T:Nat->Prop}(h:Rp (n.Seq.length+1) s S)(hx:Rp n.Seq.length x.fits_ T):
  Rp (n.Seq.length+1) (nxF n s x) (fun p=>∃ q,(∃ b,S b/\b<n.Seq.length/\T b/\(q=b+1\/(gT n b=1/\q=b)))/\Skp n.Seq.length (gT n) q p):=by
 have h1:=h.and hx (by omega) (by omega);have h2:=(h1.shl (by omega)).or ((h1.and (Ro (n:=n) hn n.Seq.length (cS _)) (by omega) (by omega)).mono (Nat.le_succ _)) (by omega);have hT:∀ b,T b->b<n.Seq.length:=fun b hb=>by obtain⟨a,_,ha,hp⟩:=hx;refine oY fun hge=>?_;have:=(hp b).2 hb;rw[Nat.testBit_lt_two_pow (Ca ha (Mx (by decide) (by omega)))]at this;cases this
 refine(Hn hn h2 n.Seq.length (cS _)).congr fun p=>⟨?_,?_⟩
 ·rintro⟨q,(⟨b,⟨hb,ht⟩,rfl⟩ | ⟨⟨hb,ht⟩,hl,hr⟩),hs⟩
  ·exact⟨b+1,⟨b,hb,hT b ht,ht,.inl rfl⟩,hs⟩
  ·exact⟨q,⟨q,hb,hl,ht,.inr ⟨hr,rfl⟩⟩,hs⟩
 ·rintro⟨q,⟨b,hb,hl,ht,(rfl | ⟨hr,rfl⟩)⟩,hs⟩
  ·exact⟨b+1,.inl ⟨b,⟨hb,ht⟩,rfl⟩,hs⟩
  ·exact⟨q,.inr ⟨⟨hb,ht⟩,hl,hr⟩,hs⟩
theorem Yx{n:aG}(hn:n.Seq.length<=8)(ok:dW->Nat->Prop):∀ (l:List dW) (s:Int) (S:Nat->Prop),(∀ x,x∈l->Rp n.Seq.length x.fits_ (ok x))->Rp (n.Seq.length+1) s S ->
  ((Hy n (l.foldl (nxF n) s)=true)↔Fwd n.Seq.length (gT n) ok S l)
 | [],s,S,_,h=>by show ((xW .i64 s (Ae .i64 1 (n.Seq.length:Int)) != 0)=true)↔S n.Seq.length;exact h.hit (by omega) (by omega)
 | x::l,s,S,hx,h=>by rw[oB];exact Yx hn ok l (nxF n s x) (Nxt n.Seq.length (gT n) ok S x) (fun y hy=>hx y (cC _ hy)) (aXF hn h (hx x bW))
theorem aLH(hn:n.Seq.length<=8)(ok:dW->Nat->Prop){l:List dW}(hx:∀ x,x∈l->Rp n.Seq.length x.fits_ (ok x))(t0:Int):
  (isM dW.time_ (nxF n) (Hy n) n.Size t0 (sZ n 1) l=true)↔((l.getLastD default).time_-t0<n.Size/\qX n.Seq.length (gT n) ok l 0):=by
 unfold isM;rw[cO,gY];refine and_congr Iff.rfl ?_;rw[Yx hn ok l (sZ n 1) (fun p=>Skp n.Seq.length (gT n) 0 p) hx]
 ·exact Zx _ _ _ l
 ·refine(Hn hn (Rp.one0 (by omega) (by omega)) n.Seq.length (cS _)).congr fun p=>⟨?_,fun h=>⟨0,rfl,h⟩⟩;rintro⟨q,rfl,h⟩;exact h
theorem Oi(fs:List aU){n:aG}(hn:n.Seq.length<=8)(d:aC):∀ k,k<=n.Seq.length->Rp n.Seq.length (Qr fs n d k) (fun p=>p<k/\(evV fs (n.Seq.getD p default).Pred d).N=1)
 | 0,_=>(Rp.zero _).congr fun p=>by simp
 | k+1,hk=>by
  have ih:=Oi fs hn d k (by omega);rw[Qr];by_cases hc:((evV fs (n.Seq.getD k default).Pred d).N==1)=true
  ·rw[aA hc];have h1:(evV fs (n.Seq.getD k default).Pred d).N=1:=by simpa using hc
   refine(ih.or (Rp.one (j:=k) (by omega) (by omega)) (by omega)).congr fun p=>⟨?_,?_⟩
   ·rintro (⟨h2,h3⟩ | rfl)
    ·exact⟨by omega,h3⟩
    ·exact⟨by omega,h1⟩
   ·rintro⟨h2,h3⟩;by_cases hp:p=k
    ·exact .inr hp
    ·exact .inl ⟨by omega,h3⟩
  ·rw[aE hc];have h1:¬ (evV fs (n.Seq.getD k default).Pred d).N=1:=by simpa using hc
   refine ih.congr fun p=>⟨fun⟨h2,h3⟩=>⟨by omega,h3⟩,fun⟨h2,h3⟩=>⟨?_,h3⟩⟩;have:p≠k:=fun e=>h1 (by rw[<-e]; exact h3);omega
end Go.PL
