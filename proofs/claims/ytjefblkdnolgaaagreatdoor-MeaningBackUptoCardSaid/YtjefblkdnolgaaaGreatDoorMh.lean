/-
  Parts: From the reading of arguments to plain data; the frame of a law's row. Own work. What reads as data of the argument types reads as plain data of ours. Printed by a program of our own. The kept part of a plain-law text (strip.py). Own work. The kept part of a plain-law text (strip.py). Own work. The kept part of a plain-law text (strip.py). Own work. The kept part of a plain-law text (strip.py). Own work. The kept part of a plain-law text (strip.py). Own work. The kept part of a plain-law text (strip.py). Own work. The kept part of a plain-law text (strip.py). Own work. The kept part of a plain-law text (strip.py). Own work. The kept part of a plain-law text (strip.py). Own work. The kept part of a plain-law text (strip.py). Own work. The kept part of a plain-law text (strip.py). Own work. The kept part of a plain-law text (strip.py). Own work. The kept part of a plain-law text (strip.py). Own work. The kept part of a plain-law text (strip.py). Own work. The kept part of a plain-law text (strip.py). Own work. The kept part of a plain-law text (strip.py). Own work. The kept part of a plain-law text (strip.py). Own work. The kept part of a plain-law text (strip.py). Own work. The kept part of a plain-law text (strip.py). Own work. The kept part of a plain-law text (strip.py). Own work. The kept part of a plain-law text (strip.py). Own work. The kept part of a plain-law text (strip.py). Own work. The kept part of a plain-law text (strip.py). Own work. The kept part of a plain-law text (strip.py). Own work. Plain law of the meanings: what is right, what fits, what is given. Own work. The kept part of a plain-law text (strip.py). Own work. The kept part of a plain-law text (strip.py). Own work. The kept part of a plain-law text (strip.py). Own work. The kept part of a plain-law text (strip.py). Own work. The kept part of a plain-law text (strip.py). Own work. The kept part of a plain-law text (strip.py). Own work. The kept part of a plain-law text (strip.py). Own work.
-/
import Derived.Test.YtjefblkdnolgaaaGreatDoorMg
import Derived.Test.YtjefblkdnolgaaaGreatDoorRows
import Derived.JoinedCond
import Derived.ProofKit
import Derived.OpenShut
import Derived.Carry
import Derived.DataReads
import Derived.ChangeAnyMap
import Derived.KernelRfl
set_option maxHeartbeats 4000000
namespace Go.PL
open Go Go.RowKit
open Go.Proofs.YtjefblkdnolgaaaGreatDoor.Rows (uptoBulk uptoBulkAll)
variable {X:Type} {fuel:Nat} {ps:List MemPlace} {t:TypeId} {v:Value}
def RdL(F:Nat->Prop)(W:World)(l:List T)(cs:List Value):Prop:=cs.length=l.length/\∀ (j:Nat) x v,l[j]? = some x->cs[j]? = some v->Rd F W x v
theorem RdL.append{F:Nat->Prop}{W:World}{l l':List T}{cs cs':List Value}(h:RdL F W l cs)(h':RdL F W l' cs'):RdL F W (l++l') (cs++cs'):=by
 refine⟨by simp[h.1,h'.1],fun j x v hx hv=>?_⟩;by_cases hj:j<l.length
 ·rw[fQ hj]at hx;rw[fQ (by rw[h.1]; exact hj)]at hv;exact h.2 j x v hx hv
 ·rw[gC (by omega)]at hx;rw[gC (by rw[h.1]; omega),h.1]at hv;exact h'.2 _ x v hx hv
def eI(n:Int):Prop:=-9223372036854775808<=n/\n<=9223372036854775807
section
variable {H:Type} {enc:TypeId×Value->H} {P:Program} {W:World}
def fR(enc:TypeId×Value->H)(P:Program)(W:World)(t:TypeId)(c:X->List T)(ok:X->Prop)(fuel:Nat):Prop:=
 ∀ cs d ps,DataW.trod enc P W 0 (fun _=>true) true fuel t cs=some (d,ps)->uptoBulk d<=1048576->∃ x,RdL (fun b=>b<W.heap.size) W (c x) cs/\ok x
theorem cV{c:X->List T}{ok:X->Prop}:fR enc P W t c ok 0:=fun cs d ps h=>by simp[DataW.trod]at h
theorem RdL.one{F:Nat->Prop}{W:World}{x:T}(h:Rd F W x v):RdL F W [x] [v]:=by
 refine⟨rfl,fun j y u hy hu=>?_⟩;cases j with
 | zero=>simp at hy hu; subst hy; subst hu; exact h
 | succ j=>simp at hy
theorem dD(ht:P.underlying t=some (.int .i64))(fuel:Nat):fR enc P W t bR eI fuel:=by
 cases fuel with
 | zero=>exact cV
 | succ fuel=>
  intro cs d ps h _;unfold DataW.trod at h;rw[ht]at h;split at h <;> try (simp_all; done)
  rename_i k k' n hk;split at h
  ·rename_i hk2;cases hk;obtain⟨rfl,hwf⟩:=hk2;refine⟨n,RdL.one (.int _ _),?_⟩;simp[Lit.wf,IntKind.min,IntKind.max,IntKind.signed,IntKind.bits]at hwf;exact⟨by omega,by omega⟩
  ·cases h
def wG(s:ByteArray):Prop:=s.size<=1048576
theorem gZ(ht:P.underlying t=some .string)(fuel:Nat):fR enc P W t Ic wG fuel:=by
 cases fuel with
 | zero=>exact cV
 | succ fuel=>
  intro cs d ps h hw;unfold DataW.trod at h;rw[ht]at h;split at h <;> try (simp_all; done)
  rename_i s hk;split at h
  ·cases h;refine⟨s,RdL.one (.str _),?_⟩;have:s.data.toList.length+1<=1048576:=hw;have:s.size=s.data.toList.length:=rfl;unfold wG;omega
  ·cases h
theorem yH{α β:Type}{f:α->Option β}:∀ {l:List α} {r:List β},l.mapM f=some r->r.length=l.length/\∀ (i:Nat) a b,l[i]? = some a->r[i]? = some b->f a=some b
 | [],r,h=>by simp at h; subst h; simp
 | x::l,r,h=>by
  rw[List.mapM_cons]at h;simp only[Option.bind_eq_bind,My]at h;obtain⟨y,hy,ys,hys,hr⟩:=h;simp at hr; subst hr;obtain⟨h1,h2⟩:=yH hys;refine⟨by simp[h1],fun i a b ha hb=>?_⟩;cases i with
  | zero=>simp at ha hb; subst ha; subst hb; exact hy
  | succ i=>exact h2 i a b (by simpa using ha) (by simpa using hb)
theorem Ls:∀ d:DataW H,1<=uptoBulk d
 | .lit l=>by unfold uptoBulk; split <;> omega
 | .nil=>by simp[uptoBulk]
 | .ptr d=>by simp[uptoBulk]
 | .slice e s=>by simp[uptoBulk]
 | .agg p=>by simp[uptoBulk]
 | .iface t d=>by simp[uptoBulk]
 | .map e=>by simp[uptoBulk]
 | .held h=>by simp[uptoBulk]
theorem Br:∀ l:List (DataW H),l.length<=uptoBulkAll l
 | []=>by simp
 | d::l=>by simp only[uptoBulkAll,dA]; have:=Ls d; have:=Br l; omega
theorem Bn:∀ {l:List (DataW H)} {d:DataW H},d∈l->uptoBulk d<=uptoBulkAll l
 | x::l,d,h=>by
  simp only[uptoBulkAll];rcases aU.1 h with rfl | h
  ·omega
  ·have:=Bn h; omega
def okL(_b:Nat)(ok:X->Prop)(xs:List X):Prop:=xs.length<=1048576/\∀ x,x∈xs->ok x
theorem fV{t e b:Nat}(ht:P.underlying t=some (.slice e))(hn:Nat.blt 0 (P.cellsOf e)=true)(hb:P.bytesOf e=b){X:Type}[Inhabited X]{c:X->List T}{ok:X->Prop}{fuel:Nat}(he:fR enc P W e c ok fuel)(mk:List X->T)
  (hmk:∀ xs,(mk xs).view=some (xs.length,fun i=>c (xs.getD i default))):fR enc P W t (fun xs=>[mk xs]) (okL b ok) (fuel+1):=by
 have hz:0<P.cellsOf e:=by simpa[eR] using hn
 clear hn;subst hb;intro cs d ps h hw;unfold DataW.trod at h;rw[ht]at h;split at h <;> try (simp_all; done)
 ·
  rename_i hk;cases hk;refine⟨[],RdL.one (.nil (hmk [])),by simp,by simp⟩
 ·rename_i e' a len cap hk;cases hk;simp only at h;split at h
  ·rename_i hcap;simp only[My,kR]at h;obtain⟨elems,hel,rest,hrest,hd⟩:=h;simp only[gO]at hd;obtain⟨rfl,rfl⟩:=hd;obtain⟨hlen,hget⟩:=yH hel;simp only[List.length_range]at hlen;have hwt:uptoBulkAll (elems.map (·.1))<=1048576:=by have hw2:uptoBulkAll (elems.map (·.1))+uptoBulkAll (rest.map (·.1))+1<=1048576:=hw;omega
   have hl:len<=1048576:=by have:=Br (elems.map (·.1));simp only[bQ,hlen]at this;omega
   have each:∀ i,i<len->∃ x vs,W.cells? 0 (a.add (i*P.cellsOf e)) (P.cellsOf e)=some vs/\RdL (fun b=>b<W.heap.size) W (c x) vs/\ok x:=by
    intro i hi;have hi':i<elems.length:=by omega
    have:=hget i i elems[i] (by simp[hi]) (by simp[hi']);simp only[My]at this;obtain⟨vs,hvs,htr⟩:=this;obtain⟨x,h1,h2⟩:=he vs elems[i].1 elems[i].2 htr (gY (Bn (zM (Bu hi'))) hwt);exact⟨x,vs,hvs,h1,h2⟩
   have all:∃ xs:List X,xs.length=len/\∀ i,i<len->∃ vs,W.cells? 0 (a.add (i*P.cellsOf e)) (P.cellsOf e)=some vs/\RdL (fun b=>b<W.heap.size) W (c (xs.getD i default)) vs/\ok (xs.getD i default):=by
    clear hel hrest hget hw hwt hl hlen hcap
    induction len with
    | zero=>exact⟨[],rfl,fun i hi=>absurd hi (Ad _)⟩
    | succ len ih=>
     obtain⟨xs,h1,h2⟩:=ih fun i hi=>each i (by omega);obtain⟨x,vs,h3,h4,h5⟩:=each len (by omega);refine⟨xs++[x],by simp[h1],fun i hi=>?_⟩;by_cases hil:i<len
     ·have:(xs++[x]).getD i default=xs.getD i default:=by simp[cF,fQ (show i<xs.length by omega)]
      rw[this]; exact h2 i hil
     ·have hil:i=len:=by omega
      subst hil;have:(xs++[x]).getD i default=x:=by simp[cF,<-h1]
      rw[this]; exact⟨vs,h3,h4,h5⟩
   obtain⟨xs,hxl,hxs⟩:=all;refine⟨xs,RdL.one ?_,by rw[hxl]; exact hl,fun x hx=>?_⟩
   ·have hsz:∀ i,i<len->(c (xs.getD i default)).length=P.cellsOf e:=by intro i hi;obtain⟨vs,h1,h2,_⟩:=hxs i hi;rw[<-h2.1];unfold World.cells? at h1;rw[aA (vY _)]at h1;have:=(yH h1).1; simpa using this
    have hcell:∀ i j,i<len->j<P.cellsOf e->∃ u,W.cell? (a.add (i*P.cellsOf e+j))=some u/\∀ x,(c (xs.getD i default))[j]? = some x->Rd (fun b=>b<W.heap.size) W x u:=by intro i j hi hj;obtain⟨vs,h1,h2,_⟩:=hxs i hi;unfold World.cells? at h1;rw[aA (vY _)]at h1;obtain⟨h3,h4⟩:=yH h1;simp only[List.length_range]at h3;have:=h4 j j vs[j] (by simp[hj]) (by simp[h3,hj]);rw[Addr.add_add]at this;exact⟨vs[j],this,fun x hx=>h2.2 j x vs[j] hx (by simp[h3,hj])⟩
    let vsf:Nat->Nat->Value:=fun i j=>(W.cell? (a.add (i*P.cellsOf e+j))).getD undef;refine .sl a cap (P.cellsOf e) vsf (n:=len) (f:=fun i=>c (xs.getD i default)) (by rw[hmk,hxl]) hcap.2.1 (fun hn=>?_) hsz (fun i j hi hj=>?_) (fun i j x hi hx=>?_)
    ·obtain⟨u,hu,_⟩:=hcell 0 0 hn hz;have hb:=World.block_lt_of_cell? W _ hu;have:(a.add (0*P.cellsOf e+0)).block=a.block:=by unfold Addr.add; split <;> rfl
     rw[this]at hb;exact hb
    ·obtain⟨u,hu,_⟩:=hcell i j hi hj;simp[vsf,hu]
    ·have hj:j<P.cellsOf e:=by rw[<-hsz i hi]; exact(eQ.1 hx).1
     obtain⟨u,hu,hr⟩:=hcell i j hi hj;simp only[vsf,hu,sY];exact hr x hx
   ·obtain⟨i,hi,rfl⟩:=List.getElem_of_mem hx;obtain⟨_,_,_,h⟩:=hxs i (by omega);simpa[cF,hi] using h
  ·cases h
def Lm(enc:TypeId×Value->H)(P:Program)(W:World)(off:Nat)(fs:List Field)(c:X->List T)(ok:X->Prop)(fuel:Nat):Prop:=
 ∀ (cs:List Value) xs,fs.mapM (fun f=>DataW.trod enc P W 0 (fun _=>true) true fuel f.type ((cs.drop f.offset).take (P.cellsOf f.type)))=some xs ->
  uptoBulkAll (xs.map (·.1))<=1048576->cs.length=off+(fs.map fun f=>P.cellsOf f.type).sum->∃ x,RdL (fun b=>b<W.heap.size) W (c x) (cs.drop off)/\ok x
theorem iT{off:Nat}:Lm enc P W off [] (fun (_:Unit)=>[]) (fun _=>True) fuel:=by intro cs xs _ _ hl;simp at hl;exact⟨(),⟨by simp[hl],by simp⟩,trivial⟩
theorem bC{off:Nat}{f:Field}{fs:List Field}{Y:Type}{c:X->List T}{c':Y->List T}{ok:X->Prop}{ok':Y->Prop}(ho:f.offset=off)(h:fR enc P W f.type c ok fuel)
  (h':Lm enc P W (off+P.cellsOf f.type) fs c' ok' fuel):Lm enc P W off (f::fs) (fun (x:X×Y)=>c x.1++c' x.2) (fun x=>ok x.1/\ok' x.2) fuel:=by
 intro cs xs hx hw hl;rw[List.mapM_cons]at hx;simp only[Option.bind_eq_bind,My]at hx;obtain⟨y,hy,ys,hys,hr⟩:=hx;simp at hr; subst hr;simp only[fI,uptoBulkAll]at hw;obtain⟨x,h1,h2⟩:=h _ _ _ hy (by omega);simp only[fI,List.sum_cons]at hl;obtain⟨x',h3,h4⟩:=h' cs ys hys (by omega) (by omega);refine⟨(x,x'),?_,h2,h4⟩;have:cs.drop off=(cs.drop f.offset).take (P.cellsOf f.type)++cs.drop (off+P.cellsOf f.type):=by rw[ho,<-xD,iQ]
 rw[this];exact h1.append h3
theorem fZ{fs:Array Field}(ht:P.underlying t=some (.struct fs)){c:X->List T}{ok:X->Prop}(h:Lm enc P W 0 fs.toList c ok fuel)
  (hs:P.cellsOf t=(fs.toList.map fun f=>P.cellsOf f.type).sum):fR enc P W t c ok (fuel+1):=by
 intro cs d ps hd hw;unfold DataW.trod at hd;rw[ht]at hd;split at hd <;> try (simp_all; done)
 rename_i cs0 _ _ fs' hk;cases hk;split at hd
 ·rename_i hl;simp only[kR]at hd;obtain⟨xs,hxs,hd⟩:=hd;simp only[gO]at hd;obtain⟨rfl,_⟩:=hd;have hw2:uptoBulkAll (xs.map (·.1))+1<=1048576:=hw;have:=h _ xs hxs (by omega) (by rw[hl,hs]; simp);simpa using this
 ·cases hd
theorem fR.map{Y:Type}{c:X->List T}{ok:X->Prop}{c':Y->List T}{ok':Y->Prop}(h:fR enc P W t c ok fuel)(g:X->Y)(hc:∀ x,c' (g x)=c x)(ho:∀ x,ok x->ok' (g x)):
  fR enc P W t c' ok' fuel:=by
 intro cs d ps hd hw;obtain⟨x,h1,h2⟩:=h cs d ps hd hw;exact⟨g x,by rw[hc]; exact h1,ho x h2⟩
end
theorem RdL.agg{F:Nat->Prop}{W:World}{l:List T}{v:Value}(h:RdL F W l v.cells.toList)(hv:∃ vs,v = .agg vs):Rd F W (.agg l) v:=by obtain⟨vs,rfl⟩:=hv;simp only[Value.cells]at h;exact .agg (by simpa using h.1) fun j x v hx hv=>h.2 j x v hx (by simpa using hv)
section
variable {H:Type} {enc:TypeId×Value->H} {P:Program} {W:World} {r:Reach} {base:Nat}
theorem Uw{fs:Array Field}(ht:P.underlying t=some (.struct fs)){c:X->List T}{ok:X->Prop}(hO:∀ fuel,fR enc P W t c ok fuel){d:DataW H} 
  (hv:Value.okWide P W r base t v)(h:DataW.Trod enc P W 0 (fun _=>true) true t v d ps)(hw:uptoBulk d<=1048576):∃ x,Rd (fun b=>b<W.heap.size) W (.agg (c x)) v/\ok x:=by
 obtain⟨cs,rfl,_⟩:=Go.WideShapes.okWide_struct ht hv;obtain⟨fuel,hf⟩:=h;obtain⟨x,h1,h2⟩:=hO fuel _ _ _ hf hw;exact⟨x,h1.agg ⟨cs,rfl⟩,h2⟩
theorem Wf{c:X->T}{ok:X->Prop}(hO:∀ fuel,fR enc P W t (fun x=>[c x]) ok fuel){d:DataW H} 
  (hv:v.cells=#[v])(h:DataW.Trod enc P W 0 (fun _=>true) true t v d ps)(hw:uptoBulk d<=1048576):∃ x,Rd (fun b=>b<W.heap.size) W (c x) v/\ok x:=by
 obtain⟨fuel,hf⟩:=h;obtain⟨x,h1,h2⟩:=hO fuel _ _ _ hf hw;exact⟨x,h1.2 0 _ _ (by simp) (by simp[hv]),h2⟩
theorem aLH(ht:P.underlying t=some (.int .i64)){d:DataW H} 
  (hv:Value.okWide P W r base t v)(h:DataW.Trod enc P W 0 (fun _=>true) true t v d ps)(hw:uptoBulk d<=1048576):∃ x,Rd (fun b=>b<W.heap.size) W (.int .i64 x) v/\eI x:=by
 obtain⟨n,rfl⟩:=Go.WideShapes.okWide_int ht hv;exact Wf (c:=fun x=>.int .i64 x) (dD ht) rfl h hw
theorem uL{e:TypeId}(ht:P.underlying t=some (.slice e)){c:X->T}{ok:X->Prop}(hO:∀ fuel,fR enc P W t (fun x=>[c x]) ok fuel){d:DataW H} 
  (hv:Value.okWide P W r base t v)(h:DataW.Trod enc P W 0 (fun _=>true) true t v d ps)(hw:uptoBulk d<=1048576):∃ x,Rd (fun b=>b<W.heap.size) W (c x) v/\ok x:=by
 obtain⟨a,l,q,rfl⟩:=Go.WideShapes.okWide_slice ht hv;exact Wf hO rfl h hw
end
theorem Hy{W W':World}(h:Below W.heap.size W W')(may:MemPlace->Prop):W.keptBut W' may:=by
 refine⟨h.os,h.output,fun i hi=>?_⟩;rw[h.block i hi];cases W.heap[i]? with
 | none=>trivial
 | some o=>cases o <;> simp
section
variable {H:Type} {enc:TypeId×Value->H} {P:Program}
theorem wE(hl:laidOutB P=true){W W':World}(hb:Below W.heap.size W W'):∀ {ts:List TypeId} {vs:List Value} {ds:List (DataW H)} {ps:List MemPlace},
  (∀ t,t∈ts->P.readableRec t=true/\t<P.types.size)->DataW.TrodAll enc P W 0 (fun _=>true) true ts vs ds ps->(∀ x,x∈ps->x.block<W.heap.size) ->
  DataW.TrodAll enc P W' 0 (fun b=>decide (b<W.heap.size)) true ts vs ds ps
 | [],[],[],ps,_,h,_=>h
 | t::ts,v::vs,d::ds,ps,hr,h,hp=>by obtain⟨p,q,h1,h2,rfl⟩:=h;obtain⟨r1,r2⟩:=hr t (by simp);exact⟨p,q,Go.RowKit.Below.trod hl r1 r2 h1 hb (fun x hx=>hp x (pZ _ hx)),wE hl hb (fun t ht=>hr t (cH _ ht)) h2 (fun x hx=>hp x (mZ _ hx)),rfl⟩
 | [],_::_,_,_,_,h,_=>by simp[DataW.TrodAll]at h
 | [],[],_::_,_,_,h,_=>by simp[DataW.TrodAll]at h
 | _::_,[],_,_,_,h,_=>by simp[DataW.TrodAll]at h
 | _::_,_::_,[],_,_,h,_=>by simp[DataW.TrodAll]at h
theorem aEB(hlay:laidOutB P=true){f:Func}{s:ChangeSpec}{W W':World}{args:Array Value}{ds gs:List (DataW H)}{before:List MemPlace}{tb:TypeId}(hvars:s.vars=[])
  (hW:DataW.Whole enc P f.params.toList s.vars false W args.toList ds gs before)(hb:Below W.heap.size W W')(hres:f.resultTypes=#[tb])(htb:P.underlying tb=some .bool)
  (hread:∀ t,t∈f.params.toList->P.readableRec t=true/\t<P.types.size)(hfn:s.fn H (ds++gs)={ results:=[.lit (.bool true)],args:=ds }):
  s.post enc P f false true false false W args (.bool true) W':=by
 have hW':=hW;obtain⟨p,q,hA,hV,rfl,_⟩:=hW;rw[hvars]at hV;cases gs with
 | cons g gs=>simp[DataW.TrodVars]at hV
 | nil=>
  simp only[DataW.TrodVars]at hV;subst hV;have hlt:∀ x,x∈p->x.block<W.heap.size:=fun x hx=>by simpa using hW'.lt x (by simp[hx])
  refine⟨ds,[],p++[],[],p,[],hW',?_,?_,?_,Hy hb _,fun h=>by cases h⟩
  ·rw[hfn,hres];exact⟨[],[],⟨1,by simp[DataW.trod,htb,Value.cells]⟩,rfl,rfl⟩
  ·rw[hfn];exact wE hlay hb hread hA hlt
  ·rw[hvars,hfn]; exact rfl
theorem iJ.law{P:Program}{k:FuncId}{args:List PV}(h:iJ P k args [] [] (Ret (.t (.bool true)))){W:World}{vs:Array Value}(hs:vs.size=args.length)
  (hv:∀ (j:Nat) x v,args[j]? = some x->vs[j]? = some v->VR (fun b=>b<W.heap.size) (fun _=>undef) W x v)(hg:GLP P (fun b=>b<W.heap.size) W):
  Calls P k vs W fun e W'=>e = .returned (.bool true)/\Below W.heap.size W W':=by
 refine(h (fun b=>b<W.heap.size) (fun _=>undef) W vs hs hv ⟨by simp,by simp,by simp⟩ (fun _ h=>h) hg).mono ?_;rintro e w' ⟨v,r,H',F',g',rfl,hr,hvr,hW⟩;unfold Ret at hr;subst hr;have:=hvr.inv_bool;subst this;exact⟨rfl,⟨hW.ext.os,hW.ext.tape,hW.ext.output,hW.ext.size,fun b hb=>hW.ext.block b hb (by rintro⟨o,x,hx,_⟩; simp at hx)⟩⟩
end
set_option maxRecDepth 20000
theorem o23{H:Type}{enc:TypeId×Value->H}{W:World}(fuel:Nat):fR enc Proofs.Tryz.prog W 23 (fun xs=>[eL bR (xs)]) (okL 8 eI) fuel:=by
 cases fuel with
 | zero=>exact cV
 | succ fuel=>exact fV Proofs.Tryz.underlying23 (by kernel_rfl) (by kernel_rfl) (dD Proofs.Tryz.underlying3 fuel) (fun xs=>eL bR (xs)) (fun _=>rfl)
inductive dU:bO->Prop
 | mk0 {a b:Int} {s:ByteArray} {l:List bO} (ha:eI a) (hb:eI b) (hs:wG s) (hn:l.length<=1048576) (hl:∀ x,x∈l->dU x):dU (.mk a b s l)
theorem dU.mk{a b:Int}{s:ByteArray}{l:List bO}(ha:eI a)(hb:eI b)(hs:wG s)(hl:okL 56 dU l):dU (.mk a b s l):=.mk0 ha hb hs hl.1 hl.2
theorem Yu{H:Type}{enc:TypeId×Value->H}{W:World}:∀ fuel,fR enc Proofs.Tryz.prog W 90 dK dU fuel/\fR enc Proofs.Tryz.prog W 24 (fun xs=>[.lz (.exprs xs)]) (okL 56 dU) fuel
 | 0=>⟨cV,cV⟩
 | fuel+1=>by have ih:=Yu (enc:=enc) (W:=W) fuel;exact⟨(fZ Proofs.Tryz.underlying90 (bC (by kernel_rfl) (dD Proofs.Tryz.underlying3 fuel) (bC (by kernel_rfl) (dD Proofs.Tryz.underlying3 fuel) (bC (by kernel_rfl) (gZ Proofs.Tryz.underlying9 fuel) (bC (by kernel_rfl) ih.2 iT)))) (by kernel_rfl)).map (fun x=>bO.mk x.1 x.2.1 x.2.2.1 x.2.2.2.1) (fun _=>rfl) (fun x h=>.mk h.1 h.2.1 h.2.2.1 h.2.2.2.1),fV Proofs.Tryz.underlying24 (by kernel_rfl) (by kernel_rfl) ih.1 (fun xs=>.lz (.exprs xs)) (fun _=>rfl)⟩
def Ty(x:jR):Prop:=eI x.Kind/\eI x.Col/\wG x.Name
theorem bBH{H:Type}{enc:TypeId×Value->H}{W:World}(fuel:Nat):fR enc Proofs.Tryz.prog W 122 kI Ty fuel:=by
 cases fuel with
 | zero=>exact cV
 | succ fuel=>exact(fZ Proofs.Tryz.underlying122 (bC (by kernel_rfl) (dD Proofs.Tryz.underlying3 fuel) (bC (by kernel_rfl) (dD Proofs.Tryz.underlying3 fuel) (bC (by kernel_rfl) (gZ Proofs.Tryz.underlying9 fuel) iT))) (by kernel_rfl)).map (fun x=>jR.mk x.1 x.2.1 x.2.2.1) (fun _=>rfl) (fun x h=>⟨h.1,h.2.1,h.2.2.1⟩)
theorem o25{H:Type}{enc:TypeId×Value->H}{W:World}(fuel:Nat):fR enc Proofs.Tryz.prog W 25 (fun xs=>[eL kI (xs)]) (okL 32 Ty) fuel:=by
 cases fuel with
 | zero=>exact cV
 | succ fuel=>exact fV Proofs.Tryz.underlying25 (by kernel_rfl) (by kernel_rfl) (bBH fuel) (fun xs=>eL kI (xs)) (fun _=>rfl)
def Ui(x:Ij):Prop:=dU x.Pred/\eI x.Rep
theorem o93{H:Type}{enc:TypeId×Value->H}{W:World}(fuel:Nat):fR enc Proofs.Tryz.prog W 93 Qb Ui fuel:=by
 cases fuel with
 | zero=>exact cV
 | succ fuel=>exact(fZ Proofs.Tryz.underlying93 (bC (by kernel_rfl) (Yu fuel).1 (bC (by kernel_rfl) (dD Proofs.Tryz.underlying3 fuel) iT)) (by kernel_rfl)).map (fun x=>Ij.mk x.1 x.2.1) (fun _=>rfl) (fun x h=>⟨h.1,h.2.1⟩)
theorem o26{H:Type}{enc:TypeId×Value->H}{W:World}(fuel:Nat):fR enc Proofs.Tryz.prog W 26 (fun xs=>[eL Qb (xs)]) (okL 64 Ui) fuel:=by
 cases fuel with
 | zero=>exact cV
 | succ fuel=>exact fV Proofs.Tryz.underlying26 (by kernel_rfl) (by kernel_rfl) (o93 fuel) (fun xs=>eL Qb (xs)) (fun _=>rfl)
def Ue(x:Ig):Prop:=wG x.Name/\eI x.Type_/\wG x.Unit
theorem bBG{H:Type}{enc:TypeId×Value->H}{W:World}(fuel:Nat):fR enc Proofs.Tryz.prog W 354 Xw Ue fuel:=by
 cases fuel with
 | zero=>exact cV
 | succ fuel=>exact(fZ Proofs.Tryz.underlying354 (bC (by kernel_rfl) (gZ Proofs.Tryz.underlying9 fuel) (bC (by kernel_rfl) (dD Proofs.Tryz.underlying3 fuel) (bC (by kernel_rfl) (gZ Proofs.Tryz.underlying9 fuel) iT))) (by kernel_rfl)).map (fun x=>Ig.mk x.1 x.2.1 x.2.2.1) (fun _=>rfl) (fun x h=>⟨h.1,h.2.1,h.2.2.1⟩)
theorem o27{H:Type}{enc:TypeId×Value->H}{W:World}(fuel:Nat):fR enc Proofs.Tryz.prog W 27 (fun xs=>[eL Xw (xs)]) (okL 40 Ue) fuel:=by
 cases fuel with
 | zero=>exact cV
 | succ fuel=>exact fV Proofs.Tryz.underlying27 (by kernel_rfl) (by kernel_rfl) (bBG fuel) (fun xs=>eL Xw (xs)) (fun _=>rfl)
def kH(x:aG):Prop:=eI x.Op/\okL 8 eI x.In/\wG x.Source/\eI x.Schema/\okL 56 dU x.Exprs/\eI x.Kind/\eI x.Size/\eI x.Step/\okL 8 eI x.Key/\okL 8 eI x.Key2/\eI x.Before/\eI x.After/\eI x.Keep/\okL 32 Ty x.Aggs/\okL 64 Ui x.Seq/\okL 40 Ue x.Cols
theorem o29{H:Type}{enc:TypeId×Value->H}{W:World}(fuel:Nat):fR enc Proofs.Tryz.prog W 29 Mt kH fuel:=by
 cases fuel with
 | zero=>exact cV
 | succ fuel=>exact(fZ Proofs.Tryz.underlying29 (bC (by kernel_rfl) (dD Proofs.Tryz.underlying3 fuel) (bC (by kernel_rfl) (o23 fuel) (bC (by kernel_rfl) (gZ Proofs.Tryz.underlying9 fuel) (bC (by kernel_rfl) (dD Proofs.Tryz.underlying3 fuel) (bC (by kernel_rfl) (Yu fuel).2 (bC (by kernel_rfl) (dD Proofs.Tryz.underlying3 fuel) (bC (by kernel_rfl) (dD Proofs.Tryz.underlying3 fuel) (bC (by kernel_rfl) (dD Proofs.Tryz.underlying3 fuel) (bC (by kernel_rfl) (o23 fuel) (bC (by kernel_rfl) (o23 fuel) (bC (by kernel_rfl) (dD Proofs.Tryz.underlying3 fuel) (bC (by kernel_rfl) (dD Proofs.Tryz.underlying3 fuel) (bC (by kernel_rfl) (dD Proofs.Tryz.underlying3 fuel) (bC (by kernel_rfl) (o25 fuel) (bC (by kernel_rfl) (o26 fuel) (bC (by kernel_rfl) (o27 fuel) iT)))))))))))))))) (by kernel_rfl)).map (fun x=>aG.mk x.1 x.2.1 x.2.2.1 x.2.2.2.1 x.2.2.2.2.1 x.2.2.2.2.2.1 x.2.2.2.2.2.2.1 x.2.2.2.2.2.2.2.1 x.2.2.2.2.2.2.2.2.1 x.2.2.2.2.2.2.2.2.2.1 x.2.2.2.2.2.2.2.2.2.2.1 x.2.2.2.2.2.2.2.2.2.2.2.1 x.2.2.2.2.2.2.2.2.2.2.2.2.1 x.2.2.2.2.2.2.2.2.2.2.2.2.2.1 x.2.2.2.2.2.2.2.2.2.2.2.2.2.2.1 x.2.2.2.2.2.2.2.2.2.2.2.2.2.2.2.1) (fun _=>rfl) (fun x h=>⟨h.1,h.2.1,h.2.2.1,h.2.2.2.1,h.2.2.2.2.1,h.2.2.2.2.2.1,h.2.2.2.2.2.2.1,h.2.2.2.2.2.2.2.1,h.2.2.2.2.2.2.2.2.1,h.2.2.2.2.2.2.2.2.2.1,h.2.2.2.2.2.2.2.2.2.2.1,h.2.2.2.2.2.2.2.2.2.2.2.1,h.2.2.2.2.2.2.2.2.2.2.2.2.1,h.2.2.2.2.2.2.2.2.2.2.2.2.2.1,h.2.2.2.2.2.2.2.2.2.2.2.2.2.2.1,h.2.2.2.2.2.2.2.2.2.2.2.2.2.2.2.1⟩)
theorem o55{H:Type}{enc:TypeId×Value->H}{W:World}(fuel:Nat):fR enc Proofs.Tryz.prog W 55 (fun xs=>[eL nU (xs)]) (okL 24 (okL 8 eI)) fuel:=by
 cases fuel with
 | zero=>exact cV
 | succ fuel=>exact fV Proofs.Tryz.underlying55 (by kernel_rfl) (by kernel_rfl) (o23 fuel) (fun xs=>eL nU (xs)) (fun _=>rfl)
def yK(x:aF):Prop:=eI x.Kind/\eI x.N/\wG x.S
theorem o67{H:Type}{enc:TypeId×Value->H}{W:World}(fuel:Nat):fR enc Proofs.Tryz.prog W 67 bD yK fuel:=by
 cases fuel with
 | zero=>exact cV
 | succ fuel=>exact(fZ Proofs.Tryz.underlying67 (bC (by kernel_rfl) (dD Proofs.Tryz.underlying3 fuel) (bC (by kernel_rfl) (dD Proofs.Tryz.underlying3 fuel) (bC (by kernel_rfl) (gZ Proofs.Tryz.underlying9 fuel) iT))) (by kernel_rfl)).map (fun x=>aF.mk x.1 x.2.1 x.2.2.1) (fun _=>rfl) (fun x h=>⟨h.1,h.2.1,h.2.2.1⟩)
theorem o48{H:Type}{enc:TypeId×Value->H}{W:World}(fuel:Nat):fR enc Proofs.Tryz.prog W 48 (fun xs=>[eL bD (xs)]) (okL 32 yK) fuel:=by
 cases fuel with
 | zero=>exact cV
 | succ fuel=>exact fV Proofs.Tryz.underlying48 (by kernel_rfl) (by kernel_rfl) (o67 fuel) (fun xs=>eL bD (xs)) (fun _=>rfl)
def eC(x:aB):Prop:=eI x.Time/\okL 32 yK x.Row/\eI x.N
theorem o50{H:Type}{enc:TypeId×Value->H}{W:World}(fuel:Nat):fR enc Proofs.Tryz.prog W 50 aH eC fuel:=by
 cases fuel with
 | zero=>exact cV
 | succ fuel=>exact(fZ Proofs.Tryz.underlying50 (bC (by kernel_rfl) (dD Proofs.Tryz.underlying3 fuel) (bC (by kernel_rfl) (o48 fuel) (bC (by kernel_rfl) (dD Proofs.Tryz.underlying3 fuel) iT))) (by kernel_rfl)).map (fun x=>aB.mk x.1 x.2.1 x.2.2.1) (fun _=>rfl) (fun x h=>⟨h.1,h.2.1,h.2.2.1⟩)
theorem o37{H:Type}{enc:TypeId×Value->H}{W:World}(fuel:Nat):fR enc Proofs.Tryz.prog W 37 (fun xs=>[eL aH (xs)]) (okL 40 eC) fuel:=by
 cases fuel with
 | zero=>exact cV
 | succ fuel=>exact fV Proofs.Tryz.underlying37 (by kernel_rfl) (by kernel_rfl) (o50 fuel) (fun xs=>eL aH (xs)) (fun _=>rfl)
def eH(x:aV):Prop:=wG x.Name/\okL 8 eI x.Params/\eI x.Result/\dU x.Body
theorem bBJ{H:Type}{enc:TypeId×Value->H}{W:World}(fuel:Nat):fR enc Proofs.Tryz.prog W 150 bK eH fuel:=by
 cases fuel with
 | zero=>exact cV
 | succ fuel=>exact(fZ Proofs.Tryz.underlying150 (bC (by kernel_rfl) (gZ Proofs.Tryz.underlying9 fuel) (bC (by kernel_rfl) (o23 fuel) (bC (by kernel_rfl) (dD Proofs.Tryz.underlying3 fuel) (bC (by kernel_rfl) (Yu fuel).1 iT)))) (by kernel_rfl)).map (fun x=>aV.mk x.1 x.2.1 x.2.2.1 x.2.2.2.1) (fun _=>rfl) (fun x h=>⟨h.1,h.2.1,h.2.2.1,h.2.2.2.1⟩)
theorem o22{H:Type}{enc:TypeId×Value->H}{W:World}(fuel:Nat):fR enc Proofs.Tryz.prog W 22 (fun xs=>[eL bK (xs)]) (okL 104 eH) fuel:=by
 cases fuel with
 | zero=>exact cV
 | succ fuel=>exact fV Proofs.Tryz.underlying22 (by kernel_rfl) (by kernel_rfl) (bBJ fuel) (fun xs=>eL bK (xs)) (fun _=>rfl)
end Go.PL
namespace Go.PL
open Go
set_option linter.unusedVariables false
set_option maxRecDepth 20000
variable {S:Nat->Prop} {T X Y l o:List aB} {a j k:Nat} {cs:List Int} {e:bO} {fs:List aV} {n:aG} {s t:Int} {x y:aB}
theorem dY{S R:Type}{b:Bool}{bd:S->Option (S⊕R)}(idx:S->Int)(N:Nat)(hN:N<=1000000000000000)(I:S->Prop){Q:R->Prop}
  (h:∀ s (k:Nat),I s->idx s=k->k<=N->Sq b (bd s) (sel (fun s'=>idx s'=IntKind.i64.wrap ((k:Int)+1)/\k<N/\I s') Q)){s:S}(hs:I s)(h0:idx s=0):Sq b (cK bd s) Q:=by
 refine Sq.while (fun s=>I s/\∃ k:Nat,idx s=k/\k<=N) (fun s=>N-(idx s).toNat) (fun s hs=>?_) ⟨hs,0,h0,by omega⟩;obtain⟨hI,k,hk,hkN⟩:=hs;refine(h s k hI hk hkN).imp fun z hz=>?_;cases z with
 | inr r=>exact hz
 | inl s'=>obtain⟨q1,q2,q3⟩:=hz;rw[aN (by omega)]at q1;exact⟨⟨q3,k+1,q1,by omega⟩,by rw[q1,hk]; omega⟩
theorem dU.len(h:dU e):e.Args.length<=1048576:=by cases h; assumption
theorem dU.arg(h:dU e):∀ x,x∈e.Args->dU x:=by cases h; assumption
theorem wM{x:bO}(h:x∈e.Args):SizeOf.sizeOf x<SizeOf.sizeOf e:=by
 cases e with
 | mk a b s l=>have:=List.sizeOf_lt_of_mem h;simp only[bO.Args]at this;simp only[bO.mk.sizeOf_spec];omega
theorem Sf(e:bO)(h:dU e):Sp (G79 e) (fun _=>True):=by
 refine mJ (C:=fun (a:bO) (x:Option Int)=>Con Proofs.Tryz.prog 129 [.t (dE a)] x (fun (y:Int)=>.t (.int .i64 (y)))) (fun a=>⟨bS Proofs.Tryz.func129 (by kernel_rfl),fun _ h=>nomatch h⟩) (fun rec a=>T79 rec a) (fun rec a=>aEI rec a)
  dU (fun e=>SizeOf.sizeOf e) (fun _ _=>True) (fun b f e he hrec=>?_) true e h
 have hl:=he.len;unfold T79;simp only[Tr.den,bU];refine dY (fun s:Int×Int=>s.2) e.Args.length (by omega) (fun _=>True) (fun s k _ hk hkN=>?_) trivial rfl;obtain⟨v1,v2⟩:=s;simp only at hk;subst hk;unfold aJB;simp only[Tr.den,aR];by_cases hc:k<e.Args.length
 ·rw[aA (bJ (by omega)),aA (by omega)];refine Sq.bind _ (hrec _ (he.arg _ (aQ hc)) (wM (aQ hc))) fun r _=>aC.2 ⟨rfl,hc,trivial⟩
 ·rw[aE (cB (by omega))];exact aC.2 (aC.2 trivial)
theorem aDJ(e:bO)(h:dU e):Sp (G80 e) (fun _=>True):=by
 refine mJ (C:=fun (a:bO) (x:Option Int)=>Con Proofs.Tryz.prog 130 [.t (dE a)] x (fun (y:Int)=>.t (.int .i64 (y)))) (fun a=>⟨bS Proofs.Tryz.func130 (by kernel_rfl),fun _ h=>nomatch h⟩) (fun rec a=>T80 rec a) (fun rec a=>Ti rec a)
  dU (fun e=>SizeOf.sizeOf e) (fun _ _=>True) (fun b f e he hrec=>?_) true e h
 have hl:=he.len;unfold T80;simp only[Tr.den,bU];refine dY (fun s:Int×Int=>s.2) e.Args.length (by omega) (fun _=>True) (fun s k _ hk hkN=>?_) trivial rfl;obtain⟨v1,v2⟩:=s;simp only at hk;subst hk;unfold Ve;simp only[Tr.den,aR];by_cases hc:k<e.Args.length
 ·rw[aA (bJ (by omega)),aA (by omega)];refine Sq.bind _ (hrec _ (he.arg _ (aQ hc)) (wM (aQ hc))) fun r _=>aC.2 ⟨rfl,hc,trivial⟩
 ·rw[aE (cB (by omega))];exact aC.2 (aC.2 trivial)
theorem Vq(fs:List Int)(e:bO)(hf:fs.length<=1100000)(h:dU e):Sp (bAG fs e) (fun _=>True):=by
 refine mJ (C:=fun (a:(List Int)×bO) (x:Option Int)=>Con Proofs.Tryz.prog 211 [.t (eL bR (a.1)),.t (dE a.2)] x (fun (y:Int)=>.t (.int .i64 (y)))) (fun a=>⟨bS Proofs.Tryz.func211 (by kernel_rfl),fun _ h=>nomatch h⟩) (fun rec a=>aGO rec a.1 a.2) (fun rec a=>Xc rec a.1 a.2)
  (fun a=>a.1.length<=1100000/\dU a.2) (fun a=>SizeOf.sizeOf a.2) (fun _ _=>True) (fun b f a ha hrec=>?_) true (fs,e) ⟨hf,h⟩
 obtain⟨fs,e⟩:=a;obtain⟨hf,he⟩:=ha;simp only at hf he hrec ⊢;have hl:=he.len;unfold aGO;simp only[Tr.den,bU];refine dY (fun s:List Int×Int=>s.2) e.Args.length (by omega) (fun s=>s.1.length=s.2.toNat) (fun s k hI hk hkN=>?_) rfl rfl;obtain⟨v1,v2⟩:=s;simp only at hk hI;subst hk;unfold Xu;simp only[Tr.den,aR]at hI ⊢;by_cases hc:k<e.Args.length
 ·rw[aA (bJ (by omega)),aA (by omega)];refine Sq.bind _ (hrec (fs,e.Args.getD k default) ⟨hf,he.arg _ (aQ hc)⟩ (wM (aQ hc))) fun r _=>?_;rw[aA (by simp only[dA,fG]; omega)];refine aC.2 ⟨rfl,hc,?_⟩;rw[aN (by omega)]; simp; omega
 ·rw[aE (cB (by omega))];refine aC.2 ?_;simp only[sel];have hv:v1.length=e.Args.length:=by omega
  have rest:Sq b ((cK (fun s=>(Mp s).den) (1,v1,0)).bind (sel (fun b10=>((if (e.Op==22)=true then (if decide (e.N>=0)=true then some (decide (e.N<(fs.length:Int))) else some false) else some false)).bind fun j11=>
    ((if j11=true then (if 0<=e.N/\e.N<(fs.length:Int) then some (if (1099511627776:Int)<IntKind.i64.wrap (b10+fs.getD e.N.toNat default) then (1099511627776:Int) else IntKind.i64.wrap (b10+fs.getD e.N.toNat default)) else none) else some b10)).bind fun j12=>some j12) some)) (fun _=>True):=by
   rw[bU];refine dY (fun s:Int×List Int×Int=>s.2.2) v1.length (by omega) (fun s=>s.2.1=v1) (fun s k hI hk hkN=>?_) rfl rfl;obtain⟨w1,w2,w3⟩:=s;simp only at hk hI;subst hk hI;unfold Mp;simp only[Tr.den,aR];by_cases hc:k<w2.length
   ·rw[aA (bJ (by omega)),aA (by omega),aA hc];exact aC.2 ⟨rfl,hc,rfl⟩
   ·rw[aE (cB (by omega))];refine aC.2 ?_;simp only[sel,oK];by_cases h22:(e.Op==22)=true
    ·rw[aA h22];simp only[aJ];by_cases hr:e.N>=0/\e.N<(fs.length:Int)
     ·rw[aA (bJ hr),aA hr]; exact aC.2 trivial
     ·rw[aE (cB hr)]; exact aC.2 trivial
    ·rw[aE h22]; exact aC.2 trivial
  by_cases h21:(e.Op==21)=true
  ·rw[aA h21];simp only[aJ];by_cases h3:((v1.length:Int)==3)=true
   ·rw[aA h3];have h3':v1.length=3:=by have:=fB.1 h3; omega
    rw[aA (by omega),aA (by simp; omega),aA (by omega),aA (by simp; omega),aA (by omega),aA (by simp; omega)];exact aC.2 trivial
   ·rw[aE h3]; exact rest
  ·rw[aE h21];simp only[aJ,dO,dL];exact rest
theorem okEs.get{l:List bO}(h:okL 56 dU l)(hk:k<l.length):dU (l.getD k default):=h.2 _ (aQ hk)
theorem aKY(a b c:Int):aZJ a b c=some (decide (b<=a/\a<=c)):=by unfold aZJ aUJ;simp only[Tr.den,oK,aJ]
theorem Aa(l types:List Int)(h:l.length<=1048576):Sp (G88 l types) (fun r=>r=true->∀ c,c∈l->0<=c/\c<types.length):=by
 unfold G88 T88;simp only[Tr.den,bU];refine dY (fun s:Int=>s) l.length (by omega) (fun s=>∀ c,c∈l.take s.toNat->0<=c/\c<types.length) (fun s k hI hk hkN=>?_) (by simp) rfl;subst hk;unfold aFQ;simp only[Tr.den,aR]at hI ⊢;by_cases hc:k<l.length
 ·rw[aA (bJ (by omega)),aA (by omega)];by_cases h1:l.getD k default<0
  ·rw[aA (bJ h1)];exact aC.2 (aC.2 fun h=>by cases h)
  ·rw[aE (cB h1),aA (by omega)];simp only[aJ];by_cases h2:l.getD k default>=types.length
   ·rw[aA (bJ h2)];exact aC.2 (aC.2 fun h=>by cases h)
   ·rw[aE (cB h2)];refine aC.2 ⟨rfl,hc,fun c hcm=>?_⟩;rw[aN (by omega),aR,aO hc,dH,bY]at hcm;rcases hcm with hcm | rfl
    ·exact hI c hcm
    ·omega
 ·rw[aE (cB (by omega))];refine aC.2 (aC.2 fun _=>?_)
  rwa [lV (by omega)]at hI
theorem eC.okd(h:okL 40 eC l):okD l:=⟨fun d hd=>by have:=(h.2 d hd).2.1.1;unfold okR; omega,fun d hd=>(h.2 d hd).2.2⟩
theorem jX{i:Int}{k:ByteArray}:x∈ofK n i k l↔x∈l/\kd n i x=k:=by unfold ofK;rw[fE,eJ]
theorem Sx{f g:ByteArray->Int}{ks:List ByteArray}(h:∀ k,k∈ks->f k=g k):jC f ks=jC g ks:=by
 induction ks with
 | nil=>rfl
 | cons k ks ih=>simp only[jC,h k cC,ih fun k' hk=>h k' (cH _ hk)]
theorem aCK(ks:List ByteArray):jC (fun _=>0) ks=0:=by
 induction ks with
 | nil=>rfl
 | cons k ks ih=>simp only[jC,ih]; rfl
theorem rI{k:ByteArray}:k∈aW (bW n 0 l)↔ofK n 0 k l≠[]:=by
 rw[Hd,tK];constructor
 ·rintro⟨c,hc⟩ h0;rw[aA h0]at hc; cases hc
 ·intro h0;exact⟨_,aE h0⟩
def Gc(n:aG)(a:Int):Nat->Int
 | 0=>a
 | k+1=>if ((n.Seq.getD k default).Rep==2)=true/\(xS .i64 (bV .i64 (Gc n a k) k) 1==1)=true then Mr .i64 (Gc n a k) (zH .i64 1 (k+1:Nat)) else Gc n a k
def rQ(n:aG)(a:Int):Int:=Gc n a n.Seq.length
def Rn(n:aG):Nat->Int
 | 0=>0
 | k+1=>if ((n.Seq.getD k default).Rep==1)=true then Mr .i64 (Rn n k) (zH .i64 1 k) else Rn n k
def nxF(n:aG)(now:Int)(p:dM):Int:=rQ n (Mr .i64 (zH .i64 (xS .i64 now p.fits_) 1) (xS .i64 (xS .i64 now p.fits_) (Rn n n.Seq.length)))
def Gj(n:aG)(s:Int):Bool:=xS .i64 s (zH .i64 1 (n.Seq.length:Int)) != 0
def nT(n:aG)(row:List aF):List aF:=n.Key.map fun c=>row.getD c.toNat default
theorem Qy(n:aG)(row:List aF):(nT n row).length=n.Key.length:=bQ _
noncomputable def evV (fs:List aV)(e:bO)(d:aB):aF:=(Cw fs e d.Time d.Row).getD default
def aCS(fs:List aV)(n:aG)(l:List aB):Prop:=∀ d,d∈l->∀ i,i<n.Seq.length->(Cw fs (n.Seq.getD i default).Pred d.Time d.Row).isSome=true
theorem aCS.get(h:aCS fs n l){d:aB}(hd:d∈l){i:Nat}(hi:i<n.Seq.length):Cw fs (n.Seq.getD i default).Pred d.Time d.Row=some (evV fs (n.Seq.getD i default).Pred d):=by have:=h d hd i hi;obtain⟨v,hv⟩:=Cb.1 this;unfold evV;rw[hv]; rfl
theorem aCS.sub{r:List aB}(h:aCS fs n l)(hs:∀ x,x∈r->x∈l):aCS fs n r:=fun d hd=>h d (hs d hd)
noncomputable def Ri (fs:List aV)(n:aG)(d:aB):Nat->Int
 | 0=>0
 | k+1=>if ((evV fs (n.Seq.getD k default).Pred d).N==1)=true then Mr .i64 (Ri fs n d k) (zH .i64 1 k) else Ri fs n d k
noncomputable def plD (fs:List aV)(n:aG)(d:aB):List dM:=List.replicate d.N.toNat ⟨d.Time,Ri fs n d n.Seq.length⟩
theorem dU.bnd(h:dU e):vV e:=by
 induction h with
 | mk0 ha hb hs hn hl ih=>exact .mk hs hn (fun i hi=>ih _ (aQ hi))
theorem Dl{n:Nat}(h:okL n eH fs):fs.length<=1048576/\∀ i,i<fs.length->vV (fs.getD i default).Body/\(fs.getD i default).Params.length<=1048576:=
 ⟨h.1,fun i hi=>by have h1:=h.2 _ (aQ hi);exact⟨h1.2.2.2.bnd,h1.2.1.1⟩⟩
theorem aNZ{n:Nat}(hf:okL n eH fs)(h:G82 fs=some true)(he:dU e)(ht:qG fs cs [] e=some (t,true))
  (tm:Int){row:List aF}(hr:row.length=cs.length)(hs:∀ v,v∈row->Sm v):Sp (Cw fs e tm row) Sm:=by
 obtain⟨hl,hb⟩:=Dl hf;obtain⟨k,hk⟩:=aBK hl hb h he.bnd ht;unfold Cw aQI;simp only[Tr.den];exact Sq.bind _ (aPH fs cs.length 0 k _ e ⟨rfl,hr,rfl,hs,fun v hv=>by cases hv⟩ hk) fun v hv=>aC.2 hv
structure aID (n:aG):Prop where
 op:n.Op=8
 seq:1<=n.Seq.length/\n.Seq.length<=8
 size:1<=n.Size/\n.Size<=10000
 key:n.Key.length<=10
theorem W_W(a:Int):W (W a)=W a:=aCE a
def wc(c:Pl->Int):List aB->Int
 | []=>0
 | x::l=>x.N*c (pl x)+wc c l
def Em(f:aB->Int):List aB->Int
 | []=>0
 | x::l=>f x+Em f l
theorem Fy{f g:aB->Int}(h:∀ x,x∈l->f x=g x):Em f l=Em g l:=by
 induction l with
 | nil=>rfl
 | cons x l ih=>simp only[Em,h x cC,ih fun y hy=>h y (cH _ hy)]
def bl(b:ByteArray):List UInt8:=b.data.toList
theorem pH(a b:ByteArray):bl (a++b)=bl a++bl b:=by unfold bl; rw[ByteArray.data_append,Array.toList_append]
theorem aVJ{a b:ByteArray}(h:bl a=bl b):a=b:=by cases a; cases b; simp[bl]at h; simp[h]
theorem uT{d:Nat}(h:d<10):(UInt8.ofNat (48+d)).toNat=48+d:=by rw[UInt8.toNat_ofNat']; omega
def aJM(l:List UInt8):Nat:=l.foldl (fun a b=>a*10+(b.toNat-48)) 0
theorem xV(u:Nat):aJM (Lib.decDigits u)=u:=by
 induction u using Nat.strongRecOn with
 | _ u ih=>
  by_cases h:u<10
  ·rw[Lib.decDigits,dif_pos h];simp only[aJM,oB,List.foldl_nil];rw[uT h]; omega
  ·rw[Lib.decDigits,dif_neg h];have:=ih (u / 10) (by omega);unfold aJM at this ⊢;rw[zU,this];simp only[oB,List.foldl_nil];rw[uT (by omega)]; omega
theorem Ol(u:Nat):∀ b,b∈Lib.decDigits u->48<=b.toNat/\b.toNat<=57:=by
 induction u using Nat.strongRecOn with
 | _ u ih=>
  intro b hb;by_cases h:u<10
  ·rw[Lib.decDigits,dif_pos h,bY]at hb;rw[hb,uT h]; omega
  ·rw[Lib.decDigits,dif_neg h,dH,bY]at hb;rcases hb with hb | rfl
   ·exact ih (u / 10) (by omega) b hb
   ·rw[uT (by omega)]; omega
theorem aFF(n:Int):∀ b,b∈Lib.itoa n->b.toNat=45\/(48<=b.toNat/\b.toNat<=57):=by
 intro b hb;unfold Lib.itoa at hb;split at hb
 ·rcases aU.1 hb with rfl | hb
  ·exact .inl rfl
  ·exact .inr (Ol _ b hb)
 ·exact .inr (Ol _ b hb)
theorem bAI(u:Nat)(l:List UInt8):Lib.decDigits u≠45::l:=by intro h;have:=Ol u 45 (by rw[h]; exact cC);have e:(45:UInt8).toNat=45:=rfl;omega
theorem Oz{n m:Int}(h:Lib.itoa n=Lib.itoa m):n=m:=by
 unfold Lib.itoa at h;split at h <;> split at h
 ·have:=congrArg aJM (wU h).2;rw[xV,xV]at this; omega
 ·exact absurd h.symm (bAI _ _)
 ·exact absurd h (bAI _ _)
 ·have:=congrArg aJM h;rw[xV,xV]at this; omega
theorem xH{c:UInt8}:∀ {l l' x y:List UInt8},(∀ b,b∈l->b≠c)->(∀ b,b∈l'->b≠c)->l++c::x=l'++c::y->l=l'/\x=y
 | [],[],x,y,_,_,h=>⟨rfl,(wU h).2⟩
 | [],b::l',x,y,_,h',h=>absurd (wU h).1.symm (h' b cC)
 | b::l,[],x,y,h',_,h=>absurd (wU h).1 (h' b cC)
 | b::l,b'::l',x,y,h1,h2,h=>by obtain⟨e1,e2⟩:=wU h;obtain⟨q1,q2⟩:=xH (fun b hb=>h1 b (cH _ hb)) (fun b hb=>h2 b (cH _ hb)) e2;exact⟨by rw[e1,q1],q2⟩
theorem Dv(n:Int){c:UInt8}(h:58<=c.toNat):∀ b,b∈Lib.itoa n->b≠c:=by rintro b hb rfl;have:=aFF n b hb;omega
theorem Xj(n:Int):bl (yC n)=Lib.itoa n:=rfl
theorem aFP(n:Int):bl (wJ n)=Lib.itoa n++[59]:=by unfold wJ; rw[pH,Xj]; rfl
theorem Np{n m:Int}{x y:List UInt8}(h:bl (wJ n)++x=bl (wJ m)++y):n=m/\x=y:=by rw[aFP,aFP,cL,cL]at h;obtain⟨q1,q2⟩:=xH (Dv n (by decide)) (Dv m (by decide)) h;exact⟨Oz q1,q2⟩
theorem aFN(s:ByteArray):bl (Lx s)=Lib.itoa s.size++58::(bl s++[44]):=by unfold Lx;rw[pH,pH,pH,Xj];simp[bl]
theorem aLL{s t:ByteArray}{x y:List UInt8}(h:bl (Lx s)++x=bl (Lx t)++y):s=t/\x=y:=by
 rw[aFN,aFN,cL,cL]at h;obtain⟨q1,q2⟩:=xH (Dv _ (by decide)) (Dv _ (by decide)) h;have hs:=Oz q1;have hl:(bl s).length=(bl t).length:=by
  have e:∀ z:ByteArray,(bl z).length=z.size:=fun z=>by unfold bl; rw[iK]; rfl
  rw[e,e]; omega
 have q2':(bl s++[44])++x=(bl t++[44])++y:=q2;rw[cL,cL]at q2';obtain⟨q3,q4⟩:=List.append_inj q2' hl;exact⟨aVJ q3,(wU q4).2⟩
theorem aPE{v w:aF}{x y:List UInt8}(h:bl (xK v)++x=bl (xK w)++y):v=w/\x=y:=by unfold xK at h;rw[pH,pH,pH,pH]at h;simp only[cL]at h;obtain⟨q1,h⟩:=Np h;obtain⟨q2,h⟩:=Np h;obtain⟨q3,h⟩:=aLL h;refine⟨?_,h⟩;cases v; cases w; simp_all
theorem Wk(b:ByteArray):∀ r:List aF,bl (r.foldl (fun b v=>b++xK v) b)=bl b++r.flatMap (fun v=>bl (xK v))
 | []=>by simp
 | v::r=>by rw[oB,Wk,pH,fH,cL]
theorem aVV(r:List aF):bl (Ih r)=bl (wJ r.length)++r.flatMap (fun v=>bl (xK v)):=by unfold Ih;rw[Wk,pH]; rfl
theorem Qp:∀ {r s:List aF} {x y:List UInt8},r.length=s.length->r.flatMap (fun v=>bl (xK v))++x=s.flatMap (fun v=>bl (xK v))++y->r=s/\x=y
 | [],[],x,y,_,h=>⟨rfl,h⟩
 | [],_::_,_,_,h,_=>by cases h
 | _::_,[],_,_,h,_=>by cases h
 | v::r,w::s,x,y,hl,h=>by rw[fH,fH,cL,cL]at h;obtain⟨q1,q2⟩:=aPE h;obtain⟨q3,q4⟩:=Qp (by simpa using hl) q2;exact⟨by rw[q1,q3],q4⟩
theorem aEC{r s:List aF}(h:Ih r=Ih s):r=s:=by have h:=congrArg (fun b=>bl b++[]) h;simp only[aVV]at h;rw[cL,cL]at h;obtain⟨q1,q2⟩:=Np h;exact(Qp (by omega) q2).1
def qT(n:aG)(R:List aB)(a:aB):List aB:=if n.Op=6 then tX n 0 R a else kJ n R a
def rG(n:aG)(A B:List aB):List aB:=A.flatMap fun a=>qT n (ofK n 1 (kd n 0 a) B) a
theorem uF(p:Pl->Bool)(f:aB->List aB):∀ l:List aB,wt p (l.flatMap f)=Em (fun x=>wt p (f x)) l
 | []=>rfl
 | x::l=>by rw[fH,gE,uF p f l]; rfl
theorem yO(a b:List aF)(ha:a.length<=1073741824)(hb:b.length<=1073741824):Ov a b=some (Cm a b==0):=by unfold Ov aZF;simp only[Tr.den];rw[Ww a b ha hb];rfl
structure MI (o X Y T:List aB):Prop where
 can:Can o
 lt:∀ x,x∈o->∀ y,y∈X++Y->dF x y<0
 same:jS (o++(X++Y)) T
 cx:Can X
 cy:Can Y
theorem Can.snoc(h:Can o)(h1:∀ y,y∈o->dF y x<0)(h2:x.N≠0)(h3:rY x.N):Can (o++[x]):=by
 refine⟨wT.2 ⟨h.lt,sQ _ _,fun y hy z hz=>?_⟩,fun y hy=>?_,fun y hy=>?_⟩
 ·rw[bY.1 hz]; exact h1 y hy
 ·rcases dH.1 hy with hy | hy
  ·exact h.nz y hy
  ·rw[bY.1 hy]; exact h2
 ·rcases dH.1 hy with hy | hy
  ·exact h.n64 y hy
  ·rw[bY.1 hy]; exact h3
theorem aIA(h:Can (y::Y))(hx:dF x y<0):∀ z,z∈y::Y->dF x z<0:=by
 intro z hz;rcases aU.1 hz with rfl | hz
 ·exact hx
 ·exact yA hx (h.head z hz)
theorem MI.left(h:MI o (x::X) Y T)(hy:∀ z,z∈Y->dF x z<0):MI (o++[x]) X Y T:=by
 refine⟨h.can.snoc (fun y hy'=>h.lt y hy' x (by simp)) (h.cx.nz x cC) (h.cx.n64 x cC),fun z hz w hw=>?_,?_,h.cx.tail,h.cy⟩
 ·rcases dH.1 hz with hz | hz
  ·exact h.lt z hz w (by rcases dH.1 hw with hw | hw <;> simp[hw])
  ·rw[bY.1 hz];rcases dH.1 hw with hw | hw
   ·exact h.cx.head w hw
   ·exact hy w hw
 ·have:=h.same;simpa using this
theorem MI.right(h:MI o X (y::Y) T)(hx:∀ z,z∈X->dF y z<0):MI (o++[y]) X Y T:=by
 refine⟨h.can.snoc (fun z hz=>h.lt z hz y (by simp)) (h.cy.nz y cC) (h.cy.n64 y cC),fun z hz w hw=>?_,?_,h.cx,h.cy.tail⟩
 ·rcases dH.1 hz with hz | hz
  ·exact h.lt z hz w (by rcases dH.1 hw with hw | hw <;> simp[hw])
  ·rw[bY.1 hz];rcases dH.1 hw with hw | hw
   ·exact hx w hw
   ·exact h.cy.head w hw
 ·refine jS.trans (.of_perm ?_) h.same;rw[cL];refine zJ _ ?_;show (y::(X++Y)).Perm (X++y::Y);exact List.perm_middle.symm
theorem Wc(hp:pl x=pl y)(p:Pl->Bool):W (wt p (o++(x::X++y::Y)))=W (wt p o+(if p (pl y)=true then W (y.N+x.N) else 0)+wt p (X++Y)):=by
 rw[gE,gE,gE];simp only[wt,hp];by_cases h:p (pl y)=true
 ·rw[aA h,aA h,aA h];have:=wD (wD (rfl:W (wt p o)=W (wt p o)) (W_W (y.N+x.N))) (rfl:W (wt p X+wt p Y)=W (wt p X+wt p Y));rw[this]; congr 1; omega
 ·rw[aE h,aE h,aE h]; congr 1; omega
theorem MI.both(h:MI o (x::X) (y::Y) T)(hp:pl x=pl y)(h0:W (y.N+x.N)≠0):MI (o++[⟨y.Time,y.Row,W (y.N+x.N)⟩]) X Y T:=by
 have e:∀ z:aB,dF (⟨y.Time,y.Row,W (y.N+x.N)⟩:aB) z=dF y z:=fun z=>rfl;have e':∀ z:aB,dF z (⟨y.Time,y.Row,W (y.N+x.N)⟩:aB)=dF z y:=fun z=>rfl;refine⟨h.can.snoc (fun z hz=>by rw[e']; exact h.lt z hz y (by simp)) h0 (aLV _),fun z hz w hw=>?_,fun p=>?_,h.cx.tail,h.cy.tail⟩
 ·rcases dH.1 hz with hz | hz
  ·exact h.lt z hz w (by rcases dH.1 hw with hw | hw <;> simp[hw])
  ·rw[bY.1 hz,e];rcases dH.1 hw with hw | hw
   ·rw[<-mT hp rfl]; exact h.cx.head w hw
   ·exact h.cy.head w hw
 ·rw[<-h.same p,Wc hp,gE,gE];simp only[wt,Int.add_zero];rfl
theorem MI.both0(h:MI o (x::X) (y::Y) T)(hp:pl x=pl y)(h0:W (y.N+x.N)=0):MI o X Y T:=by refine⟨h.can,fun z hz w hw=>h.lt z hz w (by rcases dH.1 hw with hw | hw <;> simp[hw]),fun p=>?_,h.cx.tail,h.cy.tail⟩;rw[<-h.same p,Wc hp,gE,h0];simp
theorem Can.drop{l:List aB}(h:Can l)(k:Nat):Can (l.drop k):=⟨h.lt.drop,fun x hx=>h.nz x (List.mem_of_mem_drop hx),fun x hx=>h.n64 x (List.mem_of_mem_drop hx)⟩
theorem Wx(a b:aB)(ha:okR a)(hb:okR b):aWN a b=some (dF a b):=by
 unfold aWN aUL;simp only[Tr.den];rw[Ww _ _ ha hb];unfold dF fW vR;by_cases h1:a.Time<b.Time
 ·rw[aA (bJ h1),aA h1,aE (by omega)]
 ·rw[aE (cB h1),aE h1];by_cases h2:b.Time<a.Time
  ·rw[aA (bJ h2),aA h2,aE (by omega)]
  ·rw[aE (cB h2),aE h2,aA rfl]; rfl
theorem aGR(a b:List aB)(ha:Can a)(hb:Can b)(oa:jV a)(ob:jV b)(hn:a.length+b.length<=1000000000000):
  Sp (cK (fun s=>(Oa a b s).den) (([]:List aB),0,0)) (sel (fun r=>Can r/\jS r (a++b)) (fun _=>False)):=by
 refine Sq.while (fun s:List aB×Int×Int=>∃ i k:Nat,s.2.1=i/\s.2.2=k/\i<=a.length/\k<=b.length/\MI s.1 (a.drop i) (b.drop k) (a++b)/\s.1.length<=i+k) (fun s=>(a.length-s.2.1).toNat+(b.length-s.2.2).toNat) (fun s hs=>?_)
  ⟨0,0,rfl,rfl,by omega,by omega,⟨.nil,by simp,by simpa using jS.refl _,ha,hb⟩,by simp⟩
 obtain⟨o,i,k⟩:=s;obtain⟨i,k,e1,e2,h1,h2,hM,hlen⟩:=hs;simp only at e1 e2 hM hlen;subst e1 e2;unfold Oa;simp only[Tr.den,aR];have w1:k<b.length->(if IntKind.i64.wrap ((b.length:Int)-1)<(k:Int) then IntKind.i64.wrap ((b.length:Int)-1) else (k:Int))=(k:Int):=by intro hk;rw[bE (by omega) (by omega),aE (by omega)]
 have left:i<a.length->(∀ z,z∈b.drop k->dF (a.getD i default) z<0)->∀ c:Int,c<0->∀ f:Option (List aB×Int×Int),
   Sp ((if decide (c<0)=true then if 0<=(i:Int)/\(i:Int)<(a.length:Int) then if (o.length+[a.getD i default].length)*40<=140737488355328 then some (o++[a.getD i default],IntKind.i64.wrap ((i:Int)+1),(k:Int)) else none else none else f).bind fun v=>some (Sum.inl (v.1,v.2.1,v.2.2)))
    (sel (fun s':List aB×Int×Int=>(∃ i k:Nat,s'.2.1=i/\s'.2.2=k/\i<=a.length/\k<=b.length/\MI s'.1 (a.drop i) (b.drop k) (a++b)/\s'.1.length<=i+k)/\(a.length-s'.2.1).toNat+(b.length-s'.2.2).toNat<(a.length-(i:Int)).toNat+(b.length-(k:Int)).toNat) (sel (fun r:List aB=>Can r/\jS r (a++b)) (fun _:List aB=>False))):=by
  intro hi hlt c hc f;rw[aA (bJ hc),aA (by omega),aA (by simp only[dA,fG]; omega),aN (by omega)];rw[cU hi]at hM;exact aC.2 ⟨⟨i+1,k,rfl,rfl,by omega,h2,hM.left hlt,by simp only[bX,dA,fG]; omega⟩,by simp only; omega⟩
 have right:k<b.length->(∀ z,z∈a.drop i->dF (b.getD k default) z<0)->∀ c:Int,0<c->∀ f:Option (List aB×Int×Int),
   Sp ((if decide (c<0)=true then f else
       if 0<=(if IntKind.i64.wrap ((b.length:Int)-1)<(k:Int) then IntKind.i64.wrap ((b.length:Int)-1) else (k:Int))/\(if IntKind.i64.wrap ((b.length:Int)-1)<(k:Int) then IntKind.i64.wrap ((b.length:Int)-1) else (k:Int))<(b.length:Int) then
        (if (c==0)=true then if 0<=(i:Int)/\(i:Int)<(a.length:Int) then some (IntKind.i64.wrap ((b.getD (if IntKind.i64.wrap ((b.length:Int)-1)<(k:Int) then IntKind.i64.wrap ((b.length:Int)-1) else (k:Int)).toNat default).N+(a.getD i default).N),o,IntKind.i64.wrap ((i:Int)+1)) else none
         else some ((b.getD (if IntKind.i64.wrap ((b.length:Int)-1)<(k:Int) then IntKind.i64.wrap ((b.length:Int)-1) else (k:Int)).toNat default).N,o,(i:Int))).bind fun v=>
         (if (v.1 != 0)=true then if (v.2.1.length+[(⟨(b.getD (if IntKind.i64.wrap ((b.length:Int)-1)<(k:Int) then IntKind.i64.wrap ((b.length:Int)-1) else (k:Int)).toNat default).Time,(b.getD (if IntKind.i64.wrap ((b.length:Int)-1)<(k:Int) then IntKind.i64.wrap ((b.length:Int)-1) else (k:Int)).toNat default).Row,v.1⟩:aB)].length)*40<=140737488355328 then
           some (v.2.1++[(⟨(b.getD (if IntKind.i64.wrap ((b.length:Int)-1)<(k:Int) then IntKind.i64.wrap ((b.length:Int)-1) else (k:Int)).toNat default).Time,(b.getD (if IntKind.i64.wrap ((b.length:Int)-1)<(k:Int) then IntKind.i64.wrap ((b.length:Int)-1) else (k:Int)).toNat default).Row,v.1⟩:aB)]) else none
          else some v.2.1).bind fun v_1=>some (v_1,v.2.2,IntKind.i64.wrap ((k:Int)+1))
       else none).bind fun v=>some (Sum.inl (v.1,v.2.1,v.2.2)))
    (sel (fun s':List aB×Int×Int=>(∃ i k:Nat,s'.2.1=i/\s'.2.2=k/\i<=a.length/\k<=b.length/\MI s'.1 (a.drop i) (b.drop k) (a++b)/\s'.1.length<=i+k)/\(a.length-s'.2.1).toNat+(b.length-s'.2.2).toNat<(a.length-(i:Int)).toNat+(b.length-(k:Int)).toNat) (sel (fun r:List aB=>Can r/\jS r (a++b)) (fun _:List aB=>False))):=by
  intro hk hlt c hc f;rw[aE (cB (by omega)),w1 hk,aA (by omega),aE (dS (by omega))];simp only[aJ,aR];rw[cU hk]at hM;rw[aA (Od (hM.cy.nz _ cC)),aA (by simp only[dA,fG]; omega),aN (by omega)];simp only[aJ];exact aC.2 ⟨⟨i,k+1,rfl,rfl,h1,by omega,hM.right hlt,by simp only[bX,dA,fG]; omega⟩,by simp only; omega⟩
 by_cases hi:i<a.length
 ·rw[aA (bJ (show (i:Int)<a.length by omega))];simp only[aJ,fJ];rw[aE (cB (show ¬ (i:Int)>=a.length by omega))];by_cases hk:k<b.length
  ·rw[aE (cB (show ¬ (k:Int)>=b.length by omega)),aA (by omega),aA (by omega),Wx _ _ (oa.get i) (ob.get k)];simp only[aJ];have hX:=cU hi;have hY:=cU hk;have cX:=ha.drop i;have cY:=hb.drop k;by_cases c1:dF (a.getD i default) (b.getD k default)<0
   ·exact left hi (by rw[hY]at cY ⊢; exact aIA cY c1) _ c1 _
   ·by_cases c2:dF (a.getD i default) (b.getD k default)=0
    ·have hp:=lH.1 c2;rw[aE (cB c1),w1 hk,aA (by omega),aA (eX c2),aA (by omega)];simp only[aJ,aR];rw[hX,hY]at hM;by_cases h0:W ((b.getD k default).N+(a.getD i default).N)=0
     ·rw[aE (Qv h0)];simp only[aJ];rw[aN (by omega),aN (by omega)];exact aC.2 ⟨⟨i+1,k+1,rfl,rfl,by omega,by omega,hM.both0 hp h0,by simp only; omega⟩,by simp only; omega⟩
     ·rw[aA (Od h0),aA (by simp only[dA,fG]; omega)];simp only[aJ];rw[aN (by omega),aN (by omega)];exact aC.2 ⟨⟨i+1,k+1,rfl,rfl,by omega,by omega,hM.both hp h0,by simp only[bX,dA,fG]; omega⟩,by simp only; omega⟩
    ·have c3:0<dF (a.getD i default) (b.getD k default):=by omega
     exact right hk (by rw[hX]at cX ⊢; exact aIA cX (xY.1 c3)) _ c3 _
  ·rw[aA (bJ (show (k:Int)>=b.length by omega))];simp only[aJ];exact left hi (by rw[jY (show b.length<=k by omega)]; simp) (-1) (by omega) _
 ·rw[aE (cB (show ¬ (i:Int)<a.length by omega))];simp only[aJ];by_cases hk:k<b.length
  ·rw[aA (bJ (show (k:Int)<b.length by omega)),aA (bJ (show (i:Int)>=a.length by omega))];simp only[aJ];exact right hk (by rw[jY (show a.length<=i by omega)]; simp) 1 (by omega) _
  ·rw[aE (cB (show ¬ (k:Int)<b.length by omega))];refine aC.2 ⟨hM.can,?_⟩;have:=hM.same;rw[jY (show a.length<=i by omega),jY (show b.length<=k by omega)]at this;simpa using this
theorem Zp(l:List aB)(ho:okD l)(hn:l.length<=1000000000000):bAT l=some (PL.cons l):=by
 refine Sp.eq ?_;refine mJ (C:=fun (a:List aB) (x:Option (List aB))=>Con Proofs.Tryz.prog 37 [.t (eL aH (a))] x (fun (y:List aB)=>.t (eL aH (y)))) (fun a=>⟨bS Proofs.Tryz.func37 (by kernel_rfl),fun _ h=>nomatch h⟩) (fun rec a=>aIB rec a) (fun rec a=>Xg rec a)
  (fun l=>okD l/\l.length<=1000000000000) (fun l=>l.length) (fun l d=>d=PL.cons l) (fun b f l hl hrec=>?_) true l ⟨ho,hn⟩
 obtain⟨ho,hn⟩:=hl;unfold aIB;simp only[Tr.den];by_cases h0:l.length=0
 ·rw[aA (eX (by omega))];simp only[aJ,fJ];rw[sH h0];exact aC.2 rfl
 rw[aE (dS (by omega))];by_cases hl1:l.length=1
 ·obtain⟨x,rfl⟩:=Ja.1 hl1;have e1:(([x]:List aB).length:Int)=1:=rfl;have e2:([x]:List aB).getD (0:Int).toNat default=x:=rfl;rw[aA (eX e1),aA (by omega),e2];simp only[aJ];have hc:PL.cons [x]=if x.N=0 then [] else [x]:=rfl
  rw[hc];by_cases hz:x.N=0
  ·rw[aA (eX hz),aA hz]; exact aC.2 rfl
  ·have hr:x.Row.length<=1073741824:=ho.r x cC;rw[aE (dS hz),aA (eX e1),aA (by omega),aA (by omega),aA (by omega),aA (by omega),aE hz]; exact aC.2 rfl
 rw[aE (dS (by omega))];simp only[aJ,dO,dL];have w1:IntKind.i64.wrap (Int.tdiv (l.length:Int) 2)=((l.length / 2:Nat):Int):=by rw[show Int.tdiv (l.length:Int) 2=((l.length / 2:Nat):Int) from rfl];rw[tJ (by omega)]
 rw[aE (dS (by omega)),w1];have e1:(l.drop (0:Int).toNat).take (((l.length / 2:Nat):Int)-0).toNat=l.take (l.length / 2):=by rw[Int.toNat_zero,List.drop_zero,Int.sub_zero,aR]
 have e2:(l.drop ((l.length / 2:Nat):Int).toNat).take ((l.length:Int)-((l.length / 2:Nat):Int)).toNat=l.drop (l.length / 2):=by rw[aR]; exact lV (by simp only[fC]; omega)
 have o1:okD (l.take (l.length / 2)):=ho.sub fun x hx=>El hx;have o2:okD (l.drop (l.length / 2)):=ho.sub fun x hx=>List.mem_of_mem_drop hx;rw[aA (by omega),e1];refine Sq.bind _ (hrec _ ⟨o1,by simp; omega⟩ (by simp; omega)) (fun r1 h1=>?_);rw[aA (by omega),e2];refine Sq.bind _ (hrec _ ⟨o2,by simp; omega⟩ (by simp; omega)) (fun r2 h2'=>?_);subst h1 h2';have l1:=sO (l.take (l.length / 2));have l2:=sO (l.drop (l.length / 2));simp only[cE,fC]at l1 l2;obtain⟨z,hz1,hz2⟩:=(aGR _ _ (iO o1.n) (iO o2.n) o1.cons.r o2.cons.r (by omega)).get;rw[hz1];cases z with
 | inr z=>exact hz2.elim
 | inl z=>refine aC.2 (Na hz2.1 ho.n ?_).symm;refine hz2.2.trans (((iW _).app (iW _)).trans ?_);rw[iQ];exact jS.refl _
theorem Zj(fs:List aV)(e:bO)(hl:okL 104 eH fs)(h:dU e):Sp (G81 fs e) (fun _=>True):=by
 have hl1:=hl.1;unfold G81 T81;simp only[Tr.den,bU];refine dY (fun s:List Int×Int=>s.2) fs.length (by omega) (fun s=>s.1.length=s.2.toNat) (fun s k hI hk hkN=>?_) rfl rfl;obtain⟨v1,v2⟩:=s;simp only at hk hI;subst hk;simp only[aR]at hI;unfold aFG;simp only[Tr.den,aR];by_cases hc:k<fs.length
 ·rw[aA (bJ (by omega)),aA (by omega)];refine Sq.bind _ (Sq.of (Vq v1 _ (by omega) (hl.2 _ (aQ hc)).2.2.2)) fun r _=>?_;rw[aA (by simp only[dA,fG]; omega)];refine aC.2 ⟨rfl,hc,?_⟩;simp only;rw[aN (by omega)]; simp; omega
 ·rw[aE (cB (by omega))];refine aC.2 ?_;simp only[sel,bU];exact(Sq.of (Vq v1 e (by omega) h)).imp fun _ _=>aC.2 trivial
theorem aPB(fs:List aV)(n:aG)(hl:okL 104 eH fs)(h:kH n):Sp (G33 fs n) (fun r=>r=true->n.Key.length<=20/\n.Seq.length<=8):=by
 obtain⟨_,_,_,_,hE,_,_,_,_,_,_,_,_,_,hS,_⟩:=h;have hE1:=hE.1;have hS1:=hS.1;have hl1:=hl.1;unfold G33 T33;simp only[Tr.den,bU];refine dY (fun s:Int=>s) fs.length (by omega) (fun _=>True) (fun s k _ hk hkN=>?_) trivial rfl;subst hk;unfold aHI;simp only[Tr.den,aR,oK,aJ];by_cases hc:((k:Int)<(fs.length:Int))/\(k:Int)<6
 ·rw[aA (bJ hc),aA (by omega)];refine Sq.bind _ (Sf _ (hl.2 _ (aQ (show k<fs.length by omega))).2.2.2) fun r _=>?_;refine Sq.bind (fun _=>True) ?_ (fun j _=>?_)
  ·by_cases h1:r>100
   ·rw[aA (bJ h1)]; exact aC.2 trivial
   ·rw[aE (cB h1),aA (by omega)]; exact aC.2 trivial
  ·cases j with
   | true=>exact aC.2 (aC.2 fun h=>by cases h)
   | false=>exact aC.2 ⟨rfl,by omega,trivial⟩
 ·rw[aE (cB hc)];refine aC.2 ?_;simp only[sel,bU];refine dY (fun s:Int=>s) n.Exprs.length (by omega) (fun _=>True) (fun s k _ hk hkN=>?_) trivial rfl;subst hk;unfold aDA;simp only[Tr.den,aR,oK,aJ];by_cases hc:((k:Int)<(n.Exprs.length:Int))/\(k:Int)<13
  ·rw[aA (bJ hc),aA (by omega)];have he:=okEs.get hE (show k<n.Exprs.length by omega);refine Sq.bind _ (Sq.of (Sf _ he)) fun r _=>?_;refine Sq.bind (fun _=>True) ?_ (fun j _=>?_)
   ·by_cases h1:r>200
    ·rw[aA (bJ h1)]; exact aC.2 trivial
    ·rw[aE (cB h1),aA (by omega)];refine Sq.bind _ (Sq.of (aDJ _ he)) fun r _=>?_;by_cases h2:r>12
     ·rw[aA (bJ h2)]; exact aC.2 trivial
     ·rw[aE (cB h2),aA (by omega)];refine Sq.bind _ (Sq.of (Zj fs _ hl he)) fun r _=>aC.2 trivial
   ·cases j with
    | true=>exact aC.2 (aC.2 fun h=>by cases h)
    | false=>exact aC.2 ⟨rfl,by omega,trivial⟩
  ·rw[aE (cB hc)];refine aC.2 ?_;simp only[sel,bU];refine dY (fun s:Int=>s) n.Seq.length (by omega) (fun _=>True) (fun s k _ hk hkN=>?_) trivial rfl;subst hk;unfold aJA;simp only[Tr.den,aR,oK,aJ];by_cases hc:((k:Int)<(n.Seq.length:Int))/\(k:Int)<9
   ·rw[aA (bJ hc),aA (by omega)];have he:=(hS.2 _ (aQ (show k<n.Seq.length by omega))).1;refine Sq.bind _ (Sq.of (Sf _ he)) fun r _=>?_;refine Sq.bind (fun _=>True) ?_ (fun j _=>?_)
    ·by_cases h1:r>200
     ·rw[aA (bJ h1)]; exact aC.2 trivial
     ·rw[aE (cB h1),aA (by omega)];refine Sq.bind _ (Sq.of (aDJ _ he)) fun r _=>?_;by_cases h2:r>12
      ·rw[aA (bJ h2)]; exact aC.2 trivial
      ·rw[aE (cB h2),aA (by omega)];refine Sq.bind _ (Sq.of (Zj fs _ hl he)) fun r _=>aC.2 trivial
    ·cases j with
     | true=>exact aC.2 (aC.2 fun h=>by cases h)
     | false=>exact aC.2 ⟨rfl,by omega,trivial⟩
   ·rw[aE (cB hc)];refine aC.2 ?_;simp only[sel];exact aC.2 fun h=>by have:=dP h; omega
theorem Xi(fs:List aV)(hl:okL 104 eH fs):Sp (G82 fs) (fun _=>True):=(aJT fs (Dl hl).1 (Dl hl).2).imp fun _ _=>trivial
theorem aIS(fs:List aV)(cs ps:List Int)(e:bO)(hl:okL 104 eH fs)(he:dU e):Sp (G86 fs cs ps e) (fun r=>r.2=true->qG fs cs ps e=some (r.1,true)):=by
 unfold G86 T86;simp only[Tr.den];refine Sq.bind _ (Xi fs hl) fun r _=>?_;split
 ·exact aC.2 fun h=>by cases h
 ·obtain⟨y,hy,_⟩:=(Fg fs cs ps e he.bnd).get;rw[hy];simp only[aJ];exact aC.2 fun h=>by rw[show (y.1,true)=y from Prod.ext rfl h.symm]
theorem aHE(fs:List aV)(e:bO)(cs:List Int)(hl:okL 104 eH fs)(he:dU e):Sp (G85 fs e cs) (fun r=>r=true->qG fs cs [] e=some (2,true)):=by
 unfold G85 T85;simp only[Tr.den];refine Sq.bind _ (aIS fs cs [] e hl he) fun r hr=>?_;refine Sq.bind (fun j:Bool=>j=true->r.2=true/\r.1=2) (bP (fun h=>aC.2 fun h2=>⟨h,fB.1 h2⟩) (fun _=>aC.2 fun h=>by cases h)) fun j hj=>aC.2 fun h=>by
  have h1:=hr (hj h).1
  rwa [(hj h).2]at h1
theorem sqf{α:Type}{x:Option α}{Q:α->Prop}:Sq false x Q↔∀ y,x=some y->Q y:=⟨fun h=>h.1,fun h=>⟨h,fun h'=>by cases h'⟩⟩
theorem kB{α:Type}{c:Prop}[Decidable c]{x:Option α}{Q:α->Prop}(h:c->Sq false x Q):Sq false (if c then x else none) Q:=by
 by_cases hc:c
 ·rw[aA hc]; exact h hc
 ·rw[aE hc]; exact sqf.2 fun y hy=>by cases hy
section
variable {P:Program} {A R:Type}
theorem aAT{C:A->Option R->Prop}(c0:∀ a,C a none)(B:{f:A->Option R // ∀ a,C a (f a)}->A->Tr P R)(ok:∀ f a,C a (B f a).den)(Q:A->R->Prop)
  (h:∀ f a,(∀ a',Sq false (f.1 a') (Q a'))->Sq false (B f a).den (Q a))(a:A):Sq false (vS c0 B ok a) (Q a):=by
 have h1:∀ k a,Sq false ((aBX c0 B ok k).1 a) (Q a):=by
  intro k
  induction k with
  | zero=>intro a; exact sqf.2 fun y hy=>by cases hy
  | succ k ih=>intro a; exact h _ _ ih
 unfold vS Lim;split
 ·rename_i hh;obtain⟨k,hk⟩:=hh.choose_spec;exact aC.2 ((h1 k a).1 _ hk)
 ·exact sqf.2 fun y hy=>by cases hy
end
def TyV(t:Int)(v:aF):Prop:=v.Kind=t/\(t≠1->v.S.toList=(⟨#[]⟩:ByteArray).toList)/\(t=1->v.N=0)
theorem xR(n:Int):TyV 0 (vI n):=⟨rfl,fun _=>rfl,fun h=>by cases h⟩
theorem Bg(b:Bool):TyV 2 (vB b):=⟨rfl,fun _=>rfl,fun h=>by cases h⟩
theorem Xk(s:ByteArray):TyV 1 (vT s):=⟨rfl,fun h=>absurd rfl h,fun _=>rfl⟩
def tyB(op:Int):Int:=if op<=12 then 0 else if op<=18 then 2 else 1
theorem aTF(op:Int)(a b:aF)(h:8<=op/\op<=19):TyV (tyB op) (bop op a b):=by
 have hs:op=8\/op=9\/op=10\/op=11\/op=12\/op=13\/op=14\/op=15\/op=16\/op=17\/op=18\/op=19:=by omega
 rcases hs with h | h | h | h | h | h | h | h | h | h | h | h
 all_goals subst h
 all_goals unfold bop
 ·exact xR _
 ·exact xR _
 ·exact xR _
 ·show TyV 0 (if b.N=0 then vI 0 else vI (IntKind.i64.wrap (Int.tdiv a.N b.N)));split <;> exact xR _
 ·show TyV 0 (if b.N=0 then vI 0 else vI (Int.tmod a.N b.N));split <;> exact xR _
 ·exact Bg _
 ·exact Bg _
 ·exact Bg _
 ·exact Bg _
 ·exact Bg _
 ·exact Bg _
 ·exact Xk _
theorem aLX(p:cD):Sq false (aBA p) (TyV 1):=by
 unfold aBA aEM;simp only[Tr.den]
 repeat' (first | exact aC.2 (Xk _) | (refine kB fun _=>?_) | (refine Sq.bind (fun _=>True) ?_ fun _ _=>?_) | (refine aC.2 ?_) | split)
 all_goals first | trivial | exact Xk _
inductive TyE (fs:List aV)(cs ps:List Int):bO->Int->Prop
 | mk {e:bO} {t:Int} (ts:List Int) (hl:ts.length=e.Args.length) (hb:e.Args.length<=1048576) (ho:0<=e.Op/\e.Op<=22)
   (hA:∀ i,i<e.Args.length->TyE fs cs ps (e.Args.getD i default) (ts.getD i default))
   (o0:e.Op=0\/e.Op=5\/e.Op=7\/e.Op=20->t=0) (o1:e.Op=1->t=1) (o2:e.Op=2\/e.Op=6->t=2) (ob:8<=e.Op/\e.Op<=19->2<=e.Args.length/\t=tyB e.Op)
   (o3:e.Op=3->(0<=e.N/\e.N<cs.length)/\t=cs.getD e.N.toNat default) (o4:e.Op=4->(0<=e.N/\e.N<ps.length)/\t=ps.getD e.N.toNat default)
   (o21:e.Op=21->(3<=e.Args.length)/\ts.getD 1 default=t/\ts.getD 2 default=t)
   (o22:e.Op=22->(0<=e.N/\e.N<fs.length)/\ts=(fs.getD e.N.toNat default).Params/\t=(fs.getD e.N.toNat default).Result)
   (oc:13<=e.Op/\e.Op<=16->ts.getD 0 default=ts.getD 1 default):TyE fs cs ps e t
def TyR(ts:List Int)(row:List aF):Prop:=∀ i,i<ts.length->TyV (ts.getD i default) (row.getD i default)
def aYA(fs:List aV):Prop:=∀ i,i<fs.length->TyE fs [] (fs.getD i default).Params (fs.getD i default).Body (fs.getD i default).Result
theorem aNY(f:gF)(e:bO):Sq false (aWK f e) (fun v=>∀ cs ps t,TyR cs f.row_->TyR ps f.params_->aYA f.funcs_->TyE f.funcs_ cs ps e t->TyV t v):=by
 refine aAT (C:=fun (a:gF×bO) (x:Option (aF))=>Con Proofs.Tryz.prog 171 [.t (jE a.1),.t (dE a.2)] x (fun (y:aF)=>.t (cP y))) (fun a=>⟨bS Proofs.Tryz.func171 (by kernel_rfl),fun _ h=>nomatch h⟩) (fun rec a=>Tb rec a.1 a.2) (fun rec a=>Lr rec a.1 a.2)
  (fun a v=>∀ cs ps t,TyR cs a.1.row_->TyR ps a.1.params_->aYA a.1.funcs_->TyE a.1.funcs_ cs ps a.2 t->TyV t v) (fun r a hrec=>?_) (f,e)
 clear f e;obtain⟨f,e⟩:=a;simp only at hrec ⊢;refine sqf.2 fun y hy cs ps t hrow hpar hfs he=>?_;revert y;refine sqf.1 ?_;cases he with
 | mk ts hl hb ho hA o0 o1 o2 ob o3 o4 o21 o22 oc=>
 have hr:∀ i,i<e.Args.length->Sq false (r.1 (f,e.Args.getD i default)) (TyV (ts.getD i default)):=fun i hi=>(hrec (f,e.Args.getD i default)).imp fun v hv=>hv cs ps _ hrow hpar hfs (hA i hi);unfold Tb;by_cases h21:e.Op=21
 ·obtain⟨hl3,e1,e2⟩:=o21 h21;simp only[h21,Tr.den];rw[aA (by decide),aA (by omega)];refine Sq.bind _ (hr 0 (by omega)) fun v1 _=>?_;split
  ·rw[aA (by omega)];refine Sq.bind _ (hr 1 (by omega)) fun v2 h2=>aC.2 (e1▸h2)
  ·rw[aA (by omega)];refine Sq.bind _ (hr 2 (by omega)) fun v2 h2=>aC.2 (e2▸h2)
 ·simp only[Tr.den];rw[aE (by simpa using h21)];refine bU.2 (mU (fun s:List aF×Int=>s.2) e.Args.length (by omega) (fun s=>(s.1.length:Int)=s.2/\∀ i:Nat,(i:Int)<s.2->TyV (ts.getD i default) (s.1.getD i default)) (fun s k hI hk hkN=>?_) ⟨rfl,fun i hi=>absurd hi (by show ¬ ((i:Int)<0); omega)⟩ rfl);obtain⟨b6,v5⟩:=s;obtain⟨hbl,hbs⟩:=hI;simp only at hk hbl hbs;subst hk;unfold Nn;simp only[Tr.den,aR];by_cases hc:k<e.Args.length
  ·rw[aA (bJ (by omega)),aA (by omega)];refine Sq.bind _ (hr k hc) fun v hv=>?_;refine kB fun _=>?_;refine aC.2 ⟨rfl,hc,?_,fun i hi=>?_⟩
   ·simp only[bX,eE]; rw[aN (by omega)]; omega
   ·simp only at hi;rw[aN (by omega)]at hi;simp only;rw[bH];by_cases hik:i<b6.length
    ·rw[aA hik]; exact hbs i (by omega)
    ·rw[aE hik];obtain rfl:i=k:=by omega
     rw[show i-b6.length=0 by omega]; exact hv
  ·rw[aE (cB (by omega))];refine aC.2 ?_;have hbe:b6.length=e.Args.length:=by omega
   show Sq false _ (TyV t);simp only[sel];have z0:(0:Int).toNat=0:=rfl;have z1:(1:Int).toNat=1:=rfl;have hop:e.Op=0\/e.Op=1\/e.Op=2\/e.Op=3\/e.Op=4\/e.Op=5\/e.Op=6\/e.Op=7\/e.Op=20\/e.Op=22\/(8<=e.Op/\e.Op<=19):=by omega
   rcases hop with h | h | h | h | h | h | h | h | h | h | h
   ·rw[aA (by rw[h]; rfl),iE]; exact aC.2 (o0 (by omega)▸xR _)
   ·simp (decide:=true) only[h,↓reduceIte];rw[o1 h]; exact aC.2 (Xk _)
   ·simp (decide:=true) only[h,↓reduceIte,jD];exact aC.2 (o2 (by omega)▸Bg _)
   ·obtain⟨h3,e3⟩:=o3 h;simp (decide:=true) only[h,↓reduceIte];refine kB fun _=>aC.2 ?_;rw[e3]; exact hrow _ (by omega)
   ·obtain⟨h3,e3⟩:=o4 h;simp (decide:=true) only[h,↓reduceIte];refine kB fun _=>aC.2 ?_;rw[e3]; exact hpar _ (by omega)
   ·simp (decide:=true) only[h,↓reduceIte,iE];exact aC.2 (o0 (by omega)▸xR _)
   ·simp (decide:=true) only[h,↓reduceIte,jD];exact kB fun _=>kB fun _=>aC.2 (o2 (by omega)▸Bg _)
   ·simp (decide:=true) only[h,↓reduceIte,iE];exact kB fun _=>kB fun _=>aC.2 (o0 (by omega)▸xR _)
   ·simp (decide:=true) only[h,↓reduceIte,iE];exact kB fun _=>kB fun _=>aC.2 (o0 (by omega)▸xR _)
   ·obtain⟨h3,e3,e4⟩:=o22 h;simp (decide:=true) only[h,↓reduceIte];refine kB fun _=>?_;refine Sq.bind _ (hrec (_,_)) fun v hv=>aC.2 ?_;rw[e4];refine hv [] _ _ (fun i hi=>absurd hi (Ad i)) ?_ hfs (hfs e.N.toNat (by omega));rw[<-e3];exact fun i hi=>hbs i (by omega)
   ·obtain⟨l2,ht⟩:=ob h;have d2:0<b6.length:=by omega
    have d3:1<b6.length:=by omega
    have hop:e.Op=8\/e.Op=9\/e.Op=10\/e.Op=11\/e.Op=12\/e.Op=13\/e.Op=14\/e.Op=15\/e.Op=16\/e.Op=17\/e.Op=18\/e.Op=19:=by omega
    have fin:∀ {x:Option aF} {op:Int},e.Op=op->x=some (bop op (b6.getD 0 default) (b6.getD 1 default))->Sq false x (TyV t):=fun h1 h2=>by rw[h2,ht,h1]; exact aC.2 (aTF _ _ _ (by omega))
    rcases hop with h | h | h | h | h | h | h | h | h | h | h | h
    ·simp (decide:=true) only[h,↓reduceIte];change Sq false (((some 225:Option Nat).bind _).bind _) (TyV t);simp only[aJ,Tr.den,z0,z1];rw[aA ⟨trivial,by omega⟩,aA d2,aA ⟨trivial,by omega⟩,aA d3,Wp];exact fin h rfl
    ·simp (decide:=true) only[h,↓reduceIte];change Sq false (((some 226:Option Nat).bind _).bind _) (TyV t);simp only[aJ,Tr.den,z0,z1];rw[aA ⟨trivial,by omega⟩,aA d2,aA ⟨trivial,by omega⟩,aA d3,Zb];exact fin h rfl
    ·simp (decide:=true) only[h,↓reduceIte];change Sq false (((some 227:Option Nat).bind _).bind _) (TyV t);simp only[aJ,Tr.den,z0,z1];rw[aA ⟨trivial,by omega⟩,aA d2,aA ⟨trivial,by omega⟩,aA d3,Vy];exact fin h rfl
    ·simp (decide:=true) only[h,↓reduceIte];change Sq false (((some 228:Option Nat).bind _).bind _) (TyV t);simp only[aJ,Tr.den,z0,z1];rw[aA ⟨trivial,by omega⟩,aA d2,aA ⟨trivial,by omega⟩,aA d3,Xx];exact fin h rfl
    ·simp (decide:=true) only[h,↓reduceIte];change Sq false (((some 229:Option Nat).bind _).bind _) (TyV t);simp only[aJ,Tr.den,z0,z1];rw[aA ⟨trivial,by omega⟩,aA d2,aA ⟨trivial,by omega⟩,aA d3,Ws];exact fin h rfl
    ·simp (decide:=true) only[h,↓reduceIte];change Sq false (((some 230:Option Nat).bind _).bind _) (TyV t);simp only[aJ,Tr.den,z0,z1];rw[aA ⟨trivial,by omega⟩,aA d2,aA ⟨trivial,by omega⟩,aA d3,Wu];exact fin h rfl
    ·simp (decide:=true) only[h,↓reduceIte];change Sq false (((some 231:Option Nat).bind _).bind _) (TyV t);simp only[aJ,Tr.den,z0,z1];rw[aA ⟨trivial,by omega⟩,aA d2,aA ⟨trivial,by omega⟩,aA d3,Xh];exact fin h rfl
    ·simp (decide:=true) only[h,↓reduceIte];change Sq false (((some 232:Option Nat).bind _).bind _) (TyV t);simp only[aJ,Tr.den,z0,z1];rw[aA ⟨trivial,by omega⟩,aA d2,aA ⟨trivial,by omega⟩,aA d3,Wi];exact fin h rfl
    ·simp (decide:=true) only[h,↓reduceIte];change Sq false (((some 233:Option Nat).bind _).bind _) (TyV t);simp only[aJ,Tr.den,z0,z1];rw[aA ⟨trivial,by omega⟩,aA d2,aA ⟨trivial,by omega⟩,aA d3,Yf];exact fin h rfl
    ·simp (decide:=true) only[h,↓reduceIte];change Sq false (((some 234:Option Nat).bind _).bind _) (TyV t);simp only[aJ,Tr.den,z0,z1];rw[aA ⟨trivial,by omega⟩,aA d2,aA ⟨trivial,by omega⟩,aA d3,Wh];exact fin h rfl
    ·simp (decide:=true) only[h,↓reduceIte];change Sq false (((some 235:Option Nat).bind _).bind _) (TyV t);simp only[aJ,Tr.den,z0,z1];rw[aA ⟨trivial,by omega⟩,aA d2,aA ⟨trivial,by omega⟩,aA d3,Wz];exact fin h rfl
    ·simp (decide:=true) only[h,↓reduceIte];change Sq false (((some 236:Option Nat).bind _).bind _) (TyV t);simp only[aJ,Tr.den,z0,z1];rw[aA ⟨trivial,by omega⟩,aA d2,aA ⟨trivial,by omega⟩,aA d3];rw[ht,h];exact Sq.bind (fun v:Int×Int×ByteArray=>TyV 1 ⟨v.1,v.2.1,v.2.2⟩) (Sq.bind _ (aLX _) fun v hv=>aC.2 hv) fun v hv=>aC.2 hv
theorem Xr(l:List Int)(n:Int):Sp (aGK l n) (fun r=>r.2=true->(0<=n/\n<l.length)/\r.1=l.getD n.toNat default):=by
 unfold aGK aPK;simp only[Tr.den];by_cases h1:n<0
 ·rw[aA (bJ h1)];exact aC.2 (fun h=>by cases h)
 ·rw[aE (cB h1)];by_cases h2:n>=(l.length:Int)
  ·simp only[aJ,qL h2,fJ];exact aC.2 (fun h=>by cases h)
  ·simp only[aJ,gI h2,dO,dL];rw[aA (by omega),aA (by omega),Ed];exact aC.2 (fun _=>⟨by omega,rfl⟩)
theorem aLS(fs:List aV)(n:Int)(l:List Int)(hl:l.length<=1048576):Sp (aFO fs n l) (fun r=>r.2=true->(0<=n/\n<fs.length)/\l=(fs.getD n.toNat default).Params/\r.1=(fs.getD n.toNat default).Result):=by
 unfold aFO aQA;simp only[Tr.den];by_cases h1:n<0
 ·rw[aA (bJ h1)];exact aC.2 (fun h=>by cases h)
 ·rw[aE (cB h1)];by_cases h2:n>=(fs.length:Int)
  ·simp only[aJ,qL h2,fJ];exact aC.2 (fun h=>by cases h)
  ·simp only[aJ,gI h2,dO,dL];rw[aA (by omega)];by_cases h3:((fs.getD n.toNat default).Params.length:Int)=(l.length:Int)
   ·rw[aE (by simpa using h3)];refine bU.2 (mU (fun s:Int=>s) l.length (by omega) (fun s=>∀ i:Nat,(i:Int)<s->l.getD i default=(fs.getD n.toNat default).Params.getD i default) (fun s k hI hk hkN=>?_) (fun i hi=>absurd hi (by show ¬ ((i:Int)<0); omega)) rfl);subst hk;unfold Md;simp only[Tr.den,aR];by_cases hc:k<l.length
    ·rw[aA (bJ (by omega)),aA (by omega),aA (by omega)];split
     ·exact aC.2 (aC.2 (fun h=>by cases h))
     ·rename_i hne;refine aC.2 ⟨rfl,hc,fun i hi=>?_⟩;rw[aN (by omega)]at hi;rcases mE i k with h | h
      ·exact hI i (by omega)
      ·obtain rfl:i=k:=by omega
       exact lS fun hh=>hne (Od hh)
    ·rw[aE (cB (by omega))];exact aC.2 (aC.2 (fun _=>⟨by omega,Gn (by omega) fun i hi=>hI i (by omega),rfl⟩))
   ·rw[aA (by simpa using h3)];exact aC.2 (fun h=>by cases h)
theorem aLN(fs:List aV)(cs ps:List Int)(e:bO)(he:vV e):Sp (aVE fs cs ps e) (fun r=>r.2=true->TyE fs cs ps e r.1):=by
 refine mJ (C:=fun (a:(List aV)×(List Int)×(List Int)×bO) (x:Option (Int×Bool))=>Con Proofs.Tryz.prog 212 [.t (eL bK (a.1)),.t (eL bR (a.2.1)),.t (eL bR (a.2.2.1)),.t (dE a.2.2.2)] x (fun (y:Int×Bool)=>.tup [.t (.int .i64 (y.1)),.t (.bool (y.2))])) (fun a=>⟨bS Proofs.Tryz.func212 (by kernel_rfl),fun _ h=>nomatch h⟩) (fun rec a=>Tz rec a.1 a.2.1 a.2.2.1 a.2.2.2) (fun rec a=>Mz rec a.1 a.2.1 a.2.2.1 a.2.2.2)
  (fun a=>vV a.2.2.2) (fun a=>SizeOf.sizeOf a.2.2.2) (fun a r=>r.2=true->TyE a.1 a.2.1 a.2.2.1 a.2.2.2 r.1) (fun b r a ha hrec=>?_) true (fs,cs,ps,e) he
 clear he fs cs ps e;obtain⟨fs,cs,ps,e⟩:=a;simp only at ha hrec ⊢;cases ha with
 | mk hs hl hA=>
 have hr:∀ i,i<e.Args.length->Sq b (r.1 (fs,cs,ps,e.Args.getD i default)) (fun r=>r.2=true->TyE fs cs ps (e.Args.getD i default) r.1):=fun i hi=>hrec _ (hA i hi) (uB (aQ hi));unfold Tz;simp only[Tr.den];refine bU.2 (mU (fun s:List Int×Int=>s.2) e.Args.length (by omega) (fun s=>(s.1.length:Int)=s.2/\∀ i:Nat,(i:Int)<s.2->TyE fs cs ps (e.Args.getD i default) (s.1.getD i default)) (fun s k hI hk hkN=>?_) ⟨rfl,fun i hi=>absurd hi (by show ¬ ((i:Int)<0); omega)⟩ rfl);obtain⟨b3,v2⟩:=s;obtain⟨hbl,hbs⟩:=hI;simp only at hk hbl hbs;subst hk;unfold Nc;simp only[Tr.den,aR];by_cases hc:k<e.Args.length
 ·rw[aA (bJ (by omega)),aA (by omega)];refine Sq.bind _ (hr k hc) fun v hv=>?_;by_cases hv2:v.2=true
  ·rw[aE (by rw[hv2]; decide),aA (by simp only[eE]; omega)];refine aC.2 ⟨rfl,hc,?_,fun i hi=>?_⟩
   ·simp only[bX,eE]; rw[aN (by omega)]; omega
   ·simp only at hi ⊢;rw[aN (by omega)]at hi;rw[bH];rcases mE i k with h | h
    ·rw[aA (by omega)]; exact hbs i (by omega)
    ·have:i=k:=by omega
     subst this;rw[aE (by omega),show i-b3.length=0 by omega]; exact hv hv2
  ·rw[aA (by simp only[Bool.not_eq_true]at hv2; rw[hv2]; rfl)];exact aC.2 (aC.2 (fun h=>by cases h))
 ·rw[aE (cB (by omega))];refine aC.2 ?_;have hbe:b3.length=e.Args.length:=by omega
  have hA':∀ i,i<e.Args.length->TyE fs cs ps (e.Args.getD i default) (b3.getD i default):=fun i hi=>hbs i (by omega);simp only[sel];refine Sq.bind (fun s:List Int×Bool=>s.1=b3) (by split <;> exact aC.2 rfl) (fun s hsb=>?_);obtain⟨j5,j6⟩:=s;simp only at hsb;subst hsb;cases j6 with
  | true=>exact aC.2 (fun h=>by cases h)
  | false=>
   simp only[dO,dL];by_cases h22:e.Op=22
   ·rw[aA (by rw[h22]; rfl)];refine Sq.bind _ (Sq.of (aLS fs e.N j5 (by omega))) fun r hr=>aC.2 (fun h=>?_);have h3:=hr h;exact .mk j5 hbe (by omega) (by omega) hA' (fun h=>by omega) (fun h=>by omega) (fun h=>by omega) (fun h=>by omega) (fun h=>by omega) (fun h=>by omega) (fun h=>by omega) (fun _=>h3) (fun h=>by omega)
   ·rw[aE (by simpa using h22),Zh];simp only[aJ];by_cases hN:aCV e.Op=(j5.length:Int)
    ·rw[aE (by simpa using hN)];have hh:(0<=e.Op/\e.Op<=21)/\(e.Op=6\/e.Op=7\/e.Op=20->1<=j5.length)/\(8<=e.Op/\e.Op<=19->2<=j5.length)/\(e.Op=21->3<=j5.length):=by
      unfold aCV at hN
      repeat' split at hN
      all_goals omega
     obtain⟨ho,c1,c2,c21⟩:=hh;clear hN;by_cases h3:e.Op=3
     ·simp (decide:=true) only[h3,↓reduceIte];refine Sq.bind _ (Sq.of (Xr cs e.N)) fun r hr=>aC.2 (fun h=>.mk j5 hbe (by omega) (by omega) hA' (fun h=>by omega) (fun h=>by omega) (fun h=>by omega) (fun h=>by omega) (fun _=>hr h) (fun h=>by omega) (fun h=>by omega) (fun h=>by omega) (fun h=>by omega))
     by_cases h4:e.Op=4
     ·simp (decide:=true) only[h4,↓reduceIte];refine Sq.bind _ (Sq.of (Xr ps e.N)) fun r hr=>aC.2 (fun h=>.mk j5 hbe (by omega) (by omega) hA' (fun h=>by omega) (fun h=>by omega) (fun h=>by omega) (fun h=>by omega) (fun h=>by omega) (fun _=>hr h) (fun h=>by omega) (fun h=>by omega) (fun h=>by omega))
     have fin:∀ t:Int,e.Op≠21->(e.Op=0\/e.Op=5\/e.Op=7\/e.Op=20->t=0)->(e.Op=1->t=1)->(e.Op=2\/e.Op=6->t=2)->(8<=e.Op/\e.Op<=19->t=tyB e.Op)->(13<=e.Op/\e.Op<=16->j5.getD 0 default=j5.getD 1 default)->TyE fs cs ps e t:=fun t q1 q2 q3 q4 q5 q6=>
      .mk j5 hbe (by omega) (by omega) hA' q2 q3 q4 (fun h=>⟨by have:=c2 h; omega,q5 h⟩) (fun h=>absurd h h3) (fun h=>absurd h h4) (fun h=>absurd h q1) (fun h=>absurd h h22) q6
     by_cases hu:e.Op=0\/e.Op=1\/e.Op=2\/e.Op=5
     ·rcases hu with h | h | h | h
      ·simp (decide:=true) only[h,↓reduceIte]
       repeat' (first | exact aC.2 (fun _=>fin 0 (by omega) (fun _=>rfl) (fun _=>by omega) (fun _=>by omega) (fun _=>by omega) (fun _=>by omega)) | exact aC.2 (fun h=>by cases h) | split)
      ·simp (decide:=true) only[h,↓reduceIte]
       repeat' (first | exact aC.2 (fun _=>fin 1 (by omega) (fun _=>by omega) (fun _=>by omega) (fun _=>by omega) (fun _=>by omega) (fun _=>by omega)) | exact aC.2 (fun h=>by cases h) | split)
      ·simp (decide:=true) only[h,↓reduceIte]
       repeat' (first | exact aC.2 (fun _=>fin 2 (by omega) (fun _=>by omega) (fun _=>by omega) (fun _=>by omega) (fun _=>by omega) (fun _=>by omega)) | exact aC.2 (fun h=>by cases h) | split)
      ·simp (decide:=true) only[h,↓reduceIte]
       repeat' (first | exact aC.2 (fun _=>fin 0 (by omega) (fun _=>rfl) (fun _=>by omega) (fun _=>by omega) (fun _=>by omega) (fun _=>by omega)) | exact aC.2 (fun h=>by cases h) | split)
     by_cases hu1:e.Op=6\/e.Op=7\/e.Op=20
     ·have g0:(0:Int)<(j5.length:Int):=by have:=c1 hu1; omega
      have g0':Int.toNat 0<j5.length:=by show 0<j5.length; omega
      rcases hu1 with h | h | h
      ·simp (decide:=true) only[h,g0,g0',nD,↓reduceIte]
       repeat' (first | exact aC.2 (fun _=>fin 2 (by omega) (fun _=>by omega) (fun _=>by omega) (fun _=>by omega) (fun _=>by omega) (fun _=>by omega)) | exact aC.2 (fun h=>by cases h) | split)
      ·simp (decide:=true) only[h,g0,g0',nD,↓reduceIte]
       repeat' (first | exact aC.2 (fun _=>fin 0 (by omega) (fun _=>rfl) (fun _=>by omega) (fun _=>by omega) (fun _=>by omega) (fun _=>by omega)) | exact aC.2 (fun h=>by cases h) | split)
      ·simp (decide:=true) only[h,g0,g0',nD,↓reduceIte]
       repeat' (first | exact aC.2 (fun _=>fin 0 (by omega) (fun _=>rfl) (fun _=>by omega) (fun _=>by omega) (fun _=>by omega) (fun _=>by omega)) | exact aC.2 (fun h=>by cases h) | split)
     have l2:2<=j5.length:=by
      by_cases h:e.Op=21
      ·have:=c21 h; omega
      ·exact c2 (by omega)
     have g0:(0:Int)<(j5.length:Int):=by omega
     have g0':Int.toNat 0<j5.length:=by show 0<j5.length; omega
     have g1:(1:Int)<(j5.length:Int):=by omega
     have g1':Int.toNat 1<j5.length:=by show 1<j5.length; omega
     have hop:e.Op=8\/e.Op=9\/e.Op=10\/e.Op=11\/e.Op=12\/e.Op=13\/e.Op=14\/e.Op=15\/e.Op=16\/e.Op=17\/e.Op=18\/e.Op=19\/e.Op=21:=by omega
     have fin2:∀ t:Int,(8<=e.Op/\e.Op<=19)->t=tyB e.Op->(13<=e.Op/\e.Op<=16->j5.getD 0 default=j5.getD 1 default)->TyE fs cs ps e t:=fun t q1 q2 q3=>fin t (by omega) (fun _=>by omega) (fun _=>by omega) (fun _=>by omega) (fun _=>q2) q3;rcases hop with h | h | h | h | h | h | h | h | h | h | h | h | h
     iterate 5
      ·simp (decide:=true) only[h,g0,g0',g1,g1',nD,↓reduceIte,aJ]
       repeat' (first | exact aC.2 (fun _=>fin2 0 (by omega) (by rw[h]; rfl) fun _=>by omega) | exact aC.2 (fun h=>by cases h) | split)
     iterate 4
      ·simp (decide:=true) only[h,g0,g0',g1,g1',nD,↓reduceIte,aJ]
       repeat' (first | exact aC.2 (fun hq=>fin2 2 (by omega) (by rw[h]; rfl) fun _=>fB.1 hq) | exact aC.2 (fun h=>by cases h) | split)
     iterate 2
      ·simp (decide:=true) only[h,g0,g0',g1,g1',nD,↓reduceIte,aJ]
       repeat' (first | exact aC.2 (fun _=>fin2 2 (by omega) (by rw[h]; rfl) fun _=>by omega) | exact aC.2 (fun h=>by cases h) | split)
     ·simp (decide:=true) only[h,g0,g0',g1,g1',nD,↓reduceIte,aJ]
      repeat' (first | exact aC.2 (fun _=>fin2 1 (by omega) (by rw[h]; rfl) fun _=>by omega) | exact aC.2 (fun h=>by cases h) | split)
     have l3:=c21 h;have g2:(2:Int)<(j5.length:Int):=by omega
     have g2':Int.toNat 2<j5.length:=by show 2<j5.length; omega
     simp (decide:=true) only[h,g0,g0',g1,g1',g2,g2',nD,↓reduceIte,aJ];split
     ·exact aC.2 (fun h=>by cases h)
     ·split
      ·refine aC.2 fun hq=>?_;have hq:=fB.1 hq;exact .mk j5 hbe (by omega) (by omega) hA' (fun h=>by omega) (fun h=>by omega) (fun h=>by omega) (fun h=>by omega) (fun h=>by omega) (fun h=>by omega) (fun _=>⟨by omega,rfl,hq.symm⟩) (fun h=>by omega) (fun h=>by omega)
      ·exact aC.2 (fun h=>by cases h)
    ·rw[aA (by simpa using hN)];exact aC.2 (fun h=>by cases h)
theorem Ym(fs:List aV)(cs ps:List Int)(e:bO)(he:vV e):Sp (qG fs cs ps e) (fun r=>r.2=true->TyE fs cs ps e r.1):=by
 unfold qG aKF;simp only[Tr.den];refine Sq.bind _ (Yp e he) fun r _=>?_;split
 ·exact aC.2 (fun h=>by cases h)
 ·refine Sq.bind _ (aLN fs cs ps e he) fun r2 h2=>?_;split
  ·exact aC.2 (fun h=>by cases h)
  ·rename_i h3;exact aC.2 (fun _=>h2 (by simpa using h3))
theorem TyE.mono{i:Nat}{ps:List Int}(h:TyE (fs.take i) cs ps e t):TyE fs cs ps e t:=by
 induction h with
 | @mk e t ts hl hb ho hA o0 o1 o2 ob o3 o4 o21 o22 oc ih=>
  refine .mk ts hl hb ho ih o0 o1 o2 ob o3 o4 o21 (fun h=>?_) oc;obtain⟨g1,g2,g3⟩:=o22 h;rw[cE]at g1;have e1:(fs.take i).getD e.N.toNat default=fs.getD e.N.toNat default:=by rw[cF,cF,gT,aA (by omega)]
  rw[e1]at g2 g3;exact⟨by omega,g2,g3⟩
theorem aVO(fs:List aV)(hl:fs.length<=1048576)(hb:∀ i,i<fs.length->vV (fs.getD i default).Body/\(fs.getD i default).Params.length<=1048576):
  Sp (G82 fs) (fun ok=>ok=true->aYA fs):=by
 unfold G82 T82;simp only[Tr.den];refine bU.2 (mU (fun s:Int=>s) fs.length (by omega) (fun s=>∀ i:Nat,(i:Int)<s->TyE (fs.take i) [] (fs.getD i default).Params (fs.getD i default).Body (fs.getD i default).Result) (fun s k hI hk hkN=>?_) (fun i hi=>absurd hi (by show ¬ ((i:Int)<0); omega)) rfl);subst hk;unfold Tv;simp only[Tr.den,aR];by_cases hc:k<fs.length
 ·rw[aA (bJ (by omega))];by_cases h20:(k:Int)<=20
  ·simp only[aJ,qL h20,fJ];rw[aA (by omega)];have hp:=(hb k hc).2;refine bU.2 (mU (fun s:Int=>s) (fs.getD k default).Params.length (by omega) (fun _=>True) (fun s m _ hm hmN=>?_) trivial rfl);subst hm;unfold Sl;simp only[Tr.den,aR];by_cases hm:m<(fs.getD k default).Params.length
   ·rw[aA (bJ (by omega)),aA (by omega),Ed];simp only[aJ];split
    ·exact aC.2 (aC.2 (aC.2 (fun h=>by cases h)))
    ·exact aC.2 ⟨rfl,hm,trivial⟩
   ·rw[aE (cB (by omega))];refine aC.2 ?_;simp only[sel];rw[aA ⟨by omega,by omega,by omega⟩];have e1:(fs.drop (Int.toNat 0)).take ((k:Int)-0).toNat=fs.take k:=by rw[show ((k:Int)-0).toNat=k by omega]; rfl
    rw[e1,aA ⟨by omega,by omega,by omega⟩];refine Sq.bind _ (Sq.of (Ym (fs.take k) [] (fs.getD k default).Params (fs.getD k default).Body (hb k hc).1)) fun r5 h5=>?_;by_cases ho:r5.2=true
    ·rw[aE (by rw[ho]; decide)];refine Sq.bind (fun j:Bool=>j=false->r5.1=(fs.getD k default).Result) ?_ fun j6 hj=>?_
     ·refine bP (fun _=>aC.2 fun h=>by cases h) fun h=>aC.2 fun _=>?_;simpa using h
     cases j6 with
     | true=>exact aC.2 (aC.2 (fun h=>by cases h))
     | false=>
      refine aC.2 ⟨rfl,hc,fun i hi=>?_⟩;rw[aN (by omega)]at hi;rcases mE i k with h | h
      ·exact hI i (by omega)
      ·have:i=k:=by omega
       subst this; rw[<-hj rfl]; exact h5 ho
    ·rw[aA (by simp only[Bool.not_eq_true]at ho; rw[ho]; rfl)];exact aC.2 (aC.2 (fun h=>by cases h))
  ·simp only[aJ,gI h20,dO,dL];refine aC.2 (aC.2 (fun h=>?_));have:=dP h;omega
 ·rw[aE (cB (by omega))];simp only[aJ,dO,dL];refine aC.2 (aC.2 (fun h i hi=>(hI i (by omega)).mono))
theorem aQD{n:Nat}(hf:okL n eH fs)(h:G82 fs=some true)(he:dU e)(ht:qG fs cs [] e=some (t,true))
  (tm:Int){row:List aF}(hr:TyR cs row){v:aF}(hv:Cw fs e tm row=some v):TyV t v:=by
 obtain⟨hl,hb⟩:=Dl hf;have h1:=(aVO fs hl hb).1 _ h rfl;have h2:=(Ym fs cs [] e he.bnd).1 _ ht rfl;have h3:Sq false (Cw fs e tm row) (TyV t):=by unfold Cw aQI;simp only[Tr.den];exact Sq.bind _ (aNY _ e) fun v hv=>aC.2 (hv cs [] t hr (fun i hi=>absurd hi (Ad i)) h1 h2)
 exact h3.1 v hv
theorem aLA(v:aF):Sp (aUM v) (fun r=>r=true->TyV v.Kind v):=by
 unfold aUM aWA;simp only[Tr.den];refine bP (fun h0=>aC.2 fun h=>⟨rfl,fun _=>fB.1 h,fun h1=>by have:=fB.1 h0; omega⟩) fun _=>bP (fun h1=>Sq.bind (fun r:Bool=>r=true->v.N=0) ?_ fun r hr=>aC.2 fun h=>⟨rfl,fun hn=>absurd (fB.1 h1) hn,fun _=>hr h⟩)
  fun hk1=>Sq.bind (fun r:Bool=>r=true->v.Kind≠1->v.S.toList=(⟨#[]⟩:ByteArray).toList) ?_ fun r hr=>aC.2 fun h=>⟨rfl,hr h,fun h1=>absurd h1 (by simpa using hk1)⟩
 ·exact bP (fun h=>aC.2 fun _=>fB.1 h) fun _=>aC.2 fun h=>by cases h
 ·exact bP (fun _=>bP (fun _=>aC.2 fun h _=>fB.1 h) fun _=>bP (fun _=>aC.2 fun h _=>fB.1 h) fun _=>aC.2 fun h=>by cases h) fun _=>aC.2 fun h=>by cases h
theorem aME(r:List aF)(h:r.length<=1048576):Sp (aSB r) (fun q=>q=true->∀ i,i<r.length->TyV (r.getD i default).Kind (r.getD i default)):=by
 unfold aSB aSL;simp only[Tr.den,bU];refine dY (fun s:Int=>s) r.length (by omega) (fun s=>∀ i:Nat,(i:Int)<s->TyV (r.getD i default).Kind (r.getD i default)) (fun s k hI hk hkN=>?_) (fun i hi=>absurd hi (by show ¬ ((i:Int)<0); omega)) rfl;subst hk;unfold Yz;simp only[Tr.den,aR];by_cases hc:k<r.length
 ·rw[aA (bJ (by omega)),aA (by omega)];refine Sq.bind _ (aLA _) fun q hq=>?_;cases q with
  | false=>exact aC.2 (aC.2 fun h=>by cases h)
  | true=>
   refine aC.2 ⟨rfl,hc,fun i hi=>?_⟩;rw[aN (by omega)]at hi;rcases mE i k with h | h
   ·exact hI i (by omega)
   ·have:i=k:=by omega
    subst this; exact hq rfl
 ·rw[aE (cB (by omega))];exact aC.2 (aC.2 fun _ i hi=>hI i (by omega))
theorem aYD(r:List aF)(h:r.length<=1048576):Sp (G78 r) (fun q=>q=true->∀ i,i<r.length->TyV (r.getD i default).Kind (r.getD i default)):=by unfold G78 T78;simp only[Tr.den];refine Sq.bind (fun q:Bool=>q=true->∀ i,i<r.length->TyV (r.getD i default).Kind (r.getD i default)) ?_ fun _ h=>aC.2 h;exact bP (fun _=>Sq.bind _ (aME r h) fun _ h=>aC.2 h) fun _=>aC.2 fun h=>by cases h
structure aBC (n:aG):Prop where
 op:0<=n.Op/\n.Op<=8
 w:n.Op=4->(1<=n.Size/\n.Size<=10000)/\(n.Kind=0\/(n.Kind=1/\(1<=n.Step/\n.Step<=10000)/\Int.tmod n.Size n.Step=0)\/(n.Kind=2/\1<=n.Step/\n.Step<=n.Size))
 t:n.Op=5->(1<=n.Size/\n.Size<=10000)/\1<=n.Keep/\n.Keep<=100
 j:n.Op=6->okB n
 a:n.Op=7->1<=n.Keep/\n.Keep<=10000
 p:n.Op=8->(1<=n.Size/\n.Size<=10000)/\1<=n.Seq.length/\n.Seq.length<=8
theorem aOK(hs:1<=s/\s<=10000)(h1:1<=t)(h:Int.tmod s t=0):t<=10000:=by rw[Int.tmod_eq_emod_of_nonneg (by omega)]at h;have:=Int.le_of_dvd (by omega) (Int.dvd_of_emod_eq_zero h);omega
theorem aPW(n:aG):Sp (G83 n) (fun r=>r=true->aBC n):=by
 have oth:∀ {P:Prop} {k m:Int},n.Op=k->k≠m->n.Op=m->P:=fun h1 h2 h3=>absurd (h1.symm.trans h3) h2;unfold G83 T83;simp only[Tr.den,aKY,aJ];by_cases h4:n.Op=4
 ·rw[aA (eX h4)];refine bP (fun _=>aC.2 fun h=>by cases h) fun q=>?_;have hz:1<=n.Size/\n.Size<=10000:=by simpa using q
  have mk:(n.Kind=0\/(n.Kind=1/\(1<=n.Step/\n.Step<=10000)/\Int.tmod n.Size n.Step=0)\/(n.Kind=2/\1<=n.Step/\n.Step<=n.Size))->aBC n:=fun h=>
   ⟨by omega,fun _=>⟨hz,h⟩,oth h4 (by decide),oth h4 (by decide),oth h4 (by decide),oth h4 (by decide)⟩
  refine bP (fun h0=>aC.2 fun _=>mk (.inl (fB.1 h0))) fun _=>bP (fun h1=>bP (fun _=>aC.2 fun h=>by cases h) fun h2=>?_) fun _=>bP (fun h2=>aC.2 fun h=>mk (.inr (.inr ⟨fB.1 h2,dP h⟩))) fun _=>aC.2 fun h=>by cases h
  have h2:=gM h2;exact pG (by omega) (aC.2 fun h=>mk (.inr (.inl ⟨fB.1 h1,⟨by omega,aOK hz (by omega) (fB.1 h)⟩,fB.1 h⟩)))
 ·rw[aE (dS h4)];by_cases h5:n.Op=5
  ·rw[aA (eX h5)];refine Sq.bind (fun j:Bool=>j=true->(1<=n.Size/\n.Size<=10000)/\1<=n.Keep/\n.Keep<=100) (bP (fun q=>aC.2 fun q2=>⟨dP q,dP q2⟩) fun _=>aC.2 fun h=>by cases h) fun j hj=>aC.2 fun h=>
    ⟨by omega,oth h5 (by decide),fun _=>hj h,oth h5 (by decide),oth h5 (by decide),oth h5 (by decide)⟩
  ·rw[aE (dS h5)];by_cases h6:n.Op=6
   ·rw[aA (eX h6)];refine Sq.bind (fun j:Bool=>j=true->okB n) (bP (fun q=>aC.2 fun q2=>⟨dP q,dP q2⟩) fun _=>aC.2 fun h=>by cases h) fun j hj=>aC.2 fun h=>
     ⟨by omega,oth h6 (by decide),oth h6 (by decide),fun _=>hj h,oth h6 (by decide),oth h6 (by decide)⟩
   ·rw[aE (dS h6)];by_cases h7:n.Op=7
    ·rw[aA (eX h7)];exact aC.2 fun h=>⟨by omega,oth h7 (by decide),oth h7 (by decide),oth h7 (by decide),fun _=>dP h,oth h7 (by decide)⟩
    ·rw[aE (dS h7)];by_cases h8:n.Op=8
     ·rw[aA (eX h8)];refine Sq.bind (fun j:Bool=>j=true->(1<=n.Size/\n.Size<=10000)/\1<=n.Seq.length/\n.Seq.length<=8) (bP (fun q=>aC.2 fun q2=>⟨dP q,by have:=dP q2; omega⟩) fun _=>aC.2 fun h=>by cases h) fun j hj=>aC.2 fun h=>
       ⟨by omega,oth h8 (by decide),oth h8 (by decide),oth h8 (by decide),oth h8 (by decide),fun _=>hj h⟩
     ·rw[aE (dS h8)];exact aC.2 fun h=>⟨dP h,fun h=>absurd h h4,fun h=>absurd h h5,fun h=>absurd h h6,fun h=>absurd h h7,fun h=>absurd h h8⟩
def nIn(n:aG):Nat:=if n.Op=0 then 0 else if n.Op=3\/n.Op=6\/n.Op=7 then 2 else 1
theorem Zk(n:aG):G84 n=some (nIn n:Int):=by
 unfold G84 T84 nIn;simp only[Tr.den];by_cases h0:n.Op=0
 ·rw[aA (eX h0),aA h0]; rfl
 ·rw[aE (dS h0),aE h0];by_cases h3:n.Op=3
  ·rw[aA (eX h3),aA (.inl h3),eX h3]; rfl
  ·rw[aE (dS h3)];by_cases h6:n.Op=6
   ·rw[aA (eX h6),aA (.inr (.inl h6)),eX h6]; rfl
   ·rw[aE (dS h6)];by_cases h7:n.Op=7
    ·rw[aA (.inr (.inr h7)),eX h7]; rfl
    ·rw[aE (by omega),show (n.Op==7)=false by simpa using h7]; rfl
def okC(l:List Int)(m:Nat):Prop:=∀ c,c∈l->0<=c/\c<m
structure gG (fs:List aV)(n:aG)(ta tb:List Int):Prop where
 b:aBC n
 fr:G82 fs=some true
 la:1<=ta.length/\ta.length<=12
 lb:1<=tb.length/\tb.length<=12
 f:n.Op=1->n.Exprs.length=1/\qG fs ta [] (n.Exprs.getD 0 default)=some (2,true)
 m:n.Op=2->(1<=n.Exprs.length/\n.Exprs.length<=12)/\∀ i,i<n.Exprs.length->∃ t,qG fs ta [] (n.Exprs.getD i default)=some (t,true)
 u:n.Op=3->ta=tb
 w:n.Op=4->okC n.Key ta.length/\(∀ g,g∈n.Aggs->(0<=g.Kind/\g.Kind<4)/\(g.Kind≠0->0<=g.Col/\g.Col<ta.length)/\(g.Kind=1->ta.getD g.Col.toNat default=0))/\n.Key.length+n.Aggs.length<12
 t:n.Op=5->okC n.Key ta.length/\0<=n.Step/\n.Step<ta.length
 j:n.Op=6\/n.Op=7->okC n.Key ta.length/\okC n.Key2 tb.length/\n.Key.length=n.Key2.length/\(∀ i,i<n.Key.length->ta.getD (n.Key.getD i default).toNat default=tb.getD (n.Key2.getD i default).toNat default)/\ta.length+tb.length<=12
 p:n.Op=8->(∀ i,i<n.Seq.length->qG fs ta [] (n.Seq.getD i default).Pred=some (2,true)/\0<=(n.Seq.getD i default).Rep/\(n.Seq.getD i default).Rep<3)/\okC n.Key ta.length/\n.Key.length<=10
theorem aXU(a b:List Int)(ha:a.length<=1048576):Sp (G87 a b) (fun r=>r=true->a=b):=by
 unfold G87 T87;simp only[Tr.den];by_cases hl:(a.length:Int)=b.length
 ·rw[aE (Qv hl)];refine bU.2 ?_;refine dY (fun s:Int=>s) a.length (by omega) (fun s=>∀ i:Nat,(i:Int)<s->a.getD i default=b.getD i default) (fun s k hI hk hkN=>?_) (fun i hi=>absurd hi (by show ¬ ((i:Int)<0); omega)) rfl;subst hk;unfold aEY;simp only[Tr.den,aR];by_cases hc:k<a.length
  ·rw[aA (bJ (by omega)),aA (by omega),aA (by omega)];refine bP (fun _=>aC.2 (aC.2 fun h=>by cases h)) fun hb=>aC.2 ⟨rfl,hc,fun i hi=>?_⟩;rw[aN (by omega)]at hi;rcases mE i k with h | h
   ·exact hI i (by omega)
   ·have:i=k:=by omega
    subst this; simpa using hb
  ·rw[aE (cB (by omega))];exact aC.2 (aC.2 fun _=>Gn (by omega) fun i hi=>hI i (by omega))
 ·rw[aA (Od hl)]; exact aC.2 fun h=>by cases h
theorem aXX(l:List jR)(ts:List Int)(h:l.length<=1048576)(h1:1<=ts.length/\ts.length<=12):Sp (G89 l ts) (fun r=>r=true->∀ g,g∈l->(0<=g.Kind/\g.Kind<4)/\(g.Kind≠0->0<=g.Col/\g.Col<ts.length)/\(g.Kind=1->ts.getD g.Col.toNat default=0)):=by
 unfold G89 T89;simp only[Tr.den,bU];refine dY (fun s:Int=>s) l.length (by omega) (fun s=>∀ g,g∈l.take s.toNat->(0<=g.Kind/\g.Kind<4)/\(g.Kind≠0->0<=g.Col/\g.Col<ts.length)/\(g.Kind=1->ts.getD g.Col.toNat default=0)) (fun s k hI hk hkN=>?_) (by simp) rfl;subst hk;unfold aCX;simp only[Tr.den,aR]at hI ⊢;by_cases hc:k<l.length
 ·rw[aA (bJ (by omega)),aA (by omega)];refine Sq.bind (fun j:Bool=>j=false->0<=(l.getD k default).Kind/\(l.getD k default).Kind<4) (bP (fun _=>aC.2 fun h=>by cases h) fun q1=>aC.2 fun q2=>?_) fun j hj=>?_
  ·have q1:=gM q1;have q2:=gM q2;omega
  ·cases j with
   | true=>exact aC.2 (aC.2 fun h=>by cases h)
   | false=>
    have hk4:=hj rfl;simp only[dO,dL];refine Sq.bind (fun j:Bool=>j=false->(l.getD k default).Kind≠0->0<=(l.getD k default).Col/\(l.getD k default).Col<ts.length) (bP (fun q0=>bP (fun _=>aC.2 fun h=>by cases h) fun q1=>aC.2 fun q2 _=>?_) fun q0=>aC.2 fun _ h=>absurd (by simpa using q0) h) fun j hj=>?_
    ·have q1:=gM q1;have q2:=gM q2;omega
    ·cases j with
     | true=>exact aC.2 (aC.2 fun h=>by cases h)
     | false=>
      have hcol:=hj rfl;simp only[dO,dL];refine Sq.bind (fun j:Bool=>j=false->(l.getD k default).Kind=1->ts.getD (l.getD k default).Col.toNat default=0) (bP (fun q0=>?_) fun q0=>aC.2 fun _ h=>by rw[h]at q0; cases q0) fun j hj=>?_
      ·have hcc:=hcol (by have:=fB.1 q0; omega);have w:IntKind.i64.wrap ((ts.length:Int)-1)=(ts.length:Int)-1:=bE (by omega) (by omega);have e:(if IntKind.i64.wrap ((ts.length:Int)-1)<(if (0:Int)>(l.getD k default).Col then 0 else (l.getD k default).Col) then IntKind.i64.wrap ((ts.length:Int)-1) else (if (0:Int)>(l.getD k default).Col then 0 else (l.getD k default).Col))=(l.getD k default).Col:=by rw[w,aE (show ¬ (0:Int)>(l.getD k default).Col by omega),aE (by omega)]
       simp only[e];rw[aA hcc];exact aC.2 fun h _=>by simpa using h
      ·cases j with
       | true=>exact aC.2 (aC.2 fun h=>by cases h)
       | false=>
        refine aC.2 ⟨rfl,hc,fun g' hg'=>?_⟩;rw[aN (by omega),aR,aO hc,dH,bY]at hg';rcases hg' with hg' | rfl
        ·exact hI g' hg'
        ·exact⟨hk4,hcol,hj rfl⟩
 ·rw[aE (cB (by omega))];refine aC.2 (aC.2 fun _=>?_)
  rwa [lV (by omega)]at hI
theorem aWV(n:aG)(a b:List Int)(h:n.Key.length<=1048576)(ha:okC n.Key a.length)(hb:okC n.Key2 b.length):Sp (G90 n a b) (fun r=>r=true->n.Key.length=n.Key2.length/\∀ i,i<n.Key.length->a.getD (n.Key.getD i default).toNat default=b.getD (n.Key2.getD i default).toNat default):=by
 unfold G90 T90;simp only[Tr.den];by_cases hl:(n.Key.length:Int)=n.Key2.length
 ·rw[aE (Qv hl)];refine bU.2 ?_;refine dY (fun s:Int=>s) n.Key.length (by omega) (fun s=>∀ i:Nat,(i:Int)<s->a.getD (n.Key.getD i default).toNat default=b.getD (n.Key2.getD i default).toNat default) (fun s k hI hk hkN=>?_) (fun i hi=>absurd hi (by show ¬ ((i:Int)<0); omega)) rfl;subst hk;unfold aHC;simp only[Tr.den,aR];by_cases hc:k<n.Key.length
  ·have h1:=ha _ (aQ hc);have h2:=hb _ (aQ (show k<n.Key2.length by omega));rw[aA (bJ (by omega)),aA (by omega),aA h1,aA (by omega),aA h2];refine bP (fun _=>aC.2 (aC.2 fun h=>by cases h)) fun hb=>aC.2 ⟨rfl,hc,fun i hi=>?_⟩;rw[aN (by omega)]at hi;rcases mE i k with h | h
   ·exact hI i (by omega)
   ·have:i=k:=by omega
    subst this; simpa using hb
  ·rw[aE (cB (by omega))];exact aC.2 (aC.2 fun _=>⟨by omega,fun i hi=>hI i (by omega)⟩)
 ·rw[aA (Od hl)]; exact aC.2 fun h=>by cases h
theorem aNP(fs:List aV)(n:aG)(ts:List (List Int))(hl:okL 104 eH fs)(hn:kH n)(h12:ts.length<=1048576)(hts:∀ t,t∈ts->t.length<=1048576):
  Sp (G34 fs n ts) (fun r=>r=true->ts.length=nIn n/\1<=ts.length/\gG fs n (ts.getD 0 default) (ts.getD (ts.length-1) default)):=by
 obtain⟨_,_,_,_,hE,_,_,_,hK,hK2,_,_,_,hA,hS,_⟩:=hn;have hE1:=hE.1;have hK1:=hK.1;have hK21:=hK2.1;have hA1:=hA.1;have hS1:=hS.1;unfold G34 T34;simp only[Tr.den];obtain⟨y,hy,_⟩:=(Xi fs hl).get;rw[hy];simp only[aJ];refine Sq.bind (fun j:Bool=>j=false->y=true/\aBC n/\ts.length=nIn n/\1<=ts.length) ?_ (fun j hj=>?_)
 ·cases y with
  | false=>exact aC.2 fun h=>by cases h
  | true=>
   simp only[Bool.not_true,dO,dL];refine Sq.bind _ (aPW n) fun r hr=>?_;cases r with
   | false=>exact aC.2 fun h=>by cases h
   | true=>
    simp only[Bool.not_true,dO,dL];rw[Zk n];simp only[aJ];refine bP (fun _=>aC.2 fun h=>by cases h) fun q1=>aC.2 fun q2=>⟨trivial,hr rfl,?_,?_⟩
    ·have:(ts.length:Int)=(nIn n:Int):=by simpa using q1
     omega
    ·have:¬ (ts.length:Int)=0:=by simpa using q2
     omega
 ·cases j with
  | true=>exact aC.2 fun h=>by cases h
  | false=>
   obtain⟨hyt,hB,hin,h1⟩:=hj rfl;subst hyt;simp only[dO,dL];have w:IntKind.i64.wrap ((ts.length:Int)-1)=((ts.length-1:Nat):Int):=by rw[bE] <;> omega
   rw[aA (by omega),w,aA (by omega),aR,show (0:Int).toNat=0 from rfl];have hta:=hts _ (aQ (show 0<ts.length by omega));have htb:=hts _ (aQ (show ts.length-1<ts.length by omega));have e00:(ts.getD (Int.toNat 0) default)=ts.getD 0 default:=rfl;generalize hA':ts.getD 0 default=ta at hta;generalize hB':ts.getD (ts.length-1) default=tb at htb;refine Sq.bind (fun j:Bool=>j=false->(1<=ta.length/\ta.length<=12)/\1<=tb.length/\tb.length<=12) ?_ (fun j hj=>?_)
   ·refine bP (fun _=>aC.2 fun h=>by cases h) fun q0=>bP (fun _=>aC.2 fun h=>by cases h) fun q1=>bP (fun _=>aC.2 fun h=>by cases h) fun q3=>aC.2 fun q2=>?_;have q1:=gM q1;have q2:=gM q2;have q0:¬ (ta.length:Int)=0:=by simpa using q0
    have q3:¬ (tb.length:Int)=0:=by simpa using q3
    omega
   ·cases j with
    | true=>exact aC.2 fun h=>by cases h
    | false=>
     obtain⟨la,lb⟩:=hj rfl;simp only[dO,dL];have oth:∀ {P:Prop} {k m:Int},n.Op=k->k≠m->n.Op=m->P:=fun h1 h2 h3=>absurd (h1.symm.trans h3) h2;have oth2:∀ {P:Prop} {k:Int},n.Op=k->k≠6->k≠7->(n.Op=6\/n.Op=7)->P:=fun h1 h2 h3 h4=>h4.elim (fun h=>absurd (h1.symm.trans h) h2) fun h=>absurd (h1.symm.trans h) h3;by_cases o1:n.Op=1
     ·rw[aA (eX o1)];refine Sq.bind (fun j:Bool=>j=true->n.Exprs.length=1/\qG fs ta [] (n.Exprs.getD 0 default)=some (2,true)) (bP (fun q=>?_) fun _=>aC.2 fun h=>by cases h) fun j hj=>aC.2 fun h=>
       ⟨hin,h1,hB,hy,la,lb,fun _=>hj h,oth o1 (by decide),oth o1 (by decide),oth o1 (by decide),oth o1 (by decide),oth2 o1 (by decide) (by decide),oth o1 (by decide)⟩
      have q:(n.Exprs.length:Int)=1:=by simpa using q
      refine pG (by omega) ?_;exact Sq.bind _ (Sq.of (aHE fs _ ta hl (okEs.get hE (show 0<n.Exprs.length by omega)))) fun r hr=>aC.2 fun h=>⟨by omega,hr h⟩
     ·rw[aE (dS o1)];by_cases o2:n.Op=2
      ·rw[aA (eX o2)];refine bU.2 (dY (fun s:Int=>s) n.Exprs.length (by omega) (fun s=>∀ i:Nat,(i:Int)<s->∃ t,qG fs ta [] (n.Exprs.getD i default)=some (t,true)) (fun s k hI hk hkN=>?_) (fun i hi=>absurd hi (by show ¬ ((i:Int)<0); omega)) rfl);subst hk;unfold aFY;simp only[Tr.den,aR,e00,hA'];by_cases hc:k<n.Exprs.length
       ·rw[aA (bJ (by omega)),aA (by omega)];refine Sq.bind _ (Sq.of (aIS fs ta [] _ hl (okEs.get hE hc))) fun r hr=>?_;refine bP (fun _=>aC.2 (aC.2 fun h=>by cases h)) fun q=>aC.2 ⟨rfl,hc,fun i hi=>?_⟩;rw[aN (by omega)]at hi;rcases mE i k with h | h
        ·exact hI i (by omega)
        ·have:i=k:=by omega
         subst this; exact⟨_,hr (by simpa using q)⟩
       ·rw[aE (cB (by omega))];refine aC.2 ?_;simp only[sel];refine Sq.bind (fun j:Bool=>j=true->1<=n.Exprs.length/\n.Exprs.length<=12) (bP (fun q=>aC.2 fun q2=>by have:=dP q; have:=dP q2; omega) fun _=>aC.2 fun h=>by cases h) fun j hj=>aC.2 fun h=>
         ⟨hin,h1,hB,hy,la,lb,oth o2 (by decide),fun _=>⟨hj h,fun i hi=>hI i (by omega)⟩,oth o2 (by decide),oth o2 (by decide),oth o2 (by decide),oth2 o2 (by decide) (by decide),oth o2 (by decide)⟩
      ·rw[aE (dS o2)];by_cases o3:n.Op=3
       ·rw[aA (eX o3)];exact Sq.bind _ (aXU ta tb hta) fun r hr=>aC.2 fun h=>
         ⟨hin,h1,hB,hy,la,lb,oth o3 (by decide),oth o3 (by decide),fun _=>hr h,oth o3 (by decide),oth o3 (by decide),oth2 o3 (by decide) (by decide),oth o3 (by decide)⟩
       ·rw[aE (dS o3)];by_cases o4:n.Op=4
        ·rw[aA (eX o4)];refine Sq.bind _ (Aa n.Key ta hK1) fun r hr=>?_;refine Sq.bind (fun j:Bool=>j=true->okC n.Key ta.length/\(∀ g,g∈n.Aggs->(0<=g.Kind/\g.Kind<4)/\(g.Kind≠0->0<=g.Col/\g.Col<ta.length)/\(g.Kind=1->ta.getD g.Col.toNat default=0))/\n.Key.length+n.Aggs.length<12) (bP (fun q=>?_) fun _=>aC.2 fun h=>by cases h) fun j hj=>aC.2 fun h=>
          ⟨hin,h1,hB,hy,la,lb,oth o4 (by decide),oth o4 (by decide),oth o4 (by decide),fun _=>hj h,oth o4 (by decide),oth2 o4 (by decide) (by decide),oth o4 (by decide)⟩
         refine Sq.bind _ (aXX n.Aggs ta hA1 la) fun r2 hr2=>bP (fun q2=>aC.2 fun q3=>⟨hr q,hr2 q2,?_⟩) fun _=>aC.2 fun h=>by cases h
         have q3:=dP q3;rw[bE (by omega) (by omega)]at q3;omega
        ·rw[aE (dS o4)];by_cases o5:n.Op=5
         ·rw[aA (eX o5)];refine Sq.bind _ (Aa n.Key ta hK1) fun r hr=>?_;refine Sq.bind (fun j:Bool=>j=true->okC n.Key ta.length/\0<=n.Step/\n.Step<ta.length) (bP (fun q=>?_) fun _=>aC.2 fun h=>by cases h) fun j hj=>aC.2 fun h=>
           ⟨hin,h1,hB,hy,la,lb,oth o5 (by decide),oth o5 (by decide),oth o5 (by decide),oth o5 (by decide),fun _=>hj h,oth2 o5 (by decide) (by decide),oth o5 (by decide)⟩
          exact Sq.bind _ (Aa [n.Step] ta (by simp)) fun r2 hr2=>aC.2 fun q2=>⟨hr q,hr2 q2 _ (by simp)⟩
         ·rw[aE (dS o5)];by_cases o67:n.Op=6\/n.Op=7
          ·have hor:((if (n.Op==6)=true then some (n.Op==6) else some (n.Op==7)):Option Bool)=some true:=by
            rcases o67 with h | h
            ·rw[aA (eX h),h]; rfl
            ·rw[aE (dS (by omega)),h]; rfl
           rw[hor];simp only[aJ,fJ];refine Sq.bind _ (Aa n.Key ta hK1) fun r hr=>?_;refine Sq.bind (fun j:Bool=>j=true->okC n.Key ta.length/\okC n.Key2 tb.length/\n.Key.length=n.Key2.length/\(∀ i,i<n.Key.length->ta.getD (n.Key.getD i default).toNat default=tb.getD (n.Key2.getD i default).toNat default)/\ta.length+tb.length<=12) (bP (fun q=>?_) fun _=>aC.2 fun h=>by cases h) fun j hj=>aC.2 fun h=>
            ⟨hin,h1,hB,hy,la,lb,fun h=>absurd h o1,fun h=>absurd h o2,fun h=>absurd h o3,fun h=>absurd h o4,fun h=>absurd h o5,fun _=>hj h,fun h=>o67.elim (fun h'=>by omega) fun h'=>by omega⟩
           refine Sq.bind _ (Aa n.Key2 tb hK21) fun r2 hr2=>bP (fun q2=>?_) fun _=>aC.2 fun h=>by cases h
           refine Sq.bind _ (aWV n ta tb hK1 (hr q) (hr2 q2)) fun r3 hr3=>bP (fun q3=>aC.2 fun q4=>⟨hr q,hr2 q2,(hr3 q3).1,(hr3 q3).2,?_⟩) fun _=>aC.2 fun h=>by cases h
           have q4:=dP q4;rw[bE (by omega) (by omega)]at q4;omega
          ·have hor:((if (n.Op==6)=true then some (n.Op==6) else some (n.Op==7)):Option Bool)=some false:=by rw[aE (dS (by omega)),show (n.Op==7)=false by simpa using fun h=>o67 (.inr h)]
           rw[hor];simp only[aJ,dO,dL];refine bP (fun q8=>?_) fun _=>aC.2 fun h=>by cases h
           have o8:n.Op=8:=fB.1 q8;refine bU.2 (dY (fun s:Int=>s) n.Seq.length (by omega) (fun s=>∀ i:Nat,(i:Int)<s->qG fs ta [] (n.Seq.getD i default).Pred=some (2,true)/\0<=(n.Seq.getD i default).Rep/\(n.Seq.getD i default).Rep<3) (fun s k hI hk hkN=>?_) (fun i hi=>absurd hi (by show ¬ ((i:Int)<0); omega)) rfl);subst hk;unfold aHN;simp only[Tr.den,aR,e00,hA'];by_cases hc:k<n.Seq.length
           ·rw[aA (bJ (by omega)),aA (by omega)];refine Sq.bind _ (Sq.of (aHE fs _ ta hl (hS.2 _ (aQ hc)).1)) fun r hr=>?_;refine Sq.bind (fun j:Bool=>j=false->r=true/\0<=(n.Seq.getD k default).Rep/\(n.Seq.getD k default).Rep<3) ?_ (fun j hj=>?_)
            ·refine bP (fun _=>aC.2 fun h=>by cases h) fun q0=>pG (by omega) (bP (fun _=>aC.2 fun h=>by cases h) fun q1=>pG (by omega) (aC.2 fun q2=>?_));have q1:=gM q1;have q2:=gM q2;exact⟨by simpa using q0,by omega,by omega⟩
            ·cases j with
             | true=>exact aC.2 (aC.2 fun h=>by cases h)
             | false=>
              have hj:=hj rfl;refine aC.2 ⟨rfl,hc,fun i hi=>?_⟩;rw[aN (by omega)]at hi;rcases mE i k with h | h
              ·exact hI i (by omega)
              ·have:i=k:=by omega
               subst this; exact⟨hr hj.1,hj.2⟩
           ·rw[aE (cB (by omega))];refine aC.2 ?_;simp only[sel];refine Sq.bind _ (Aa n.Key ta hK1) fun r hr=>?_;refine Sq.bind (fun j:Bool=>j=true->okC n.Key ta.length/\n.Key.length<=10) (bP (fun q=>aC.2 fun q2=>⟨hr q,by have:=dP q2; omega⟩) fun _=>aC.2 fun h=>by cases h) fun j hj=>aC.2 fun h=>
             ⟨hin,h1,hB,hy,la,lb,oth o8 (by decide),oth o8 (by decide),oth o8 (by decide),oth o8 (by decide),oth o8 (by decide),oth2 o8 (by decide) (by decide),fun _=>⟨fun i hi=>hI i (by omega),hj h⟩⟩
structure Ok (ts:List Int)(l:List aB)(m:Nat):Prop where
 len:l.length<=m
 t:∀ d,d∈l->0<=d.Time/\d.Time<=2199023255552
 n:∀ d,d∈l->1<=d.N/\d.N<=5
 r:∀ d,d∈l->d.Row.length=ts.length/\TyR ts d.Row
theorem Xn(l:List aB)(ts:List Int)(m:Nat)(hm:m<=1000)(hl:okL 40 eC l)(ht:ts.length<=1048576):Sp (G30 l ts (m:Int)) (fun r=>r=true->Ok ts l m):=by
 have hl1:=hl.1;unfold G30 T30;simp only[Tr.den,bU];refine dY (fun s:Int=>s) l.length (by omega) (fun s=>∀ d,d∈l.take s.toNat->(0<=d.Time/\d.Time<=2199023255552)/\(1<=d.N/\d.N<=5)/\d.Row.length=ts.length/\TyR ts d.Row) (fun s k hI hk hkN=>?_) (by simp) rfl;subst hk;unfold aEP;simp only[Tr.den,aR,oK,aJ]at hI ⊢;by_cases hc:k<l.length/\k<=m
 ·have hx:=hl.2 _ (aQ hc.1);rw[aA (bJ (by omega)),aA (by omega)];refine Sq.bind (fun j:Bool=>j=false->(0<=(l.getD k default).Time/\(l.getD k default).Time<=2199023255552)/\(1<=(l.getD k default).N/\(l.getD k default).N<=5)/\(l.getD k default).Row.length=ts.length/\∀ i,i<(l.getD k default).Row.length->TyV ((l.getD k default).Row.getD i default).Kind ((l.getD k default).Row.getD i default)) ?_ (fun j hj=>?_)
  ·refine bP (fun _=>aC.2 fun h=>by cases h) fun q1=>pG (by omega) (bP (fun _=>aC.2 fun h=>by cases h) fun q2=>pG (by omega) (bP (fun _=>aC.2 fun h=>by cases h) fun q3=>pG (by omega) (bP (fun _=>aC.2 fun h=>by cases h) fun q4=>pG (by omega) (bP (fun _=>aC.2 fun h=>by cases h) fun q5=>pG (by omega) (Sq.bind _ (Sq.of (aYD _ hx.2.1.1)) fun r hr=>aC.2 fun hq=>?_)))));have q1:=gM q1;have q2:=gM q2;have q3:=gM q3;have q4:=gM q4;simp only[bne_eq_false_iff_eq]at q5;have hq:r=true:=by simpa using hq
   exact⟨by omega,by omega,by omega,hr hq⟩
  ·cases j with
   | true=>exact aC.2 (aC.2 fun h=>by cases h)
   | false=>
    obtain⟨j1,j2,hlen,hty⟩:=hj rfl;simp only[dO,dL];refine bU.2 ?_;refine dY (fun s:Int=>s) ts.length (by omega) (fun s=>∀ i:Nat,(i:Int)<s->((l.getD k default).Row.getD i default).Kind=ts.getD i default) (fun s q hJ hq hqN=>?_) (fun i hi=>absurd hi (by show ¬ ((i:Int)<0); omega)) rfl;subst hq;unfold aFJ;simp only[Tr.den,aR];by_cases hc2:q<ts.length
    ·rw[aA (bJ (by omega)),aA (by omega),aA (by omega),aA (by omega)];refine bP (fun _=>aC.2 (aC.2 (aC.2 fun h=>by cases h))) fun hb=>aC.2 ⟨rfl,hc2,fun i hi=>?_⟩;rw[aN (by omega)]at hi;rcases mE i q with h | h
     ·exact hJ i (by omega)
     ·have:i=q:=by omega
      subst this; simpa using hb
    ·rw[aE (cB (by omega))];refine aC.2 (aC.2 ⟨rfl,hc.1,fun d hd=>?_⟩);rw[aN (by omega),aR,aO hc.1,dH,bY]at hd;rcases hd with hd | rfl
     ·exact hI d hd
     ·refine⟨j1,j2,hlen,fun i hi=>?_⟩;have h1:=hty i (by omega)
      rwa [hJ i (by omega)]at h1
 ·rw[aE (cB (by omega))];refine aC.2 (aC.2 fun h=>?_);have h:=dP h;rw[lV (by omega)]at hI;exact⟨by omega,fun d hd=>(hI d hd).1,fun d hd=>(hI d hd).2.1,fun d hd=>(hI d hd).2.2⟩
theorem aLK(fs:List aV)(n:aG)(a b:List aB)(ts:List (List Int))(m:Nat)(hm:m<=1000)(hl:okL 104 eH fs)(hn:kH n)(ha:okL 40 eC a)(hb:okL 40 eC b)(h12:ts.length<=1048576)(hts:∀ t,t∈ts->t.length<=1048576):
  Sp (aVB fs n a b ts (m:Int)) (fun r=>r.2=true->∃ ta tb,gG fs n ta tb/\n.Key.length<=20/\Ok ta a m/\(n.Size<=IntKind.i64.wrap (400*(if (1:Int)>n.Step then 1 else n.Step))\/n.Kind≠1\/n.Op≠4)/\((ts=[ta]/\ta=tb/\nIn n=1/\r.1=[cons a])\/(ts=[ta,tb]/\nIn n=2/\Ok tb b m/\r.1=[cons a,cons b]))):=by
 unfold aVB aTI;simp only[Tr.den];refine Sq.bind _ (Sq.of (aPB fs n hl hn)) fun r1 h33=>?_;refine Sq.bind (fun j:Bool=>j=false->n.Key.length<=20/\ts.length=nIn n/\1<=ts.length/\gG fs n (ts.getD 0 default) (ts.getD (ts.length-1) default)) ?_ (fun j hj=>?_)
 ·refine bP (fun _=>aC.2 fun h=>by cases h) fun q33=>?_;have hk20:=(h33 (by simpa using q33)).1;rw[Zk];simp only[aJ];refine bP (fun _=>aC.2 fun h=>by cases h) fun _=>?_;refine Sq.bind _ (Sq.of (aNP fs n ts hl hn h12 hts)) fun r hr=>bP (fun _=>aC.2 fun h=>by cases h) fun q=>aC.2 fun _=>⟨hk20,hr (by simpa using q)⟩
 ·cases j with
  | true=>exact aC.2 fun h=>by cases h
  | false=>
   obtain⟨hk20,h1,h2,hR⟩:=hj rfl;simp only[dO,dL];have hta:=hts _ (aQ (show 0<ts.length by omega));rw[aA (by omega),show (0:Int).toNat=0 from rfl];refine Sq.bind _ (Sq.of (Xn a (ts.getD 0 default) m hm ha hta)) fun r hr=>?_;refine bP (fun _=>aC.2 fun h=>by cases h) fun q=>?_;have hF:=hr (by simpa using q);have oa:okD a:=eC.okd ha;have ob:okD b:=eC.okd hb;rw[Zp a oa (by have:=hF.len; omega)];simp only[aJ];have fin:∀ (tb:List Int) (l:List (List aB)),gG fs n (ts.getD 0 default) tb->((ts=[ts.getD 0 default]/\ts.getD 0 default=tb/\nIn n=1/\l=[cons a])\/(ts=[ts.getD 0 default,tb]/\nIn n=2/\Ok tb b m/\l=[cons a,cons b])) ->
     Sp ((if decide (n.Size<=IntKind.i64.wrap (400*(if (1:Int)>n.Step then 1 else n.Step)))=true then some (l,true) else if (n.Kind != 1)=true then some (l,true) else some (l,n.Op != 4)).bind fun v=>some (v.1,v.2)) (fun r=>r.2=true->∃ ta tb,gG fs n ta tb/\n.Key.length<=20/\Ok ta a m/\(n.Size<=IntKind.i64.wrap (400*(if (1:Int)>n.Step then 1 else n.Step))\/n.Kind≠1\/n.Op≠4)/\((ts=[ta]/\ta=tb/\nIn n=1/\r.1=[cons a])\/(ts=[ta,tb]/\nIn n=2/\Ok tb b m/\r.1=[cons a,cons b]))):=fun tb l hR hl=>by
    refine bU.2 (bP (fun q=>aC.2 (aC.2 fun _=>⟨_,tb,hR,hk20,hF,.inl (dP q),hl⟩)) fun _=>bP (fun q=>aC.2 (aC.2 fun _=>⟨_,tb,hR,hk20,hF,.inr (.inl (by simpa using q)),hl⟩)) fun _=>aC.2 (aC.2 fun q=>⟨_,tb,hR,hk20,hF,.inr (.inr (by simpa using q)),hl⟩))
   by_cases h22:ts.length=2
   ·obtain⟨ta,tb,rfl⟩:∃ ta tb,ts=[ta,tb]:=by
     match ts,h22 with
     | [ta,tb],_=>exact⟨ta,tb,rfl⟩
    have e0:([ta,tb]:List (List Int)).getD 0 default=ta:=rfl;have e1:([ta,tb]:List (List Int)).getD (([ta,tb]:List (List Int)).length-1) default=tb:=rfl;have e2:([ta,tb]:List (List Int)).getD (1:Int).toNat default=tb:=rfl;rw[e0,e1]at hR;simp only[e0]at fin hF;rw[aA (eX (by simp)),aA (by simp),e2];refine Sq.bind (fun z=>z = .inr ([],false)\/(Ok tb b m/\z = .inl ([cons a]++[cons b]))) ?_ fun z hz=>?_
    ·refine Sq.bind _ (Sq.of (Xn b tb m hm hb (hts _ (by simp)))) fun r hr=>?_;refine bP (fun _=>aC.2 (.inl rfl)) fun q=>?_;have hFb:=hr (by simpa using q);rw[Zp b ob (by have:=hFb.len; omega)];simp only[aJ];rw[aA (by simp)];exact aC.2 (.inr ⟨hFb,rfl⟩)
    ·rcases hz with rfl | ⟨hFb,rfl⟩
     ·exact aC.2 fun h=>by cases h
     ·simp only[sel];exact fin tb _ hR (.inr ⟨rfl,by rw[<-h1]; rfl,hFb,rfl⟩)
   ·obtain⟨ta,rfl⟩:∃ ta,ts=[ta]:=by
     have h3:ts.length=1:=by
      unfold nIn at h1;split at h1
      ·omega
      ·split at h1 <;> omega
     exact Ja.1 h3
    have e0:([ta]:List (List Int)).getD 0 default=ta:=rfl;have e1:([ta]:List (List Int)).getD (([ta]:List (List Int)).length-1) default=ta:=rfl;rw[e0,e1]at hR;simp only[e0]at fin;rw[aE (dS (by simp))];simp only[aJ,sel];exact fin ta _ hR (.inl ⟨trivial,rfl,by rw[<-h1]; rfl,rfl⟩)
theorem Kp{α:Type}{d:α}{u v:List α}(hv:v≠[]):(u++v).getLastD d=v.getLastD d:=by
 rcases List.eq_nil_or_concat v with rfl | ⟨w,z,rfl⟩
 ·exact absurd rfl hv
 ·rw[Vn,Vn,List.concat_eq_append,<-cL,List.getLast?_concat,List.getLast?_concat]
section
variable {α:Type} [Inhabited α] (tm:α->Int) (nx:Int->α->Int) (hit:Int->Bool) (sz bg:Int)
def pS:List α->Option (Int×Int)
 | []=>none
 | q::qs=>if isM tm nx hit sz (tm q) bg (q::qs)=true then some (tm q,((q::qs).length:Int)) else pS qs
theorem Bf:∀ (u v:List α),v≠[]->(∀ x,x∈u->¬ tm (v.getLastD default)-tm x<sz)->pS tm nx hit sz bg (u++v)=pS tm nx hit sz bg v
 | [],v,_,_=>rfl
 | q::u,v,hv,h=>by rw[rU,pS,aE,Bf u v hv fun x hx=>h x (cH _ hx)];unfold isM;have e:(q::(u++v)).getLastD default=v.getLastD default:=Kp (u:=q::u) hv;rw[e,gI (h q cC),Bool.false_and];decide
theorem Gh:∀ (i:Int) (qs:List α) (k:Nat),k<qs.length->(pS tm nx hit sz bg (qs.take (k+1))=none/\Hn tm nx hit sz bg i qs k = -1) \/
  (∃ j:Nat,j<=k/\Hn tm nx hit sz bg i qs k=i+j/\pS tm nx hit sz bg (qs.take (k+1))=some (tm (qs.getD j default),(k:Int)-j+1))
 | i,[],k,hk=>by simp at hk
 | i,q::qs,0,hk=>by
  rw[show (q::qs).take (0+1)=[q] from rfl,pS];unfold Hn;by_cases h:isM tm nx hit sz (tm q) bg [q]=true
  ·rw[aA h,aA h];exact .inr ⟨0,cR _,by simp,by simp⟩
  ·rw[aE h,aE h];exact .inl ⟨rfl,rfl⟩
 | i,q::qs,k+1,hk=>by
  have hk':k<qs.length:=by simpa using hk
  have ih:=Gh (i+1) qs k hk';rw[Og,pS];unfold Hn;rw[Og];by_cases h:isM tm nx hit sz (tm q) bg (q::qs.take (k+1))=true
  ·rw[aA h,aA h];refine .inr ⟨0,vY _,by simp,?_⟩;rw[dA,cE,Iw (by omega)];simp
  ·rw[aE h,aE h];rcases ih with⟨h1,h2⟩ | ⟨j,h1,h2,h3⟩
   ·exact .inl ⟨h1,h2⟩
   ·refine .inr ⟨j+1,by omega,by rw[h2]; omega,?_⟩;rw[h3,List.getD_cons_succ]
    congr 2
    omega
end
def Ck(n:aG)(key:List aF)(L:List dM):List aB:=match pS dM.time_ (nxF n) (Gj n) n.Size (rQ n 1) L with
 | some (t,m)=>[⟨(L.getLastD default).time_,key++[vI t,vI m],1⟩]
 | none=>[]
def jK(n:aG)(key:List aF)(lo:Int):List dM->List dM->List aB
 | _,[]=>[]
 | u,q::qs=>(if lo<=q.time_ then Ck n key (u++[q]) else [])++jK n key lo (u++[q]) qs
theorem qA(n:aG)(key:List aF)(lo:Int):∀ (u a b:List dM),jK n key lo u (a++b)=jK n key lo u a++jK n key lo (u++a) b
 | u,[],b=>by rw[oU,eU]; rfl
 | u,q::a,b=>by rw[rU,jK,jK,qA n key lo (u++[q]) a b,cL,cL];rfl
theorem aGN{key:List aF}{u v:List dM}(hv:v≠[])(h:∀ x,x∈u->¬ (v.getLastD default).time_-x.time_<n.Size):Ck n key (u++v)=Ck n key v:=by unfold Ck;rw[Bf dM.time_ (nxF n) (Gj n) n.Size (rQ n 1) u v hv h];rw[Kp hv]
theorem uW(u:List dM)(q:dM):(u++[q]).getLastD default=q:=by rw[Vn,List.getLast?_append];simp
theorem Oq{n:aG}{key:List aF}{lo:Int}:∀ {u0 u qs:List dM},(∀ x,x∈u0->∀ q,q∈qs->¬ q.time_-x.time_<n.Size)->jK n key lo (u0++u) qs=jK n key lo u qs
 | u0,u,[],h=>rfl
 | u0,u,q::qs,h=>by rw[jK,jK,cL,Oq (u:=u++[q]) fun x hx y hy=>h x hx y (cH _ hy)];rw[aGN (by simp) (fun x hx=>by rw[uW]; exact h x hx q cC)]
noncomputable def plA (fs:List aV)(n:aG)(l:List aB):List dM:=l.flatMap (plD fs n)
theorem aSD{d:aB}{q:dM}(h:q∈plD fs n d):q.time_=d.Time:=by rw[(List.mem_replicate.1 h).2]
theorem Da{q:dM}(h:q∈plA fs n l):∃ d,d∈l/\q.time_=d.Time:=by obtain⟨d,hd,hq⟩:=nF.1 h;exact⟨d,hd,aSD hq⟩
theorem Cz(fs:List aV)(n:aG)(a b:List aB):plA fs n (a++b)=plA fs n a++plA fs n b:=qX ..
theorem TS.filter{l:List aB}(h:TS l)(p:aB->Bool):TS (l.filter p):=List.Pairwise.filter p h
theorem zV(c:Int):∀ {l:List aB},TS l->l=l.filter (fun d=>decide (d.Time<c))++l.filter (fun d=>decide (c<=d.Time))
 | [],_=>rfl
 | d::l,h=>by
  have h':=lT.1 h;rw[kG,kG];by_cases hd:d.Time<c
  ·rw[aA (bJ hd),aE (cB (by omega)),rU,<-zV c h'.2]
  ·rw[aE (cB hd),aA (bJ (by omega))];have e1:l.filter (fun d=>decide (d.Time<c))=[]:=Au.2 fun x hx=>cB (by have:=h'.1 x hx; omega);have e2:l.filter (fun d=>decide (c<=d.Time))=l:=zP.2 fun x hx=>bJ (by have:=h'.1 x hx; omega);rw[e1,e2]; rfl
def Rp(k:Nat)(s:Int)(S:Nat->Prop):Prop:=∃ a:Nat,s=(a:Int)/\a<2 ^ k/\∀ p,a.testBit p=true↔S p
theorem Rp.congr{T:Nat->Prop}(h:Rp k s S)(e:∀ p,S p↔T p):Rp k s T:=by obtain⟨a,h1,h2,h3⟩:=h;exact⟨a,h1,h2,fun p=>(h3 p).trans (e p)⟩
theorem Rp.mono(h:Rp k s S)(hj:k<=j):Rp j s S:=by obtain⟨a,h1,h2,h3⟩:=h;exact⟨a,h1,Bw h2 (Me (by decide) hj),h3⟩
theorem kS(hk:k<=20)(h:a<2 ^ k):a<1048576:=Bw h (Me (n:=2) (by decide) hk)
theorem Qu{b:Nat}(ha:a<1048576)(hb:b<1048576):xS .i64 (a:Int) (b:Int)=((a &&& b:Nat):Int):=by
 unfold xS;have e:(BitVec.ofInt IntKind.i64.bits (a:Int) &&& BitVec.ofInt IntKind.i64.bits (b:Int)).toNat=a &&& b:=by show (BitVec.ofInt 64 (a:Int) &&& BitVec.ofInt 64 (b:Int)).toNat=a &&& b;rw[BitVec.toNat_and,No,No,Lb,Lb,xJ (by omega),xJ (by omega)]
 rw[e];exact tJ (by have:a &&& b<=a:=Nat.and_le_left; omega)
theorem aFL{b:Nat}(hk:k<=20)(ha:a<2 ^ k)(hb:b<2 ^ k):Mr .i64 (a:Int) (b:Int)=((a ||| b:Nat):Int):=by
 have ha':=kS hk ha;have hb':=kS hk hb;have hab:=kS hk (Nat.or_lt_two_pow ha hb);unfold Mr;have e:(BitVec.ofInt IntKind.i64.bits (a:Int) ||| BitVec.ofInt IntKind.i64.bits (b:Int)).toNat=a ||| b:=by show (BitVec.ofInt 64 (a:Int) ||| BitVec.ofInt 64 (b:Int)).toNat=a ||| b;rw[BitVec.toNat_or,No,No,Lb,Lb,xJ (by omega),xJ (by omega)]
 rw[e];exact tJ (by omega)
theorem Rp.and{T:Nat->Prop}(h:Rp k s S)(h':Rp j t T)(hk:k<=20)(hj:j<=20):Rp j (xS .i64 s t) (fun p=>S p/\T p):=by obtain⟨a,rfl,h2,h3⟩:=h;obtain⟨b,rfl,g2,g3⟩:=h';refine⟨a &&& b,Qu (kS hk h2) (kS hj g2),Nat.lt_of_le_of_lt Nat.and_le_right g2,fun p=>?_⟩;rw[Nat.testBit_and,cI,h3,g3]
theorem Rp.or{T:Nat->Prop}(h:Rp k s S)(h':Rp k t T)(hk:k<=20):Rp k (Mr .i64 s t) (fun p=>S p\/T p):=by obtain⟨a,rfl,h2,h3⟩:=h;obtain⟨b,rfl,g2,g3⟩:=h';refine⟨a ||| b,aFL hk h2 g2,Nat.or_lt_two_pow h2 g2,fun p=>?_⟩;rw[Nat.testBit_or,oH,h3,g3]
theorem Ys(hj:j<=20)(ha:a<1048576):zH .i64 (a:Int) (j:Int)=((a*2 ^ j:Nat):Int):=by
 unfold zH;have hm:min ((j:Int)).toNat IntKind.i64.bits=j:=by rw[aR]; exact Iw (by show j<=64; omega)
 rw[hm];have hp:(2:Nat) ^ j<=1048576:=Me (n:=2) (by decide) hj;have e:(a:Int)*2 ^ j=((a*2 ^ j:Nat):Int):=by rw[Int.natCast_mul,Int.natCast_pow]; rfl
 rw[e];refine tJ ?_;have:=sX (Nat.le_of_lt ha) hp;omega
theorem Rp.one(h:j<k)(hk:k<=20):Rp k (zH .i64 1 (j:Int)) (fun p=>p=j):=by
 refine⟨2 ^ j,?_,Nat.pow_lt_pow_right (by decide) h,fun p=>?_⟩
 ·have:=Ys (a:=1) (j:=j) (by omega) (by omega)
  rwa [mH]at this
 ·rw[Nat.testBit_two_pow,eJ]; exact eq_comm
theorem Rp.one0(h:0<k)(hk:k<=20):Rp k 1 (fun p=>p=0):=(Rp.one h hk)
theorem Rp.zero(k:Nat):Rp k 0 (fun _=>False):=⟨0,rfl,Nat.two_pow_pos k,fun p=>by simp⟩
theorem Rp.shl(h:Rp k s S)(hk:k<20):Rp (k+1) (zH .i64 s 1) (fun p=>∃ q,S q/\p=q+1):=by
 obtain⟨a,rfl,h2,h3⟩:=h;refine⟨a*2 ^ 1,Ys (j:=1) (by omega) (kS (by omega) h2),?_,fun p=>?_⟩
 ·rw[Nat.pow_succ]; omega
 ·rw[Nat.testBit_mul_two_pow,cI,eJ,h3];constructor
  ·rintro⟨h1,h4⟩; exact⟨p-1,h4,by omega⟩
  ·rintro⟨q,hq,rfl⟩; exact⟨by omega,hq⟩
theorem Rp.test(h:Rp k s S)(hk:k<=20)(hj:j<=20):((xS .i64 (bV .i64 s (j:Int)) 1==1)=true)↔S j:=by
 obtain⟨a,rfl,h2,h3⟩:=h;have ha:=kS hk h2;have e:bV .i64 (a:Int) (j:Int)=((a / 2 ^ j:Nat):Int):=by
  unfold bV;have hm:min ((j:Int)).toNat IntKind.i64.bits=j:=by rw[aR]; exact Iw (by show j<=64; omega)
  rw[hm];have e2:(2:Int) ^ j=((2 ^ j:Nat):Int):=by rw[Int.natCast_pow]; rfl
  rw[e2]; exact(Int.ofNat_fdiv a (2 ^ j)).symm
 have hd:a / 2 ^ j<=a:=Nat.div_le_self _ _;rw[e,show (1:Int)=((1:Nat):Int) from rfl,Qu (by omega) (by omega),<-h3,fB];rw[Nat.testBit,Nat.shiftRight_eq_div_pow,Nat.and_comm];rw[show (1 &&& a / 2 ^ j)=(a / 2 ^ j) % 2 by rw[Nat.and_comm,Nat.and_one_is_mod]];have:=Nat.mod_lt (a / 2 ^ j) (show 0<2 by decide);constructor
 ·intro h; have:a / 2 ^ j % 2=1:=by omega
  rw[this]; rfl
 ·intro h;have h:a / 2 ^ j % 2≠0:=by simpa using h
  omega
theorem Rp.hit(h:Rp k s S)(hj:j<k)(hk:k<=20):((xS .i64 s (zH .i64 1 (j:Int)) != 0)=true)↔S j:=by
 obtain⟨a,e1,e2,e3⟩:=h.and (Rp.one hj hk) hk hk;rw[e1,bne_iff_ne];constructor
 ·intro hne;have:a≠0:=fun h0=>hne (by rw[h0]; rfl);obtain⟨p,hp⟩:=Nat.exists_testBit_of_ne_zero this;obtain⟨hs,rfl⟩:=(e3 p).1 hp;exact hs
 ·intro hs h0;have:a=0:=by omega
  have hb:=(e3 j).2 ⟨hs,rfl⟩;rw[this,Nat.zero_testBit]at hb;cases hb
section
variable {α:Type} (K:Nat) (rep:Nat->Int) (ok:α->Nat->Prop)
def Skp(p q:Nat):Prop:=p<=q/\∀ r,p<=r->r<q->r<K/\rep r=2
def qS:List α->Nat->Prop
 | [],p=>Skp K rep p K
 | x::s,p=>∃ q,Skp K rep p q/\q<K/\ok x q/\(qS s (q+1)\/(rep q=1/\qS s q))
def Bwd:List α->Nat->Prop
 | [],p=>p=K
 | x::s,p=>p<K/\ok x p/\(qS K rep ok s (p+1)\/(rep p=1/\qS K rep ok s p))
theorem uN(s:List α)(p:Nat):qS K rep ok s p↔∃ q,Skp K rep p q/\Bwd K rep ok s q:=by
 cases s with
 | nil=>
  constructor
  ·intro h; exact⟨K,h,rfl⟩
  ·rintro⟨q,h,rfl⟩; exact h
 | cons x s=>exact Iff.rfl
variable {K rep ok}
theorem Skp.refl(p:Nat):Skp K rep p p:=⟨cR p,fun r h h'=>by omega⟩
theorem Skp.trans{p q r:Nat}(h:Skp K rep p q)(h':Skp K rep q r):Skp K rep p r:=⟨gY h.1 h'.1,fun t h1 h2=>by
 rcases mE t q with h3 | h3
 ·exact h.2 t h1 h3
 ·exact h'.2 t h3 h2⟩
theorem qS.pre{s:List α}{p q:Nat}(h:Skp K rep p q)(ha:qS K rep ok s q):qS K rep ok s p:=by
 cases s with
 | nil=>exact h.trans ha
 | cons x s=>obtain⟨r,h1,h2⟩:=ha;exact⟨r,h.trans h1,h2⟩
variable (K rep ok)
def Nxt(S:Nat->Prop)(x:α):Nat->Prop:=fun p=>∃ q,(∃ b,S b/\b<K/\ok x b/\(q=b+1\/(rep b=1/\q=b)))/\Skp K rep q p
def Fwd:(Nat->Prop)->List α->Prop
 | S,[]=>S K
 | S,x::s=>Fwd (Nxt K rep ok S x) s
theorem Zc:∀ (s:List α) (S:Nat->Prop),(∀ p q,S p->Skp K rep p q->S q)->(Fwd K rep ok S s↔∃ p,S p/\qS K rep ok s p)
 | [],S,hc=>⟨fun h=>⟨K,h,.refl K⟩,fun⟨p,h1,h2⟩=>hc p K h1 h2⟩
 | x::s,S,hc=>by
  rw[Fwd,Zc s _ fun p q ⟨r,h1,h2⟩ h3=>⟨r,h1,h2.trans h3⟩];constructor
  ·rintro⟨p,⟨q,⟨b,hb,hK,ho,hq⟩,hs⟩,ha⟩;refine⟨b,hb,b,.refl b,hK,ho,?_⟩;have ha':=ha.pre hs;rcases hq with rfl | ⟨h1,rfl⟩
   ·exact .inl ha'
   ·exact .inr ⟨h1,ha'⟩
  ·rintro⟨p,hp,q,hs,hK,ho,ha⟩;have hq:=hc p q hp hs;rcases ha with ha | ⟨h1,ha⟩
   ·exact⟨q+1,⟨q+1,⟨q,hq,hK,ho,.inl rfl⟩,.refl _⟩,ha⟩
   ·exact⟨q,⟨q,⟨q,hq,hK,ho,.inr ⟨h1,rfl⟩⟩,.refl _⟩,ha⟩
theorem aBJ(s:List α):Fwd K rep ok (fun p=>Skp K rep 0 p) s↔qS K rep ok s 0:=by rw[Zc K rep ok s _ fun p q h h'=>h.trans h'];exact⟨fun⟨p,h1,h2⟩=>h2.pre h1,fun h=>⟨0,.refl 0,h⟩⟩
theorem nP{β:Type}{okβ:β->Nat->Prop}(f:β->α)(h:∀ b q,q<K->(okβ b q↔ok (f b) q)):∀ (s:List β) (p:Nat),qS K rep okβ s p↔qS K rep ok (s.map f) p
 | [],p=>Iff.rfl
 | b::s,p=>by
  rw[fI,qS,qS];constructor
  ·rintro⟨q,h1,h2,h3,h4⟩;exact⟨q,h1,h2,(h b q h2).1 h3,h4.imp (nP f h s _).1 fun h5=>⟨h5.1,(nP f h s _).1 h5.2⟩⟩
  ·rintro⟨q,h1,h2,h3,h4⟩;exact⟨q,h1,h2,(h b q h2).2 h3,h4.imp (nP f h s _).2 fun h5=>⟨h5.1,(nP f h s _).2 h5.2⟩⟩
end
abbrev gX (n:aG)(r:Nat):Int:=(n.Seq.getD r default).Rep
theorem Ej{n:aG}{K:Nat}(hK:K<=8){s:Int}{S:Nat->Prop}(h:Rp (K+1) s S):∀ k,k<=K->Rp (K+1) (Gc n s k) (fun p=>∃ q,S q/\Skp k (gX n) q p)
 | 0,_=>by
  refine h.congr fun p=>⟨fun hp=>⟨p,hp,.refl p⟩,fun⟨q,hq,h1,h2⟩=>?_⟩;rcases Nat.eq_or_lt_of_le h1 with e | e
  ·rw[<-e]; exact hq
  ·exact absurd (h2 q (cR q) e).1 (by omega)
 | k+1,hk=>by
  have ih:=Ej (n:=n) hK h k (by omega);have ht:=ih.test (j:=k) (by omega) (by omega);have up:∀ q p,Skp k (gX n) q p->Skp (k+1) (gX n) q p:=fun q p hs=>⟨hs.1,fun r h1 h2=>⟨by have:=(hs.2 r h1 h2).1; omega,(hs.2 r h1 h2).2⟩⟩;have dn:∀ q p,Skp (k+1) (gX n) q p->(p<=k\/q=p)->Skp k (gX n) q p:=fun q p hs hp=>⟨hs.1,fun r h1 h2=>⟨by rcases hp with hp | hp <;> omega,(hs.2 r h1 h2).2⟩⟩;rw[Gc];by_cases hc:((n.Seq.getD k default).Rep==2)=true/\(xS .i64 (bV .i64 (Gc n s k) k) 1==1)=true
  ·rw[aA hc];have h2:gX n k=2:=fB.1 hc.1;obtain⟨b,hb,hbs⟩:=ht.1 hc.2;refine(ih.or (Rp.one (j:=k+1) (by omega) (by omega)) (by omega)).congr fun p=>⟨?_,?_⟩
   ·rintro (⟨q,hq,hs⟩ | rfl)
    ·exact⟨q,hq,up q p hs⟩
    ·refine⟨b,hb,(up b k hbs).trans ⟨by omega,fun r h1 h2'=>?_⟩⟩;have:r=k:=by omega
     rw[this]; exact⟨by omega,h2⟩
   ·rintro⟨q,hq,hs⟩;by_cases hp:p<=k\/q=p
    ·exact .inl ⟨q,hq,dn q p hs hp⟩
    ·have:=hs.1;have h3:=(hs.2 (p-1) (by omega) (by omega)).1;exact .inr (by omega)
  ·rw[aE hc];refine ih.congr fun p=>⟨fun⟨q,hq,hs⟩=>⟨q,hq,up q p hs⟩,fun⟨q,hq,hs⟩=>?_⟩;by_cases hp:p<=k\/q=p
   ·exact⟨q,hq,dn q p hs hp⟩
   ·have h1:=hs.1;have h3:=(hs.2 (p-1) (by omega) (by omega)).1;have h4:=(hs.2 k (by omega) (by omega)).2;refine absurd ⟨fB.2 h4,ht.2 ⟨q,hq,⟨by omega,fun r h5 h6=>⟨h6,(hs.2 r h5 (by omega)).2⟩⟩⟩⟩ hc
theorem Pk{n:aG}{K:Nat}(hK:K<=8):∀ k,k<=K->Rp K (Rn n k) (fun p=>p<k/\gX n p=1)
 | 0,_=>(Rp.zero K).congr fun p=>by simp
 | k+1,hk=>by
  have ih:=Pk (n:=n) hK k (by omega);rw[Rn];by_cases hc:((n.Seq.getD k default).Rep==1)=true
  ·rw[aA hc];have h1:gX n k=1:=fB.1 hc;refine(ih.or (Rp.one (j:=k) (by omega) (by omega)) (by omega)).congr fun p=>⟨?_,?_⟩
   ·rintro (⟨h2,h3⟩ | rfl)
    ·exact⟨by omega,h3⟩
    ·exact⟨by omega,h1⟩
   ·rintro⟨h2,h3⟩;by_cases hp:p=k
    ·exact .inr hp
    ·exact .inl ⟨by omega,h3⟩
  ·rw[aE hc];have h1:¬ gX n k=1:=fun e=>hc (fB.2 e);refine ih.congr fun p=>⟨fun⟨h2,h3⟩=>⟨by omega,h3⟩,fun⟨h2,h3⟩=>⟨?_,h3⟩⟩;have:p≠k:=fun e=>h1 (by rw[<-e]; exact h3);omega
theorem aVS(hn:n.Seq.length<=8){x:dM}{T:Nat->Prop}(h:Rp (n.Seq.length+1) s S)(hx:Rp n.Seq.length x.fits_ T):
  Rp (n.Seq.length+1) (nxF n s x) (fun p=>∃ q,(∃ b,S b/\b<n.Seq.length/\T b/\(q=b+1\/(gX n b=1/\q=b)))/\Skp n.Seq.length (gX n) q p):=by
 have h1:=h.and hx (by omega) (by omega);have h2:=(h1.shl (by omega)).or ((h1.and (Pk (n:=n) hn n.Seq.length (cR _)) (by omega) (by omega)).mono (Nat.le_succ _)) (by omega);have hT:∀ b,T b->b<n.Seq.length:=fun b hb=>by obtain⟨a,_,ha,hp⟩:=hx;refine lS fun hge=>?_;have:=(hp b).2 hb;rw[Nat.testBit_lt_two_pow (Bw ha (Me (by decide) (by omega)))]at this;cases this
 refine(Ej hn h2 n.Seq.length (cR _)).congr fun p=>⟨?_,?_⟩
 ·rintro⟨q,(⟨b,⟨hb,ht⟩,rfl⟩ | ⟨⟨hb,ht⟩,hl,hr⟩),hs⟩
  ·exact⟨b+1,⟨b,hb,hT b ht,ht,.inl rfl⟩,hs⟩
  ·exact⟨q,⟨q,hb,hl,ht,.inr ⟨hr,rfl⟩⟩,hs⟩
 ·rintro⟨q,⟨b,hb,hl,ht,(rfl | ⟨hr,rfl⟩)⟩,hs⟩
  ·exact⟨b+1,.inl ⟨b,⟨hb,ht⟩,rfl⟩,hs⟩
  ·exact⟨q,.inr ⟨⟨hb,ht⟩,hl,hr⟩,hs⟩
theorem Yo{n:aG}(hn:n.Seq.length<=8)(ok:dM->Nat->Prop):∀ (l:List dM) (s:Int) (S:Nat->Prop),(∀ x,x∈l->Rp n.Seq.length x.fits_ (ok x))->Rp (n.Seq.length+1) s S ->
  ((Gj n (l.foldl (nxF n) s)=true)↔Fwd n.Seq.length (gX n) ok S l)
 | [],s,S,_,h=>by show ((xS .i64 s (zH .i64 1 (n.Seq.length:Int)) != 0)=true)↔S n.Seq.length;exact h.hit (by omega) (by omega)
 | x::l,s,S,hx,h=>by rw[oB];exact Yo hn ok l (nxF n s x) (Nxt n.Seq.length (gX n) ok S x) (fun y hy=>hx y (cH _ hy)) (aVS hn h (hx x cC))
theorem aQM(hn:n.Seq.length<=8)(ok:dM->Nat->Prop){l:List dM}(hx:∀ x,x∈l->Rp n.Seq.length x.fits_ (ok x))(t0:Int):
  (isM dM.time_ (nxF n) (Gj n) n.Size t0 (rQ n 1) l=true)↔((l.getLastD default).time_-t0<n.Size/\qS n.Seq.length (gX n) ok l 0):=by
 unfold isM;rw[cI,eJ];refine and_congr Iff.rfl ?_;rw[Yo hn ok l (rQ n 1) (fun p=>Skp n.Seq.length (gX n) 0 p) hx]
 ·exact aBJ _ _ _ l
 ·refine(Ej hn (Rp.one0 (by omega) (by omega)) n.Seq.length (cR _)).congr fun p=>⟨?_,fun h=>⟨0,rfl,h⟩⟩;rintro⟨q,rfl,h⟩;exact h
theorem Nu(fs:List aV){n:aG}(hn:n.Seq.length<=8)(d:aB):∀ k,k<=n.Seq.length->Rp n.Seq.length (Ri fs n d k) (fun p=>p<k/\(evV fs (n.Seq.getD p default).Pred d).N=1)
 | 0,_=>(Rp.zero _).congr fun p=>by simp
 | k+1,hk=>by
  have ih:=Nu fs hn d k (by omega);rw[Ri];by_cases hc:((evV fs (n.Seq.getD k default).Pred d).N==1)=true
  ·rw[aA hc];have h1:(evV fs (n.Seq.getD k default).Pred d).N=1:=by simpa using hc
   refine(ih.or (Rp.one (j:=k) (by omega) (by omega)) (by omega)).congr fun p=>⟨?_,?_⟩
   ·rintro (⟨h2,h3⟩ | rfl)
    ·exact⟨by omega,h3⟩
    ·exact⟨by omega,h1⟩
   ·rintro⟨h2,h3⟩;by_cases hp:p=k
    ·exact .inr hp
    ·exact .inl ⟨by omega,h3⟩
  ·rw[aE hc];have h1:¬ (evV fs (n.Seq.getD k default).Pred d).N=1:=by simpa using hc
   refine ih.congr fun p=>⟨fun⟨h2,h3⟩=>⟨by omega,h3⟩,fun⟨h2,h3⟩=>⟨?_,h3⟩⟩;have:p≠k:=fun e=>h1 (by rw[<-e]; exact h3);omega
end Go.PL
