/-
  Parts: From the reading of arguments to plain data; the frame of a law's row. Own work. What reads as data of the argument types reads as plain data of ours. Printed by a program of our own. The row of MeaningLinear from what its function gives, and its card. Own work. The kept part of a plain-law text (strip.py). Own work. The kept part of a plain-law text (strip.py). Own work. The kept part of a plain-law text (strip.py). Own work. The kept part of a plain-law text (strip.py). Own work. The kept part of a plain-law text (strip.py). Own work. The kept part of a plain-law text (strip.py). Own work. The kept part of a plain-law text (strip.py). Own work. The kept part of a plain-law text (strip.py). Own work. The kept part of a plain-law text (strip.py). Own work. The kept part of a plain-law text (strip.py). Own work. The kept part of a plain-law text (strip.py). Own work. The kept part of a plain-law text (strip.py). Own work. The kept part of a plain-law text (strip.py). Own work. The kept part of a plain-law text (strip.py). Own work. The kept part of a plain-law text (strip.py). Own work. The kept part of a plain-law text (strip.py). Own work. The kept part of a plain-law text (strip.py). Own work. The kept part of a plain-law text (strip.py). Own work. The kept part of a plain-law text (strip.py). Own work. The kept part of a plain-law text (strip.py). Own work. The kept part of a plain-law text (strip.py). Own work. The kept part of a plain-law text (strip.py). Own work. The kept part of a plain-law text (strip.py). Own work. The kept part of a plain-law text (strip.py). Own work. Plain law of the meanings: what is right, what fits, what is given. Own work. The kept part of a plain-law text (strip.py). Own work. The kept part of a plain-law text (strip.py). Own work. The kept part of a plain-law text (strip.py). Own work. The kept part of a plain-law text (strip.py). Own work. The kept part of a plain-law text (strip.py). Own work. The kept part of a plain-law text (strip.py). Own work.
-/
import Derived.Test.YtjefblkdnolgaaaGreatDoorMg
import Derived.Test.YtjefblkdnolgaaaGreatDoorRows
import Derived.JoinedCond
import Derived.ProofKit
import Derived.OpenShut
import Derived.Carry
import Derived.DataReads
import Derived.ChangeAnyMap
import Derived.Test.YtjefblkdnolgaaaGreatDoorCards
import Derived.Test.YtjefblkdnolgaaaGreatDoorTie
import Derived.SizedLaws
import Derived.Deep.DeepHandedRow
import Derived.Lib.LaidTab
import Derived.KernelRfl
set_option maxHeartbeats 4000000
namespace Go.PL
open Go Go.RowKit
open Go.Proofs.YtjefblkdnolgaaaGreatDoor.Rows (uptoBulk uptoBulkAll)
variable {X:Type} {fuel:Nat} {ps:List MemPlace} {t:TypeId} {v:Value}
def RdL(F:Nat->Prop)(W:World)(l:List T)(cs:List Value):Prop:=cs.length=l.length/\∀ (j:Nat) x v,l[j]? = some x->cs[j]? = some v->Rd F W x v
theorem RdL.append{F:Nat->Prop}{W:World}{l l':List T}{cs cs':List Value}(h:RdL F W l cs)(h':RdL F W l' cs'):RdL F W (l++l') (cs++cs'):=by
 refine⟨by simp[h.1,h'.1],fun j x v hx hv=>?_⟩;by_cases hj:j<l.length
 ·rw[fB hj]at hx;rw[fB (by rw[h.1]; exact hj)]at hv;exact h.2 j x v hx hv
 ·rw[fN (by omega)]at hx;rw[fN (by rw[h.1]; omega),h.1]at hv;exact h'.2 _ x v hx hv
def eR(n:Int):Prop:=-9223372036854775808<=n/\n<=9223372036854775807
section
variable {H:Type} {enc:TypeId×Value->H} {P:Program} {W:World}
def fE(enc:TypeId×Value->H)(P:Program)(W:World)(t:TypeId)(c:X->List T)(ok:X->Prop)(fuel:Nat):Prop:=
 ∀ cs d ps,DataW.trod enc P W 0 (fun _=>true) true fuel t cs=some (d,ps)->uptoBulk d<=1048576->∃ x,RdL (fun b=>b<W.heap.size) W (c x) cs/\ok x
theorem cT{c:X->List T}{ok:X->Prop}:fE enc P W t c ok 0:=fun cs d ps h=>by simp[DataW.trod]at h
theorem RdL.one{F:Nat->Prop}{W:World}{x:T}(h:Rd F W x v):RdL F W [x] [v]:=by
 refine⟨rfl,fun j y u hy hu=>?_⟩;cases j with
 | zero=>simp at hy hu; subst hy; subst hu; exact h
 | succ j=>simp at hy
theorem dE(ht:P.underlying t=some (.int .i64))(fuel:Nat):fE enc P W t bM eR fuel:=by
 cases fuel with
 | zero=>exact cT
 | succ fuel=>
  intro cs d ps h _;unfold DataW.trod at h;rw[ht]at h;split at h <;> try (simp_all; done)
  rename_i k k' n hk;split at h
  ·rename_i hk2;cases hk;obtain⟨rfl,hwf⟩:=hk2;refine⟨n,RdL.one (.int _ _),?_⟩;simp[Lit.wf,IntKind.min,IntKind.max,IntKind.signed,IntKind.bits]at hwf;exact⟨by omega,by omega⟩
  ·cases h
def tW(s:ByteArray):Prop:=s.size<=1048576
theorem gG(ht:P.underlying t=some .string)(fuel:Nat):fE enc P W t Dz tW fuel:=by
 cases fuel with
 | zero=>exact cT
 | succ fuel=>
  intro cs d ps h hw;unfold DataW.trod at h;rw[ht]at h;split at h <;> try (simp_all; done)
  rename_i s hk;split at h
  ·cases h;refine⟨s,RdL.one (.str _),?_⟩;have:s.data.toList.length+1<=1048576:=hw;have:s.size=s.data.toList.length:=rfl;unfold tW;omega
  ·cases h
theorem vL{α β:Type}{f:α->Option β}:∀ {l:List α} {r:List β},l.mapM f=some r->r.length=l.length/\∀ (i:Nat) a b,l[i]? = some a->r[i]? = some b->f a=some b
 | [],r,h=>by simp at h; subst h; simp
 | x::l,r,h=>by
  rw[List.mapM_cons]at h;simp only[Option.bind_eq_bind,Iw]at h;obtain⟨y,hy,ys,hys,hr⟩:=h;simp at hr; subst hr;obtain⟨h1,h2⟩:=vL hys;refine⟨by simp[h1],fun i a b ha hb=>?_⟩;cases i with
  | zero=>simp at ha hb; subst ha; subst hb; exact hy
  | succ i=>exact h2 i a b (by simpa using ha) (by simpa using hb)
theorem Iu:∀ d:DataW H,1<=uptoBulk d
 | .lit l=>by unfold uptoBulk; split <;> omega
 | .nil=>by simp[uptoBulk]
 | .ptr d=>by simp[uptoBulk]
 | .slice e s=>by simp[uptoBulk]
 | .agg p=>by simp[uptoBulk]
 | .iface t d=>by simp[uptoBulk]
 | .map e=>by simp[uptoBulk]
 | .held h=>by simp[uptoBulk]
theorem yU:∀ l:List (DataW H),l.length<=uptoBulkAll l
 | []=>by simp
 | d::l=>by simp only[uptoBulkAll,dO]; have:=Iu d; have:=yU l; omega
theorem zL:∀ {l:List (DataW H)} {d:DataW H},d∈l->uptoBulk d<=uptoBulkAll l
 | x::l,d,h=>by
  simp only[uptoBulkAll];rcases aS.1 h with rfl | h
  ·omega
  ·have:=zL h; omega
def okL(_b:Nat)(ok:X->Prop)(xs:List X):Prop:=xs.length<=1048576/\∀ x,x∈xs->ok x
theorem fO{t e b:Nat}(ht:P.underlying t=some (.slice e))(hn:Nat.blt 0 (P.cellsOf e)=true)(hb:P.bytesOf e=b){X:Type}[Inhabited X]{c:X->List T}{ok:X->Prop}{fuel:Nat}(he:fE enc P W e c ok fuel)(mk:List X->T)
  (hmk:∀ xs,(mk xs).view=some (xs.length,fun i=>c (xs.getD i default))):fE enc P W t (fun xs=>[mk xs]) (okL b ok) (fuel+1):=by
 have hz:0<P.cellsOf e:=by simpa[eC] using hn
 clear hn;subst hb;intro cs d ps h hw;unfold DataW.trod at h;rw[ht]at h;split at h <;> try (simp_all; done)
 ·
  rename_i hk;cases hk;refine⟨[],RdL.one (.nil (hmk [])),by simp,by simp⟩
 ·rename_i e' a len cap hk;cases hk;simp only at h;split at h
  ·rename_i hcap;simp only[Iw,jM]at h;obtain⟨elems,hel,rest,hrest,hd⟩:=h;simp only[fX]at hd;obtain⟨rfl,rfl⟩:=hd;obtain⟨hlen,hget⟩:=vL hel;simp only[List.length_range]at hlen;have hwt:uptoBulkAll (elems.map (·.1))<=1048576:=by have hw2:uptoBulkAll (elems.map (·.1))+uptoBulkAll (rest.map (·.1))+1<=1048576:=hw;omega
   have hl:len<=1048576:=by have:=yU (elems.map (·.1));simp only[bY,hlen]at this;omega
   have each:∀ i,i<len->∃ x vs,W.cells? 0 (a.add (i*P.cellsOf e)) (P.cellsOf e)=some vs/\RdL (fun b=>b<W.heap.size) W (c x) vs/\ok x:=by
    intro i hi;have hi':i<elems.length:=by omega
    have:=hget i i elems[i] (by simp[hi]) (by simp[hi']);simp only[Iw]at this;obtain⟨vs,hvs,htr⟩:=this;obtain⟨x,h1,h2⟩:=he vs elems[i].1 elems[i].2 htr (iQ (zL (xC (zH hi'))) hwt);exact⟨x,vs,hvs,h1,h2⟩
   have all:∃ xs:List X,xs.length=len/\∀ i,i<len->∃ vs,W.cells? 0 (a.add (i*P.cellsOf e)) (P.cellsOf e)=some vs/\RdL (fun b=>b<W.heap.size) W (c (xs.getD i default)) vs/\ok (xs.getD i default):=by
    clear hel hrest hget hw hwt hl hlen hcap
    induction len with
    | zero=>exact⟨[],rfl,fun i hi=>absurd hi (Nat.not_lt_zero _)⟩
    | succ len ih=>
     obtain⟨xs,h1,h2⟩:=ih fun i hi=>each i (by omega);obtain⟨x,vs,h3,h4,h5⟩:=each len (by omega);refine⟨xs++[x],by simp[h1],fun i hi=>?_⟩;by_cases hil:i<len
     ·have:(xs++[x]).getD i default=xs.getD i default:=by simp[fB (show i<xs.length by omega)]
      rw[this]; exact h2 i hil
     ·have hil:i=len:=by omega
      subst hil;have:(xs++[x]).getD i default=x:=by simp[<-h1]
      rw[this]; exact⟨vs,h3,h4,h5⟩
   obtain⟨xs,hxl,hxs⟩:=all;refine⟨xs,RdL.one ?_,by rw[hxl]; exact hl,fun x hx=>?_⟩
   ·have hsz:∀ i,i<len->(c (xs.getD i default)).length=P.cellsOf e:=by intro i hi;obtain⟨vs,h1,h2,_⟩:=hxs i hi;rw[<-h2.1];unfold World.cells? at h1;rw[aA (Nat.zero_le _)]at h1;have:=(vL h1).1; simpa using this
    have hcell:∀ i j,i<len->j<P.cellsOf e->∃ u,W.cell? (a.add (i*P.cellsOf e+j))=some u/\∀ x,(c (xs.getD i default))[j]? = some x->Rd (fun b=>b<W.heap.size) W x u:=by intro i j hi hj;obtain⟨vs,h1,h2,_⟩:=hxs i hi;unfold World.cells? at h1;rw[aA (Nat.zero_le _)]at h1;obtain⟨h3,h4⟩:=vL h1;simp only[List.length_range]at h3;have:=h4 j j vs[j] (by simp[hj]) (by simp[h3,hj]);rw[Addr.add_add]at this;exact⟨vs[j],this,fun x hx=>h2.2 j x vs[j] hx (by simp[h3,hj])⟩
    let vsf:Nat->Nat->Value:=fun i j=>(W.cell? (a.add (i*P.cellsOf e+j))).getD undef;refine .sl a cap (P.cellsOf e) vsf (n:=len) (f:=fun i=>c (xs.getD i default)) (by rw[hmk,hxl]) hcap.2.1 (fun hn=>?_) hsz (fun i j hi hj=>?_) (fun i j x hi hx=>?_)
    ·obtain⟨u,hu,_⟩:=hcell 0 0 hn hz;have hb:=World.block_lt_of_cell? W _ hu;have:(a.add (0*P.cellsOf e+0)).block=a.block:=by unfold Addr.add; split <;> rfl
     rw[this]at hb;exact hb
    ·obtain⟨u,hu,_⟩:=hcell i j hi hj;simp[vsf,hu]
    ·have hj:j<P.cellsOf e:=by rw[<-hsz i hi]; exact(dX.1 hx).1
     obtain⟨u,hu,hr⟩:=hcell i j hi hj;simp only[vsf,hu,tP];exact hr x hx
   ·obtain⟨i,hi,rfl⟩:=List.getElem_of_mem hx;obtain⟨_,_,_,h⟩:=hxs i (by omega);simpa[cF,hi] using h
  ·cases h
def Ih(enc:TypeId×Value->H)(P:Program)(W:World)(off:Nat)(fs:List Field)(c:X->List T)(ok:X->Prop)(fuel:Nat):Prop:=
 ∀ (cs:List Value) xs,fs.mapM (fun f=>DataW.trod enc P W 0 (fun _=>true) true fuel f.type ((cs.drop f.offset).take (P.cellsOf f.type)))=some xs ->
  uptoBulkAll (xs.map (·.1))<=1048576->cs.length=off+(fs.map fun f=>P.cellsOf f.type).sum->∃ x,RdL (fun b=>b<W.heap.size) W (c x) (cs.drop off)/\ok x
theorem gS{off:Nat}:Ih enc P W off [] (fun (_:Unit)=>[]) (fun _=>True) fuel:=by intro cs xs _ _ hl;simp at hl;exact⟨(),⟨by simp[hl],by simp⟩,trivial⟩
theorem aY{off:Nat}{f:Field}{fs:List Field}{Y:Type}{c:X->List T}{c':Y->List T}{ok:X->Prop}{ok':Y->Prop}(ho:f.offset=off)(h:fE enc P W f.type c ok fuel)
  (h':Ih enc P W (off+P.cellsOf f.type) fs c' ok' fuel):Ih enc P W off (f::fs) (fun (x:X×Y)=>c x.1++c' x.2) (fun x=>ok x.1/\ok' x.2) fuel:=by
 intro cs xs hx hw hl;rw[List.mapM_cons]at hx;simp only[Option.bind_eq_bind,Iw]at hx;obtain⟨y,hy,ys,hys,hr⟩:=hx;simp at hr; subst hr;simp only[gH,uptoBulkAll]at hw;obtain⟨x,h1,h2⟩:=h _ _ _ hy (by omega);simp only[gH,List.sum_cons]at hl;obtain⟨x',h3,h4⟩:=h' cs ys hys (by omega) (by omega);refine⟨(x,x'),?_,h2,h4⟩;have:cs.drop off=(cs.drop f.offset).take (P.cellsOf f.type)++cs.drop (off+P.cellsOf f.type):=by rw[ho,<-uI,iI]
 rw[this];exact h1.append h3
theorem fH{fs:Array Field}(ht:P.underlying t=some (.struct fs)){c:X->List T}{ok:X->Prop}(h:Ih enc P W 0 fs.toList c ok fuel)
  (hs:P.cellsOf t=(fs.toList.map fun f=>P.cellsOf f.type).sum):fE enc P W t c ok (fuel+1):=by
 intro cs d ps hd hw;unfold DataW.trod at hd;rw[ht]at hd;split at hd <;> try (simp_all; done)
 rename_i cs0 _ _ fs' hk;cases hk;split at hd
 ·rename_i hl;simp only[jM]at hd;obtain⟨xs,hxs,hd⟩:=hd;simp only[fX]at hd;obtain⟨rfl,_⟩:=hd;have hw2:uptoBulkAll (xs.map (·.1))+1<=1048576:=hw;have:=h _ xs hxs (by omega) (by rw[hl,hs]; simp);simpa using this
 ·cases hd
theorem fE.map{Y:Type}{c:X->List T}{ok:X->Prop}{c':Y->List T}{ok':Y->Prop}(h:fE enc P W t c ok fuel)(g:X->Y)(hc:∀ x,c' (g x)=c x)(ho:∀ x,ok x->ok' (g x)):
  fE enc P W t c' ok' fuel:=by
 intro cs d ps hd hw;obtain⟨x,h1,h2⟩:=h cs d ps hd hw;exact⟨g x,by rw[hc]; exact h1,ho x h2⟩
end
theorem RdL.agg{F:Nat->Prop}{W:World}{l:List T}{v:Value}(h:RdL F W l v.cells.toList)(hv:∃ vs,v = .agg vs):Rd F W (.agg l) v:=by obtain⟨vs,rfl⟩:=hv;simp only[Value.cells]at h;exact .agg (by simpa using h.1) fun j x v hx hv=>h.2 j x v hx (by simpa using hv)
section
variable {H:Type} {enc:TypeId×Value->H} {P:Program} {W:World} {r:Reach} {base:Nat}
theorem Ok{fs:Array Field}(ht:P.underlying t=some (.struct fs)){c:X->List T}{ok:X->Prop}(hO:∀ fuel,fE enc P W t c ok fuel){d:DataW H} 
  (hv:Value.okWide P W r base t v)(h:DataW.Trod enc P W 0 (fun _=>true) true t v d ps)(hw:uptoBulk d<=1048576):∃ x,Rd (fun b=>b<W.heap.size) W (.agg (c x)) v/\ok x:=by
 obtain⟨cs,rfl,_⟩:=Go.WideShapes.okWide_struct ht hv;obtain⟨fuel,hf⟩:=h;obtain⟨x,h1,h2⟩:=hO fuel _ _ _ hf hw;exact⟨x,h1.agg ⟨cs,rfl⟩,h2⟩
theorem aEN{c:X->T}{ok:X->Prop}(hO:∀ fuel,fE enc P W t (fun x=>[c x]) ok fuel){d:DataW H} 
  (hv:v.cells=#[v])(h:DataW.Trod enc P W 0 (fun _=>true) true t v d ps)(hw:uptoBulk d<=1048576):∃ x,Rd (fun b=>b<W.heap.size) W (c x) v/\ok x:=by
 obtain⟨fuel,hf⟩:=h;obtain⟨x,h1,h2⟩:=hO fuel _ _ _ hf hw;exact⟨x,h1.2 0 _ _ (by simp) (by simp[hv]),h2⟩
theorem nV{e:TypeId}(ht:P.underlying t=some (.slice e)){c:X->T}{ok:X->Prop}(hO:∀ fuel,fE enc P W t (fun x=>[c x]) ok fuel){d:DataW H} 
  (hv:Value.okWide P W r base t v)(h:DataW.Trod enc P W 0 (fun _=>true) true t v d ps)(hw:uptoBulk d<=1048576):∃ x,Rd (fun b=>b<W.heap.size) W (c x) v/\ok x:=by
 obtain⟨a,l,q,rfl⟩:=Go.WideShapes.okWide_slice ht hv;exact aEN hO rfl h hw
end
theorem Dw{W W':World}(h:Below W.heap.size W W')(may:MemPlace->Prop):W.keptBut W' may:=by
 refine⟨h.os,h.output,fun i hi=>?_⟩;rw[h.block i hi];cases W.heap[i]? with
 | none=>trivial
 | some o=>cases o <;> simp
section
variable {H:Type} {enc:TypeId×Value->H} {P:Program}
theorem tO(hl:laidOutB P=true){W W':World}(hb:Below W.heap.size W W'):∀ {ts:List TypeId} {vs:List Value} {ds:List (DataW H)} {ps:List MemPlace},
  (∀ t,t∈ts->P.readableRec t=true/\t<P.types.size)->DataW.TrodAll enc P W 0 (fun _=>true) true ts vs ds ps->(∀ x,x∈ps->x.block<W.heap.size) ->
  DataW.TrodAll enc P W' 0 (fun b=>decide (b<W.heap.size)) true ts vs ds ps
 | [],[],[],ps,_,h,_=>h
 | t::ts,v::vs,d::ds,ps,hr,h,hp=>by obtain⟨p,q,h1,h2,rfl⟩:=h;obtain⟨r1,r2⟩:=hr t (by simp);exact⟨p,q,Go.RowKit.Below.trod hl r1 r2 h1 hb (fun x hx=>hp x (tU _ hx)),tO hl hb (fun t ht=>hr t (cI _ ht)) h2 (fun x hx=>hp x (rB _ hx)),rfl⟩
 | [],_::_,_,_,_,h,_=>by simp[DataW.TrodAll]at h
 | [],[],_::_,_,_,h,_=>by simp[DataW.TrodAll]at h
 | _::_,[],_,_,_,h,_=>by simp[DataW.TrodAll]at h
 | _::_,_::_,[],_,_,h,_=>by simp[DataW.TrodAll]at h
theorem Ws(hlay:laidOutB P=true){f:Func}{s:ChangeSpec}{W W':World}{args:Array Value}{ds gs:List (DataW H)}{before:List MemPlace}{tb:TypeId}(hvars:s.vars=[])
  (hW:DataW.Whole enc P f.params.toList s.vars false W args.toList ds gs before)(hb:Below W.heap.size W W')(hres:f.resultTypes=#[tb])(htb:P.underlying tb=some .bool)
  (hread:∀ t,t∈f.params.toList->P.readableRec t=true/\t<P.types.size)(hfn:s.fn H (ds++gs)={ results:=[.lit (.bool true)],args:=ds }):
  s.post enc P f false true false false W args (.bool true) W':=by
 have hW':=hW;obtain⟨p,q,hA,hV,rfl,_⟩:=hW;rw[hvars]at hV;cases gs with
 | cons g gs=>simp[DataW.TrodVars]at hV
 | nil=>
  simp only[DataW.TrodVars]at hV;subst hV;have hlt:∀ x,x∈p->x.block<W.heap.size:=fun x hx=>by simpa using hW'.lt x (by simp[hx])
  refine⟨ds,[],p++[],[],p,[],hW',?_,?_,?_,Dw hb _,fun h=>by cases h⟩
  ·rw[hfn,hres];exact⟨[],[],⟨1,by simp[DataW.trod,htb,Value.cells]⟩,rfl,rfl⟩
  ·rw[hfn];exact tO hlay hb hread hA hlt
  ·rw[hvars,hfn]; exact rfl
theorem gR.law{P:Program}{k:FuncId}{args:List PV}(h:gR P k args [] [] (Ret (.t (.bool true)))){W:World}{vs:Array Value}(hs:vs.size=args.length)
  (hv:∀ (j:Nat) x v,args[j]? = some x->vs[j]? = some v->VR (fun b=>b<W.heap.size) (fun _=>undef) W x v)(hg:GLP P (fun b=>b<W.heap.size) W):
  Calls P k vs W fun e W'=>e = .returned (.bool true)/\Below W.heap.size W W':=by
 refine(h (fun b=>b<W.heap.size) (fun _=>undef) W vs hs hv ⟨by simp,by simp,by simp⟩ (fun _ h=>h) hg).mono ?_;rintro e w' ⟨v,r,H',F',g',rfl,hr,hvr,hW⟩;unfold Ret at hr;subst hr;have:=hvr.inv_bool;subst this;exact⟨rfl,⟨hW.ext.os,hW.ext.tape,hW.ext.output,hW.ext.size,fun b hb=>hW.ext.block b hb (by rintro⟨o,x,hx,_⟩; simp at hx)⟩⟩
end
set_option maxRecDepth 20000
theorem o23{H:Type}{enc:TypeId×Value->H}{W:World}(fuel:Nat):fE enc Proofs.Tryz.prog W 23 (fun xs=>[eL bM (xs)]) (okL 8 eR) fuel:=by
 cases fuel with
 | zero=>exact cT
 | succ fuel=>exact fO Proofs.Tryz.underlying23 (by kernel_rfl) (by kernel_rfl) (dE Proofs.Tryz.underlying3 fuel) (fun xs=>eL bM (xs)) (fun _=>rfl)
inductive dK:bL->Prop
 | mk0 {a b:Int} {s:ByteArray} {l:List bL} (ha:eR a) (hb:eR b) (hs:tW s) (hn:l.length<=1048576) (hl:∀ x,x∈l->dK x):dK (.mk a b s l)
theorem dK.mk{a b:Int}{s:ByteArray}{l:List bL}(ha:eR a)(hb:eR b)(hs:tW s)(hl:okL 56 dK l):dK (.mk a b s l):=.mk0 ha hb hs hl.1 hl.2
theorem Qx{H:Type}{enc:TypeId×Value->H}{W:World}:∀ fuel,fE enc Proofs.Tryz.prog W 90 dF dK fuel/\fE enc Proofs.Tryz.prog W 24 (fun xs=>[.lz (.exprs xs)]) (okL 56 dK) fuel
 | 0=>⟨cT,cT⟩
 | fuel+1=>by have ih:=Qx (enc:=enc) (W:=W) fuel;exact⟨(fH Proofs.Tryz.underlying90 (aY (by kernel_rfl) (dE Proofs.Tryz.underlying3 fuel) (aY (by kernel_rfl) (dE Proofs.Tryz.underlying3 fuel) (aY (by kernel_rfl) (gG Proofs.Tryz.underlying9 fuel) (aY (by kernel_rfl) ih.2 gS)))) (by kernel_rfl)).map (fun x=>bL.mk x.1 x.2.1 x.2.2.1 x.2.2.2.1) (fun _=>rfl) (fun x h=>.mk h.1 h.2.1 h.2.2.1 h.2.2.2.1),fO Proofs.Tryz.underlying24 (by kernel_rfl) (by kernel_rfl) ih.1 (fun xs=>.lz (.exprs xs)) (fun _=>rfl)⟩
def Nl(x:iX):Prop:=eR x.Kind/\eR x.Col/\tW x.Name
theorem aTA{H:Type}{enc:TypeId×Value->H}{W:World}(fuel:Nat):fE enc Proofs.Tryz.prog W 122 jE Nl fuel:=by
 cases fuel with
 | zero=>exact cT
 | succ fuel=>exact(fH Proofs.Tryz.underlying122 (aY (by kernel_rfl) (dE Proofs.Tryz.underlying3 fuel) (aY (by kernel_rfl) (dE Proofs.Tryz.underlying3 fuel) (aY (by kernel_rfl) (gG Proofs.Tryz.underlying9 fuel) gS))) (by kernel_rfl)).map (fun x=>iX.mk x.1 x.2.1 x.2.2.1) (fun _=>rfl) (fun x h=>⟨h.1,h.2.1,h.2.2.1⟩)
theorem o25{H:Type}{enc:TypeId×Value->H}{W:World}(fuel:Nat):fE enc Proofs.Tryz.prog W 25 (fun xs=>[eL jE (xs)]) (okL 32 Nl) fuel:=by
 cases fuel with
 | zero=>exact cT
 | succ fuel=>exact fO Proofs.Tryz.underlying25 (by kernel_rfl) (by kernel_rfl) (aTA fuel) (fun xs=>eL jE (xs)) (fun _=>rfl)
def Oc(x:Ee):Prop:=dK x.Pred/\eR x.Rep
theorem o93{H:Type}{enc:TypeId×Value->H}{W:World}(fuel:Nat):fE enc Proofs.Tryz.prog W 93 Rh Oc fuel:=by
 cases fuel with
 | zero=>exact cT
 | succ fuel=>exact(fH Proofs.Tryz.underlying93 (aY (by kernel_rfl) (Qx fuel).1 (aY (by kernel_rfl) (dE Proofs.Tryz.underlying3 fuel) gS)) (by kernel_rfl)).map (fun x=>Ee.mk x.1 x.2.1) (fun _=>rfl) (fun x h=>⟨h.1,h.2.1⟩)
theorem o26{H:Type}{enc:TypeId×Value->H}{W:World}(fuel:Nat):fE enc Proofs.Tryz.prog W 26 (fun xs=>[eL Rh (xs)]) (okL 64 Oc) fuel:=by
 cases fuel with
 | zero=>exact cT
 | succ fuel=>exact fO Proofs.Tryz.underlying26 (by kernel_rfl) (by kernel_rfl) (o93 fuel) (fun xs=>eL Rh (xs)) (fun _=>rfl)
def Nb(x:Eg):Prop:=tW x.Name/\eR x.Type_/\tW x.Unit
theorem aTB{H:Type}{enc:TypeId×Value->H}{W:World}(fuel:Nat):fE enc Proofs.Tryz.prog W 354 Sr Nb fuel:=by
 cases fuel with
 | zero=>exact cT
 | succ fuel=>exact(fH Proofs.Tryz.underlying354 (aY (by kernel_rfl) (gG Proofs.Tryz.underlying9 fuel) (aY (by kernel_rfl) (dE Proofs.Tryz.underlying3 fuel) (aY (by kernel_rfl) (gG Proofs.Tryz.underlying9 fuel) gS))) (by kernel_rfl)).map (fun x=>Eg.mk x.1 x.2.1 x.2.2.1) (fun _=>rfl) (fun x h=>⟨h.1,h.2.1,h.2.2.1⟩)
theorem o27{H:Type}{enc:TypeId×Value->H}{W:World}(fuel:Nat):fE enc Proofs.Tryz.prog W 27 (fun xs=>[eL Sr (xs)]) (okL 40 Nb) fuel:=by
 cases fuel with
 | zero=>exact cT
 | succ fuel=>exact fO Proofs.Tryz.underlying27 (by kernel_rfl) (by kernel_rfl) (aTB fuel) (fun xs=>eL Sr (xs)) (fun _=>rfl)
def mX(x:aI):Prop:=eR x.Op/\okL 8 eR x.In/\tW x.Source/\eR x.Schema/\okL 56 dK x.Exprs/\eR x.Kind/\eR x.Size/\eR x.Step/\okL 8 eR x.Key/\okL 8 eR x.Key2/\eR x.Before/\eR x.After/\eR x.Keep/\okL 32 Nl x.Aggs/\okL 64 Oc x.Seq/\okL 40 Nb x.Cols
theorem o29{H:Type}{enc:TypeId×Value->H}{W:World}(fuel:Nat):fE enc Proofs.Tryz.prog W 29 Gu mX fuel:=by
 cases fuel with
 | zero=>exact cT
 | succ fuel=>exact(fH Proofs.Tryz.underlying29 (aY (by kernel_rfl) (dE Proofs.Tryz.underlying3 fuel) (aY (by kernel_rfl) (o23 fuel) (aY (by kernel_rfl) (gG Proofs.Tryz.underlying9 fuel) (aY (by kernel_rfl) (dE Proofs.Tryz.underlying3 fuel) (aY (by kernel_rfl) (Qx fuel).2 (aY (by kernel_rfl) (dE Proofs.Tryz.underlying3 fuel) (aY (by kernel_rfl) (dE Proofs.Tryz.underlying3 fuel) (aY (by kernel_rfl) (dE Proofs.Tryz.underlying3 fuel) (aY (by kernel_rfl) (o23 fuel) (aY (by kernel_rfl) (o23 fuel) (aY (by kernel_rfl) (dE Proofs.Tryz.underlying3 fuel) (aY (by kernel_rfl) (dE Proofs.Tryz.underlying3 fuel) (aY (by kernel_rfl) (dE Proofs.Tryz.underlying3 fuel) (aY (by kernel_rfl) (o25 fuel) (aY (by kernel_rfl) (o26 fuel) (aY (by kernel_rfl) (o27 fuel) gS)))))))))))))))) (by kernel_rfl)).map (fun x=>aI.mk x.1 x.2.1 x.2.2.1 x.2.2.2.1 x.2.2.2.2.1 x.2.2.2.2.2.1 x.2.2.2.2.2.2.1 x.2.2.2.2.2.2.2.1 x.2.2.2.2.2.2.2.2.1 x.2.2.2.2.2.2.2.2.2.1 x.2.2.2.2.2.2.2.2.2.2.1 x.2.2.2.2.2.2.2.2.2.2.2.1 x.2.2.2.2.2.2.2.2.2.2.2.2.1 x.2.2.2.2.2.2.2.2.2.2.2.2.2.1 x.2.2.2.2.2.2.2.2.2.2.2.2.2.2.1 x.2.2.2.2.2.2.2.2.2.2.2.2.2.2.2.1) (fun _=>rfl) (fun x h=>⟨h.1,h.2.1,h.2.2.1,h.2.2.2.1,h.2.2.2.2.1,h.2.2.2.2.2.1,h.2.2.2.2.2.2.1,h.2.2.2.2.2.2.2.1,h.2.2.2.2.2.2.2.2.1,h.2.2.2.2.2.2.2.2.2.1,h.2.2.2.2.2.2.2.2.2.2.1,h.2.2.2.2.2.2.2.2.2.2.2.1,h.2.2.2.2.2.2.2.2.2.2.2.2.1,h.2.2.2.2.2.2.2.2.2.2.2.2.2.1,h.2.2.2.2.2.2.2.2.2.2.2.2.2.2.1,h.2.2.2.2.2.2.2.2.2.2.2.2.2.2.2.1⟩)
theorem o55{H:Type}{enc:TypeId×Value->H}{W:World}(fuel:Nat):fE enc Proofs.Tryz.prog W 55 (fun xs=>[eL kU (xs)]) (okL 24 (okL 8 eR)) fuel:=by
 cases fuel with
 | zero=>exact cT
 | succ fuel=>exact fO Proofs.Tryz.underlying55 (by kernel_rfl) (by kernel_rfl) (o23 fuel) (fun xs=>eL kU (xs)) (fun _=>rfl)
def vU(x:aF):Prop:=eR x.Kind/\eR x.N/\tW x.S
theorem o67{H:Type}{enc:TypeId×Value->H}{W:World}(fuel:Nat):fE enc Proofs.Tryz.prog W 67 aZ vU fuel:=by
 cases fuel with
 | zero=>exact cT
 | succ fuel=>exact(fH Proofs.Tryz.underlying67 (aY (by kernel_rfl) (dE Proofs.Tryz.underlying3 fuel) (aY (by kernel_rfl) (dE Proofs.Tryz.underlying3 fuel) (aY (by kernel_rfl) (gG Proofs.Tryz.underlying9 fuel) gS))) (by kernel_rfl)).map (fun x=>aF.mk x.1 x.2.1 x.2.2.1) (fun _=>rfl) (fun x h=>⟨h.1,h.2.1,h.2.2.1⟩)
theorem o48{H:Type}{enc:TypeId×Value->H}{W:World}(fuel:Nat):fE enc Proofs.Tryz.prog W 48 (fun xs=>[eL aZ (xs)]) (okL 32 vU) fuel:=by
 cases fuel with
 | zero=>exact cT
 | succ fuel=>exact fO Proofs.Tryz.underlying48 (by kernel_rfl) (by kernel_rfl) (o67 fuel) (fun xs=>eL aZ (xs)) (fun _=>rfl)
def cM(x:aC):Prop:=eR x.Time/\okL 32 vU x.Row/\eR x.N
theorem o50{H:Type}{enc:TypeId×Value->H}{W:World}(fuel:Nat):fE enc Proofs.Tryz.prog W 50 aG cM fuel:=by
 cases fuel with
 | zero=>exact cT
 | succ fuel=>exact(fH Proofs.Tryz.underlying50 (aY (by kernel_rfl) (dE Proofs.Tryz.underlying3 fuel) (aY (by kernel_rfl) (o48 fuel) (aY (by kernel_rfl) (dE Proofs.Tryz.underlying3 fuel) gS))) (by kernel_rfl)).map (fun x=>aC.mk x.1 x.2.1 x.2.2.1) (fun _=>rfl) (fun x h=>⟨h.1,h.2.1,h.2.2.1⟩)
theorem o37{H:Type}{enc:TypeId×Value->H}{W:World}(fuel:Nat):fE enc Proofs.Tryz.prog W 37 (fun xs=>[eL aG (xs)]) (okL 40 cM) fuel:=by
 cases fuel with
 | zero=>exact cT
 | succ fuel=>exact fO Proofs.Tryz.underlying37 (by kernel_rfl) (by kernel_rfl) (o50 fuel) (fun xs=>eL aG (xs)) (fun _=>rfl)
def eO(x:bE):Prop:=tW x.Name/\okL 8 eR x.Params/\eR x.Result/\dK x.Body
theorem aSY{H:Type}{enc:TypeId×Value->H}{W:World}(fuel:Nat):fE enc Proofs.Tryz.prog W 150 bJ eO fuel:=by
 cases fuel with
 | zero=>exact cT
 | succ fuel=>exact(fH Proofs.Tryz.underlying150 (aY (by kernel_rfl) (gG Proofs.Tryz.underlying9 fuel) (aY (by kernel_rfl) (o23 fuel) (aY (by kernel_rfl) (dE Proofs.Tryz.underlying3 fuel) (aY (by kernel_rfl) (Qx fuel).1 gS)))) (by kernel_rfl)).map (fun x=>bE.mk x.1 x.2.1 x.2.2.1 x.2.2.2.1) (fun _=>rfl) (fun x h=>⟨h.1,h.2.1,h.2.2.1,h.2.2.2.1⟩)
theorem o22{H:Type}{enc:TypeId×Value->H}{W:World}(fuel:Nat):fE enc Proofs.Tryz.prog W 22 (fun xs=>[eL bJ (xs)]) (okL 104 eO) fuel:=by
 cases fuel with
 | zero=>exact cT
 | succ fuel=>exact fO Proofs.Tryz.underlying22 (by kernel_rfl) (by kernel_rfl) (aSY fuel) (fun xs=>eL bJ (xs)) (fun _=>rfl)
end Go.PL
namespace Go.Proofs.YtjefblkdnolgaaaGreatDoor
open Go Go.RowKit
variable {W:World}
abbrev Jq {H:Type}:List (String×DataW H):=[("math/bits.deBruijn32tab", Rows.laid_math_bits_deBruijn32tab),("math/bits.deBruijn64tab", Rows.laid_math_bits_deBruijn64tab),("internal/strconv.uint64pow10", Rows.laid_internal_strconv_uint64pow10)]
theorem own:ownKnob Tryz.prog.godebug=none:=by kernel_rfl
theorem aLB:Tryz.prog.globalNamed "internal/strconv.uint64pow10" = some 1:=by kernel_rfl
theorem Ut:(Rows.laid_internal_strconv_uint64pow10:DataW Unit)=Lib.tabData .u64 Lib.pow10Tab:=by rfl
theorem aJA(h:laidMetH Tryz.prog Jq W):Lib.TabIs Tryz.prog W "internal/strconv.uint64pow10" .u64 Lib.pow10Tab/\1<W.heap.size:=by
 have h':laidMet Tryz.prog Jq W:=h;obtain⟨ps,hv,_⟩:=h';obtain⟨g1,t1,cs1,f1,p1,q1,_,_,_,_,hv2,_⟩:=hv;obtain⟨g2,t2,cs2,f2,p2,q2,_,_,_,_,hv3,_⟩:=hv2;obtain⟨g,t,cs,fuel,p,q,hg,hty,hvar,hd,_,_⟩:=hv3;obtain rfl:=Option.some.inj (aLB.symm.trans hg)
 have hT:Lib.TabIs Tryz.prog W "internal/strconv.uint64pow10" .u64 Lib.pow10Tab:=by
  have ht':((Tryz.prog.globals[1]?).map (·.type))=some 311:=by kernel_rfl
  obtain rfl:=Option.some.inj (ht'.symm.trans hty);rw[Ut]at hd;unfold Lib.TabIs;rw[hvar,<-Lib.cells_of_tab Tryz.underlying311 Tryz.underlying269 (by kernel_rfl) (by kernel_rfl) hd]
 refine⟨hT,?_⟩;have hc:=hT.cell aLB 0 (by decide);refine Classical.byContradiction fun h0=>?_;have:W.heap[1]? = none:=Array.getElem?_eq_none (by omega);simp[World.cell?,this]at hc
theorem glt(h:laidMetH Tryz.prog Jq W):PL.GLT Tryz.prog (fun b=>b<W.heap.size) W:=by intro b hb;obtain⟨h1,h2⟩:=aJA h;obtain rfl:=Option.some.inj (aLB.symm.trans hb);exact⟨h1,h2⟩
theorem glp(h:laidMetH Tryz.prog Jq W):PL.GLP Tryz.prog (fun b=>b<W.heap.size) W:=⟨glt h,fun he=>by cases he⟩
def aPY:DataW Unit->Array Value
 | .agg l=>(l.map fun d=>match d with | .lit (.int k z)=>Value.int k z | _=>.bool false).toArray
 | _=>#[]
noncomputable def Xn (h:Array Obj)(b:Nat)(d:DataW Unit):Array Obj:=h.modify b fun
 | .cells _ t frozen=>.cells (aPY d) t frozen
 | o=>o
noncomputable def xU (os:Os):World:=
 { World.holding Tryz.prog os ⟨#[],#[],[]⟩ with heap:=Xn (Xn (Xn (World.holding Tryz.prog os ⟨#[],#[],[]⟩).heap 1 Rows.laid_internal_strconv_uint64pow10) 4 Rows.laid_math_bits_deBruijn32tab) 5 Rows.laid_math_bits_deBruijn64tab }
theorem Yh(os:Os)(args:Array Value):laidMet Tryz.prog Jq ((xU os).forCall (fun _ _=>0) ⟨#[],args,[]⟩).memory:=
 laidMet_of_run' 8 (by kernel_rfl) (by kernel_rfl)
noncomputable abbrev aDB:Array Value:=#[.slice none 0 0,.agg #[.int .i64 0,.slice none 0 0,.string .empty,.int .i64 0,.slice none 0 0,.int .i64 0,.int .i64 0,.int .i64 0,.slice none 0 0,.slice none 0 0,.int .i64 0,.int .i64 0,.int .i64 0,.slice none 0 0,.slice none 0 0,.slice none 0 0],.slice none 0 0,.slice none 0 0,.slice none 0 0,.slice none 0 0]
open Go.PL in
set_option maxRecDepth 100000 in
theorem uQ(hF:∀ (a0:List PL.bE) (a1:PL.aI) (a2:List PL.aC) (a3:List PL.aC) (a4:List PL.aC) (a5:List (List Int)),PL.okL 104 PL.eO a0->PL.mX a1->PL.okL 40 PL.cM a2->PL.okL 40 PL.cM a3->PL.okL 40 PL.cM a4->PL.okL 24 (PL.okL 8 PL.eR) a5->PL.Wd a0 a1 a2 a3 a4 a5=some true)(os:Os)(started:os.Started)(H:Type)(enc:TypeId×Value->H)(F:Stop.Interp):
  ReturnsInHanded {} Tryz.checked os 7 .any ((Rows.OpenSpec.upto Rows.meaningLinearSpec).preRow enc Tryz.prog Tryz.f7 Rows.meaningLinearUptoRow.domain false Rows.meaningLinearUptoRow.laid) (((Rows.OpenSpec.upto Rows.meaningLinearSpec).at F).post enc Tryz.prog Tryz.f7 false true false false):=by
 refine returnsInHanded_of_row (C:=Tryz.checked) (s:=Rows.OpenSpec.upto Rows.meaningLinearSpec) own started (by kernel_rfl) Tryz.func7
  (witness_row_at (enc:=enc) (C:=Tryz.checked) false (xU os) aDB rfl (by kernel_rfl) (by kernel_rfl) (by kernel_rfl)
   (OpenSpec.preRow_of_cond 8 (x:=Option.get (DataW.whole enc Tryz.prog ((xU os).forCall (fun _ _=>0) ⟨#[],aDB,[]⟩).memory Tryz.f7.params.toList (Rows.OpenSpec.upto Rows.meaningLinearSpec).vars false aDB.toList 8) (by kernel_rfl)) (Option.some_get _).symm (by kernel_rfl) (fun k hk=>by cases hk; kernel_rfl) (by kernel_rfl) (Yh os _))) ?_
 intro W base args ds gs before hval0 hW _ hcond _ hL _ _;have hsz:=hcond _ rfl;have hval:∀ (j:Nat) t v,Tryz.f7.params[j]? = some t->args[j]? = some v->Value.okWide Tryz.prog W .any base t v:=hval0;have hW':DataW.Whole enc Tryz.prog Tryz.f7.params.toList Rows.meaningLinearSpec.vars false W args.toList ds gs before:=hW;obtain⟨p,q,hA0,hV,rfl,_⟩:=hW;have hA:DataW.TrodAll enc Tryz.prog W 0 (fun _=>true) true Tryz.f7.params.toList args.toList ds p:=hA0;rw[Tryz.params7]at hA hval;obtain⟨v0,vs0,d0,ds0,p0,q0,hl0,rfl,rfl,h0,r0⟩:=Go.ChangeShapes.trodAll_cons hA;obtain⟨v1,vs1,d1,ds1,p1,q1,hl1,rfl,rfl,h1,r1⟩:=Go.ChangeShapes.trodAll_cons r0;obtain⟨v2,vs2,d2,ds2,p2,q2,hl2,rfl,rfl,h2,r2⟩:=Go.ChangeShapes.trodAll_cons r1;obtain⟨v3,vs3,d3,ds3,p3,q3,hl3,rfl,rfl,h3,r3⟩:=Go.ChangeShapes.trodAll_cons r2;obtain⟨v4,vs4,d4,ds4,p4,q4,hl4,rfl,rfl,h4,r4⟩:=Go.ChangeShapes.trodAll_cons r3;obtain⟨v5,vs5,d5,ds5,p5,q5,hl5,rfl,rfl,h5,r5⟩:=Go.ChangeShapes.trodAll_cons r4;obtain⟨hl6,rfl,rfl⟩:=Go.ChangeShapes.trodAll_nil r5;subst hl6;subst hl5;subst hl4;subst hl3;subst hl2;subst hl1;obtain rfl:args=#[v0,v1,v2,v3,v4,v5]:=by cases args; simp_all
 obtain⟨rfl,rfl⟩:=Go.ChangeShapes.trodVars_none hV;have hwt:Rows.uptoBulkAll [d0,d1,d2,d3,d4,d5]<=1048576:=by have:=of_decide_eq_true hsz;simpa using this
 simp only[Rows.uptoBulkAll]at hwt;obtain⟨x0,hx0,ok0⟩:=nV (c:=fun xs=>eL bJ (xs)) Tryz.underlying22 (fun fuel=>o22 fuel) (hval 0 22 v0 rfl rfl) h0 (by omega);obtain⟨x1,hx1,ok1⟩:=Ok (c:=Gu) Tryz.underlying29 (fun fuel=>o29 fuel) (hval 1 29 v1 rfl rfl) h1 (by omega);obtain⟨x2,hx2,ok2⟩:=nV (c:=fun xs=>eL aG (xs)) Tryz.underlying37 (fun fuel=>o37 fuel) (hval 2 37 v2 rfl rfl) h2 (by omega);obtain⟨x3,hx3,ok3⟩:=nV (c:=fun xs=>eL aG (xs)) Tryz.underlying37 (fun fuel=>o37 fuel) (hval 3 37 v3 rfl rfl) h3 (by omega);obtain⟨x4,hx4,ok4⟩:=nV (c:=fun xs=>eL aG (xs)) Tryz.underlying37 (fun fuel=>o37 fuel) (hval 4 37 v4 rfl rfl) h4 (by omega);obtain⟨x5,hx5,ok5⟩:=nV (c:=fun xs=>eL kU (xs)) Tryz.underlying55 (fun fuel=>o55 fuel) (hval 5 55 v5 rfl rfl) h5 (by omega);have hn:=hF x0 x1 x2 x3 x4 x5 ok0 ok1 ok2 ok3 ok4 ok5;refine(gR.law ((aEZ x0 x1 x2 x3 x4 x5).h true hn) (W:=W) (vs:=#[v0,v1,v2,v3,v4,v5]) rfl (fun j x v hj hv=>?_) (glp hL)).mono fun e W' ⟨he,hb⟩=>?_
 ·match j,hj,hv with
  | 0,hj,hv=>cases hj; cases hv; exact .t hx0
  | 1,hj,hv=>cases hj; cases hv; exact .t hx1
  | 2,hj,hv=>cases hj; cases hv; exact .t hx2
  | 3,hj,hv=>cases hj; cases hv; exact .t hx3
  | 4,hj,hv=>cases hj; cases hv; exact .t hx4
  | 5,hj,hv=>cases hj; cases hv; exact .t hx5
  | j+6,hj,hv=>simp at hj
 ·subst he;exact⟨_,rfl,Ws (by kernel_rfl) rfl hW' hb (tb:=4) (by kernel_rfl) Tryz.underlying4 (fun t ht=>by rw[Tryz.params7]at ht; simp at ht; rcases ht with rfl | rfl | rfl | rfl <;> exact⟨by kernel_rfl,of_decide_eq_true (by kernel_rfl)⟩) rfl⟩
theorem aHC:laidOutB Tryz.pinned.checked.prog=true:=by kernel_rfl
theorem aAD:(Rows.meaningLinearUptoRow.inPlace==Tryz.pinned.checked.prog.inPlace 7)=true:=by kernel_rfl
theorem aMK:(Rows.meaningLinearUptoRow.unfollowed==Tryz.pinned.checked.prog.unfollowed 7)=true:=by kernel_rfl
theorem aQJ:(Rows.meaningLinearUptoRow.recurses==Tryz.pinned.checked.prog.recurses 7)=true:=by kernel_rfl
theorem Yw:(Rows.meaningLinearUptoRow.named==Tryz.pinned.checked.prog.varsNamed 7)=true:=by kernel_rfl
theorem Zu:Tryz.pinned.checked.prog.stopsHeard=true:=by kernel_rfl
theorem Yk:Tryz.pinned.checked.prog.mayEnter=true:=by kernel_rfl
theorem Xz:(Rows.meaningLinearUptoRow.lifted==Tryz.pinned.checked.prog.liftsFinal)=true:=by kernel_rfl
theorem aEE:mapsRowed Tryz.pinned.checked.prog=true:=by kernel_rfl
theorem jf:joinedFacts Tryz.pinned.checked.prog 7 Tryz.f7 (Rows.OpenSpec.upto Rows.meaningLinearSpec).bare Rows.meaningLinearUptoRow=true:=by unfold joinedFacts;simp only[Bool.and_eq_true];refine⟨⟨⟨⟨⟨⟨⟨⟨⟨⟨⟨⟨⟨⟨⟨⟨⟨⟨⟨⟨⟨⟨⟨⟨⟨⟨⟨⟨⟨⟨⟨?_,aHC⟩,aEE⟩,?_⟩,?_⟩,?_⟩,?_⟩,?_⟩,?_⟩,aAD⟩,aMK⟩,aQJ⟩,Yw⟩,?_⟩,?_⟩,?_⟩,?_⟩,?_⟩,?_⟩,?_⟩,?_⟩,?_⟩,?_⟩,?_⟩,Zu⟩,Yk⟩,Xz⟩,?_⟩,?_⟩,?_⟩,?_⟩,?_⟩ <;> kernel_rfl
open Go.PL in
theorem vX(hF:∀ (a0:List PL.bE) (a1:PL.aI) (a2:List PL.aC) (a3:List PL.aC) (a4:List PL.aC) (a5:List (List Int)),PL.okL 104 PL.eO a0->PL.mX a1->PL.okL 40 PL.cM a2->PL.okL 40 PL.cM a3->PL.okL 40 PL.cM a4->PL.okL 24 (PL.okL 8 PL.eR) a5->PL.Wd a0 a1 a2 a3 a4 a5=some true):Rows.MeaningLinearUptoSaid:=
 OpenClaim.holds_of_cond 7 Tryz.f7 rfl rfl rfl rfl rfl rfl rfl ⟨rfl,rfl,rfl,rfl,rfl⟩ rfl rfl rfl rfl rfl (by kernel_rfl) Tryz.func7 jf (of_decide_eq_true (by kernel_rfl)) (by unfold Func.isWrapper; first | (rw[if_pos (by decide +kernel)]; kernel_rfl) | (rw[if_neg (by decide +kernel)]; exact⟨rfl,rfl⟩))
  (fun os started H enc _ F=>by rw[OpenClaim.pre_eq_preRow]; exact uQ hF os started H enc F)
theorem tL(f:FuncId)(fn:Func)(hf:Tryz.pinned.checked.prog.funcNamed "errata/erratalaw21.MeaningLinear" = some f)(hfn:Tryz.pinned.checked.prog.funcs[f]? = some fn):
  true=Tryz.pinned.checked.prog.looks []/\∀ (j:Nat) t,fn.params[j]? = some t->Tryz.pinned.checked.prog.wantsStandIn t=false:=by
 obtain rfl:f=7:=Option.some.inj ((show Tryz.prog.funcNamed "errata/erratalaw21.MeaningLinear" = some 7 by kernel_rfl).symm.trans hf) |>.symm
 obtain rfl:fn=Tryz.f7:=(Option.some.inj (Tryz.func7.symm.trans hfn)).symm;refine⟨by kernel_rfl,fun j t ht=>?_⟩;rw[Tryz.params7]at ht;have hm:=Array.mem_of_getElem? ht;simp at hm;rcases hm with rfl | rfl | rfl | rfl
 ·exact(show Tryz.prog.wantsStandIn 22=false by kernel_rfl)
 ·exact(show Tryz.prog.wantsStandIn 29=false by kernel_rfl)
 ·exact(show Tryz.prog.wantsStandIn 37=false by kernel_rfl)
 ·exact(show Tryz.prog.wantsStandIn 55=false by kernel_rfl)
theorem aRM:Rows.meaningLinearUptoRow.wfByText (Rows.OpenSpec.upto Rows.meaningLinearSpec)=true:=by kernel_rfl
theorem aIA:Tryz.pinned.checked.prog.mainIs=some (Rows.meaningLinearUptoCard.stood.harness.1,Rows.meaningLinearUptoCard.stood.harness.2.toList):=by kernel_rfl
theorem aEV:false=Rows.meaningLinearUptoRow.goesBy Tryz.pinned.checked.prog:=by kernel_rfl
open Go.PL in
theorem tX(hF:∀ (a0:List PL.bE) (a1:PL.aI) (a2:List PL.aC) (a3:List PL.aC) (a4:List PL.aC) (a5:List (List Int)),PL.okL 104 PL.eO a0->PL.mX a1->PL.okL 40 PL.cM a2->PL.okL 40 PL.cM a3->PL.okL 40 PL.cM a4->PL.okL 24 (PL.okL 8 PL.eR) a5->PL.Wd a0 a1 a2 a3 a4 a5=some true):Rows.MeaningLinearUptoCardSaid:=
 Claim7.holds_tied_plain_at .later [] _ _ _ _ (vX hF) (fun _ h=>by cases h) aRM (fun _ h=>by cases h) meaningLinearUpto_row_tie rfl ⟨rfl,rfl⟩ aIA rfl tL aEV
end Go.Proofs.YtjefblkdnolgaaaGreatDoor
namespace Go.PL
open Go
set_option linter.unusedVariables false
set_option maxRecDepth 20000
theorem dV{S R:Type}{b:Bool}{bd:S->Option (S⊕R)}(idx:S->Int)(N:Nat)(hN:N<=1000000000000000)(I:S->Prop){Q:R->Prop}
  (h:∀ s (k:Nat),I s->idx s=k->k<=N->Sq b (bd s) (sel (fun s'=>idx s'=IntKind.i64.wrap ((k:Int)+1)/\k<N/\I s') Q)){s:S}(hs:I s)(h0:idx s=0):Sq b (cO bd s) Q:=by
 refine Sq.while (fun s=>I s/\∃ k:Nat,idx s=k/\k<=N) (fun s=>N-(idx s).toNat) (fun s hs=>?_) ⟨hs,0,h0,by omega⟩;obtain⟨hI,k,hk,hkN⟩:=hs;refine(h s k hI hk hkN).imp fun z hz=>?_;cases z with
 | inr r=>exact hz
 | inl s'=>obtain⟨q1,q2,q3⟩:=hz;rw[aP (by omega)]at q1;exact⟨⟨q3,k+1,q1,by omega⟩,by rw[q1,hk]; omega⟩
theorem dK.len{e:bL}(h:dK e):e.Args.length<=1048576:=by cases h; assumption
theorem dK.arg{e:bL}(h:dK e):∀ x,x∈e.Args->dK x:=by cases h; assumption
theorem uK{e x:bL}(h:x∈e.Args):SizeOf.sizeOf x<SizeOf.sizeOf e:=by
 cases e with
 | mk a b s l=>have:=List.sizeOf_lt_of_mem h;simp only[bL.Args]at this;simp only[bL.mk.sizeOf_spec];omega
theorem Oa(e:bL)(h:dK e):Sp (G79 e) (fun _=>True):=by
 refine kV (C:=fun (a:bL) (x:Option Int)=>Con Proofs.Tryz.prog 129 [.t (cZ a)] x (fun (y:Int)=>.t (.int .i64 (y)))) (fun a=>⟨bO Proofs.Tryz.func129 (by kernel_rfl),fun _ h=>nomatch h⟩) (fun rec a=>T79 rec a) (fun rec a=>aAO rec a)
  dK (fun e=>SizeOf.sizeOf e) (fun _ _=>True) (fun b f e he hrec=>?_) true e h
 have hl:=he.len;unfold T79;simp only[Tr.den,bQ];refine dV (fun s:Int×Int=>s.2) e.Args.length (by omega) (fun _=>True) (fun s k _ hk hkN=>?_) trivial rfl;obtain⟨v1,v2⟩:=s;simp only at hk;subst hk;unfold Xq;simp only[Tr.den,aX];by_cases hc:k<e.Args.length
 ·rw[aA (bV (by omega)),aA (by omega)];refine Sq.bind _ (hrec _ (he.arg _ (aT hc)) (uK (aT hc))) fun r _=>aB.2 ⟨rfl,hc,trivial⟩
 ·rw[aE (cD (by omega))];exact aB.2 (aB.2 trivial)
theorem Zq(e:bL)(h:dK e):Sp (G80 e) (fun _=>True):=by
 refine kV (C:=fun (a:bL) (x:Option Int)=>Con Proofs.Tryz.prog 130 [.t (cZ a)] x (fun (y:Int)=>.t (.int .i64 (y)))) (fun a=>⟨bO Proofs.Tryz.func130 (by kernel_rfl),fun _ h=>nomatch h⟩) (fun rec a=>T80 rec a) (fun rec a=>Nc rec a)
  dK (fun e=>SizeOf.sizeOf e) (fun _ _=>True) (fun b f e he hrec=>?_) true e h
 have hl:=he.len;unfold T80;simp only[Tr.den,bQ];refine dV (fun s:Int×Int=>s.2) e.Args.length (by omega) (fun _=>True) (fun s k _ hk hkN=>?_) trivial rfl;obtain⟨v1,v2⟩:=s;simp only at hk;subst hk;unfold Mq;simp only[Tr.den,aX];by_cases hc:k<e.Args.length
 ·rw[aA (bV (by omega)),aA (by omega)];refine Sq.bind _ (hrec _ (he.arg _ (aT hc)) (uK (aT hc))) fun r _=>aB.2 ⟨rfl,hc,trivial⟩
 ·rw[aE (cD (by omega))];exact aB.2 (aB.2 trivial)
theorem Pt(fs:List Int)(e:bL)(hf:fs.length<=1100000)(h:dK e):Sp (aRZ fs e) (fun _=>True):=by
 refine kV (C:=fun (a:(List Int)×bL) (x:Option Int)=>Con Proofs.Tryz.prog 211 [.t (eL bM (a.1)),.t (cZ a.2)] x (fun (y:Int)=>.t (.int .i64 (y)))) (fun a=>⟨bO Proofs.Tryz.func211 (by kernel_rfl),fun _ h=>nomatch h⟩) (fun rec a=>aAK rec a.1 a.2) (fun rec a=>Rs rec a.1 a.2)
  (fun a=>a.1.length<=1100000/\dK a.2) (fun a=>SizeOf.sizeOf a.2) (fun _ _=>True) (fun b f a ha hrec=>?_) true (fs,e) ⟨hf,h⟩
 obtain⟨fs,e⟩:=a;obtain⟨hf,he⟩:=ha;simp only at hf he hrec ⊢;have hl:=he.len;unfold aAK;simp only[Tr.den,bQ];refine dV (fun s:List Int×Int=>s.2) e.Args.length (by omega) (fun s=>s.1.length=s.2.toNat) (fun s k hI hk hkN=>?_) rfl rfl;obtain⟨v1,v2⟩:=s;simp only at hk hI;subst hk;unfold Pr;simp only[Tr.den,aX]at hI ⊢;by_cases hc:k<e.Args.length
 ·rw[aA (bV (by omega)),aA (by omega)];refine Sq.bind _ (hrec (fs,e.Args.getD k default) ⟨hf,he.arg _ (aT hc)⟩ (uK (aT hc))) fun r _=>?_;rw[aA (by simp only[dO,eS]; omega)];refine aB.2 ⟨rfl,hc,?_⟩;rw[aP (by omega)]; simp; omega
 ·rw[aE (cD (by omega))];refine aB.2 ?_;simp only[sel];have hv:v1.length=e.Args.length:=by omega
  have rest:Sq b ((cO (fun s=>(Hj s).den) (1,v1,0)).bind (sel (fun b10=>((if (e.Op==22)=true then (if decide (e.N>=0)=true then some (decide (e.N<(fs.length:Int))) else some false) else some false)).bind fun j11=>
    ((if j11=true then (if 0<=e.N/\e.N<(fs.length:Int) then some (if (1099511627776:Int)<IntKind.i64.wrap (b10+fs.getD e.N.toNat default) then (1099511627776:Int) else IntKind.i64.wrap (b10+fs.getD e.N.toNat default)) else none) else some b10)).bind fun j12=>some j12) some)) (fun _=>True):=by
   rw[bQ];refine dV (fun s:Int×List Int×Int=>s.2.2) v1.length (by omega) (fun s=>s.2.1=v1) (fun s k hI hk hkN=>?_) rfl rfl;obtain⟨w1,w2,w3⟩:=s;simp only at hk hI;subst hk hI;unfold Hj;simp only[Tr.den,aX];by_cases hc:k<w2.length
   ·rw[aA (bV (by omega)),aA (by omega),aA hc];exact aB.2 ⟨rfl,hc,rfl⟩
   ·rw[aE (cD (by omega))];refine aB.2 ?_;simp only[sel,nC];by_cases h22:(e.Op==22)=true
    ·rw[aA h22];simp only[aK];by_cases hr:e.N>=0/\e.N<(fs.length:Int)
     ·rw[aA (bV hr),aA hr]; exact aB.2 trivial
     ·rw[aE (cD hr)]; exact aB.2 trivial
    ·rw[aE h22]; exact aB.2 trivial
  by_cases h21:(e.Op==21)=true
  ·rw[aA h21];simp only[aK];by_cases h3:((v1.length:Int)==3)=true
   ·rw[aA h3];have h3':v1.length=3:=by have:=iU.1 h3; omega
    rw[aA (by omega),aA (by simp; omega),aA (by omega),aA (by simp; omega),aA (by omega),aA (by simp; omega)];exact aB.2 trivial
   ·rw[aE h3]; exact rest
  ·rw[aE h21];simp only[aK,dS,dQ];exact rest
theorem okEs.get{l:List bL}(h:okL 56 dK l){k:Nat}(hk:k<l.length):dK (l.getD k default):=h.2 _ (aT hk)
end Go.PL
namespace Go.PL
open Go
set_option linter.unusedVariables false
set_option maxRecDepth 20000
variable {T X Y l o:List aC} {cs:List Int} {e:bL} {fs:List bE} {n:Nat} {t:Int} {x y:aC}
theorem aKD(a b c:Int):aOJ a b c=some (decide (b<=a/\a<=c)):=by unfold aOJ aOM;simp only[Tr.den,nC,aK]
theorem yD(l types:List Int)(h:l.length<=1048576):Sp (G88 l types) (fun r=>r=true->∀ c,c∈l->0<=c/\c<types.length):=by
 unfold G88 T88;simp only[Tr.den,bQ];refine dV (fun s:Int=>s) l.length (by omega) (fun s=>∀ c,c∈l.take s.toNat->0<=c/\c<types.length) (fun s k hI hk hkN=>?_) (by simp) rfl;subst hk;unfold aCB;simp only[Tr.den,aX]at hI ⊢;by_cases hc:k<l.length
 ·rw[aA (bV (by omega)),aA (by omega)];by_cases h1:l.getD k default<0
  ·rw[aA (bV h1)];exact aB.2 (aB.2 fun h=>by cases h)
  ·rw[aE (cD h1),aA (by omega)];simp only[aK];by_cases h2:l.getD k default>=types.length
   ·rw[aA (bV h2)];exact aB.2 (aB.2 fun h=>by cases h)
   ·rw[aE (cD h2)];refine aB.2 ⟨rfl,hc,fun c hcm=>?_⟩;rw[aP (by omega),aX,aO hc,dA,bW]at hcm;rcases hcm with hcm | rfl
    ·exact hI c hcm
    ·omega
 ·rw[aE (cD (by omega))];refine aB.2 (aB.2 fun _=>?_)
  rwa [lL (by omega)]at hI
theorem cM.okd(h:okL 40 cM l):okD l:=⟨fun d hd=>by have:=(h.2 d hd).2.1.1;unfold okR; omega,fun d hd=>(h.2 d hd).2.2⟩
theorem tE{n:aI}{i:Int}{k:ByteArray}:x∈ofK n i k l↔x∈l/\kd n i x=k:=by unfold ofK;rw[jR,kN]
theorem uN{n:aI}{k:ByteArray}:k∈bF (cQ n 0 l)↔ofK n 0 k l≠[]:=by
 rw[Bx,rI];constructor
 ·rintro⟨c,hc⟩ h0;rw[aA h0]at hc; cases hc
 ·intro h0;exact⟨_,aE h0⟩
def Bz(n:aI)(row:List aF):List aF:=n.Key.map fun c=>row.getD c.toNat default
theorem Kg(n:aI)(row:List aF):(Bz n row).length=n.Key.length:=bY _
noncomputable def evV (fs:List bE)(e:bL)(d:aC):aF:=(Ek fs e d.Time d.Row).getD default
theorem dK.bnd(h:dK e):tJ e:=by
 induction h with
 | mk0 ha hb hs hn hl ih=>exact .mk hs hn (fun i hi=>ih _ (aT hi))
theorem Ab(h:okL n eO fs):fs.length<=1048576/\∀ i,i<fs.length->tJ (fs.getD i default).Body/\(fs.getD i default).Params.length<=1048576:=
 ⟨h.1,fun i hi=>by have h1:=h.2 _ (aT hi);exact⟨h1.2.2.2.bnd,h1.2.1.1⟩⟩
theorem aFK(hf:okL n eO fs)(h:G82 fs=some true)(he:dK e)(ht:pB fs cs [] e=some (t,true))
  (tm:Int){row:List aF}(hr:row.length=cs.length)(hs:∀ v,v∈row->Sm v):Sp (Ek fs e tm row) Sm:=by
 obtain⟨hl,hb⟩:=Ab hf;obtain⟨k,hk⟩:=Uz hl hb h he.bnd ht;unfold Ek aDP;simp only[Tr.den];exact Sq.bind _ (aEG fs cs.length 0 k _ e ⟨rfl,hr,rfl,hs,fun v hv=>by cases hv⟩ hk) fun v hv=>aB.2 hv
theorem aKS{a b:Int}:W a=W b↔∃ k:Int,a=b+k*18446744073709551616:=by
 show IntKind.i64.wrap a=IntKind.i64.wrap b↔_;rw[oF,oF];constructor
 ·intro h;exact⟨(a+9223372036854775808) / 18446744073709551616-(b+9223372036854775808) / 18446744073709551616,by omega⟩
 ·rintro⟨k,rfl⟩; omega
theorem Yo{a b:Int}(c:Int)(h:W a=W b):W (a*c)=W (b*c):=by obtain⟨k,rfl⟩:=aKS.1 h;exact aKS.2 ⟨k*c,by rw[Int.add_mul,Int.mul_assoc,Int.mul_assoc,rP 18446744073709551616 c]⟩
theorem W_W(a:Int):W (W a)=W a:=Tx a
def wc(c:Pl->Int):List aC->Int
 | []=>0
 | x::l=>x.N*c (pl x)+wc c l
theorem aQO(c:Pl->Int)(l r:List aC):wc c (l++r)=wc c l+wc c r:=by
 induction l with
 | nil=>simp[wc]
 | cons x l ih=>simp only[wR,wc,ih]; omega
theorem Py(d:aC)(c:Pl->Int):∀ l,W (wc c (mJ d l))=W (wc c (d::l))
 | []=>by
  simp only[mJ,wc];by_cases h:d.N=0
  ·rw[aA h,h]; simp[wc]
  ·rw[aE h]; rfl
 | x::l=>by
  simp only[mJ];by_cases h1:dD d x<0
  ·rw[aA h1];by_cases h:d.N=0
   ·rw[aA h]; simp only[wc,h]; congr 1; simp
   ·rw[aE h]
  ·rw[aE h1];by_cases h2:dD d x=0
   ·rw[aA h2];have hp:=iS.1 h2;have e:wc c (d::x::l)=(x.N+d.N)*c (pl x)+wc c l:=by simp only[wc,hp,Int.add_mul]; omega
    rw[e];by_cases h3:W (x.N+d.N)=0
    ·rw[aA h3];have h0:W (x.N+d.N)=W 0:=by rw[h3]; rfl
     have:=iH (Yo (c (pl x)) h0) (rfl:W (wc c l)=W (wc c l));rw[this]; simp
    ·rw[aE h3];simp only[wc];rw[show pl (⟨x.Time,x.Row,W (x.N+d.N)⟩:aC)=pl x from rfl];exact iH (Yo (c (pl x)) (W_W (x.N+d.N))) rfl
   ·rw[aE h2];have ih:=Py d c l;have:W (wc c (x::mJ d l))=W (wc c (x::d::l)):=by simp only[wc]at ih ⊢;exact iH rfl ih
    rw[this];simp only[wc]; congr 1; omega
theorem Hy(c:Pl->Int)(l:List aC):W (wc c (PL.cons l))=W (wc c l):=by
 induction l with
 | nil=>rfl
 | cons x l ih=>rw[show PL.cons (x::l)=mJ x (PL.cons l) from rfl,Py];simp only[wc];exact iH rfl ih
def cJ(n:aI)(i:Int)(R:List aC)(p:Pl->Bool)(q:Pl):Int:=wt p (qN n i R ⟨q.1,q.2,1⟩)
theorem aCR(n:aI)(i:Int)(p:Pl->Bool)(a:aC)(R:List aC):W (wt p (qN n i R a))=W (a.N*cJ n i R p (pl a)):=by
 unfold cJ qN;show W (wt p ((fV R (if i=1 then a.Time-n.After else a.Time-n.Before) (if i=1 then a.Time+n.Before else a.Time+n.After)).map (iK i a))) =
  W (a.N*wt p ((fV R (if i=1 then a.Time-n.After else a.Time-n.Before) (if i=1 then a.Time+n.Before else a.Time+n.After)).map (iK i ⟨a.Time,a.Row,1⟩)))
 generalize fV R (if i=1 then a.Time-n.After else a.Time-n.Before) (if i=1 then a.Time+n.Before else a.Time+n.After)=L
 induction L with
 | nil=>simp[wt]
 | cons b L ih=>
  simp only[gH,wt];have hpl:pl (iK i ⟨a.Time,a.Row,1⟩ b)=pl (iK i a b):=by unfold iK mZ; split <;> rfl
  have hN:(iK i a b).N=W (a.N*b.N):=by unfold iK mZ; split <;> rfl
  have hN1:(iK i ⟨a.Time,a.Row,1⟩ b).N=W (1*b.N):=by unfold iK mZ; split <;> rfl
  rw[hpl,hN,hN1,Int.mul_add];refine iH ?_ ih;by_cases hp:p (pl (iK i a b))=true
  ·rw[aA hp,aA hp,W_W,Int.one_mul];have:=Yo a.N (W_W b.N);rw[rP a.N (W b.N),this,rP]
  ·rw[aE hp,aE hp,Int.mul_zero]
def cA(n:aI)(R:List aC)(p:Pl->Bool)(q:Pl):Int:=wt p (zI n R ⟨q.1,q.2,1⟩)
theorem Xo(n:aI)(p:Pl->Bool)(a:aC)(R:List aC):wt p (zI n R a)=a.N*cA n R p (pl a):=by
 unfold cA zI;show wt p (if fV R (a.Time-n.Keep+1) a.Time=[] then [] else [mZ a ((fV R (a.Time-n.Keep+1) a.Time).getD ((fV R (a.Time-n.Keep+1) a.Time).length-1) default) a.Time a.N]) =
  a.N*wt p (if fV R (a.Time-n.Keep+1) a.Time=[] then [] else [mZ ⟨a.Time,a.Row,1⟩ ((fV R (a.Time-n.Keep+1) a.Time).getD ((fV R (a.Time-n.Keep+1) a.Time).length-1) default) a.Time 1])
 split
 ·simp[wt]
 ·simp only[wt,Int.add_zero];show (if p (a.Time,a.Row++_)=true then a.N else 0)=a.N*(if p (a.Time,a.Row++_)=true then 1 else 0);split <;> simp
def wL(n:aI)(R:List aC)(a:aC):List aC:=if n.Op=6 then qN n 0 R a else zI n R a
def xD(n:aI)(A B:List aC):List aC:=A.flatMap fun a=>wL n (ofK n 1 (kd n 0 a) B) a
theorem vN(a b:List aF)(ha:a.length<=1073741824)(hb:b.length<=1073741824):Lr a b=some (zT a b==0):=by unfold Lr aON;simp only[Tr.den];rw[To a b ha hb];rfl
structure MI (o X Y T:List aC):Prop where
 can:Can o
 lt:∀ x,x∈o->∀ y,y∈X++Y->dD x y<0
 same:jV (o++(X++Y)) T
 cx:Can X
 cy:Can Y
theorem Can.snoc(h:Can o)(h1:∀ y,y∈o->dD y x<0)(h2:x.N≠0)(h3:qC x.N):Can (o++[x]):=by
 refine⟨yC.2 ⟨h.lt,qZ _ _,fun y hy z hz=>?_⟩,fun y hy=>?_,fun y hy=>?_⟩
 ·rw[bW.1 hz]; exact h1 y hy
 ·rcases dA.1 hy with hy | hy
  ·exact h.nz y hy
  ·rw[bW.1 hy]; exact h2
 ·rcases dA.1 hy with hy | hy
  ·exact h.n64 y hy
  ·rw[bW.1 hy]; exact h3
theorem aAP(h:Can (y::Y))(hx:dD x y<0):∀ z,z∈y::Y->dD x z<0:=by
 intro z hz;rcases aS.1 hz with rfl | hz
 ·exact hx
 ·exact vV hx (h.head z hz)
theorem MI.left(h:MI o (x::X) Y T)(hy:∀ z,z∈Y->dD x z<0):MI (o++[x]) X Y T:=by
 refine⟨h.can.snoc (fun y hy'=>h.lt y hy' x (by simp)) (h.cx.nz x cH) (h.cx.n64 x cH),fun z hz w hw=>?_,?_,h.cx.tail,h.cy⟩
 ·rcases dA.1 hz with hz | hz
  ·exact h.lt z hz w (by rcases dA.1 hw with hw | hw <;> simp[hw])
  ·rw[bW.1 hz];rcases dA.1 hw with hw | hw
   ·exact h.cx.head w hw
   ·exact hy w hw
 ·have:=h.same;simpa using this
theorem MI.right(h:MI o X (y::Y) T)(hx:∀ z,z∈X->dD y z<0):MI (o++[y]) X Y T:=by
 refine⟨h.can.snoc (fun z hz=>h.lt z hz y (by simp)) (h.cy.nz y cH) (h.cy.n64 y cH),fun z hz w hw=>?_,?_,h.cx,h.cy.tail⟩
 ·rcases dA.1 hz with hz | hz
  ·exact h.lt z hz w (by rcases dA.1 hw with hw | hw <;> simp[hw])
  ·rw[bW.1 hz];rcases dA.1 hw with hw | hw
   ·exact hx w hw
   ·exact h.cy.head w hw
 ·refine jV.trans (.of_perm ?_) h.same;rw[dC];refine yA _ ?_;show (y::(X++Y)).Perm (X++y::Y);exact List.perm_middle.symm
theorem Qa(hp:pl x=pl y)(p:Pl->Bool):W (wt p (o++(x::X++y::Y)))=W (wt p o+(if p (pl y)=true then W (y.N+x.N) else 0)+wt p (X++Y)):=by
 rw[gQ,gQ,gQ];simp only[wt,hp];by_cases h:p (pl y)=true
 ·rw[aA h,aA h,aA h];have:=iH (iH (rfl:W (wt p o)=W (wt p o)) (W_W (y.N+x.N))) (rfl:W (wt p X+wt p Y)=W (wt p X+wt p Y));rw[this]; congr 1; omega
 ·rw[aE h,aE h,aE h]; congr 1; omega
theorem MI.both(h:MI o (x::X) (y::Y) T)(hp:pl x=pl y)(h0:W (y.N+x.N)≠0):MI (o++[⟨y.Time,y.Row,W (y.N+x.N)⟩]) X Y T:=by
 have e:∀ z:aC,dD (⟨y.Time,y.Row,W (y.N+x.N)⟩:aC) z=dD y z:=fun z=>rfl;have e':∀ z:aC,dD z (⟨y.Time,y.Row,W (y.N+x.N)⟩:aC)=dD z y:=fun z=>rfl;refine⟨h.can.snoc (fun z hz=>by rw[e']; exact h.lt z hz y (by simp)) h0 (aDQ _),fun z hz w hw=>?_,fun p=>?_,h.cx.tail,h.cy.tail⟩
 ·rcases dA.1 hz with hz | hz
  ·exact h.lt z hz w (by rcases dA.1 hw with hw | hw <;> simp[hw])
  ·rw[bW.1 hz,e];rcases dA.1 hw with hw | hw
   ·rw[<-lS hp rfl]; exact h.cx.head w hw
   ·exact h.cy.head w hw
 ·rw[<-h.same p,Qa hp,gQ,gQ];simp only[wt,Int.add_zero];rfl
theorem MI.both0(h:MI o (x::X) (y::Y) T)(hp:pl x=pl y)(h0:W (y.N+x.N)=0):MI o X Y T:=by refine⟨h.can,fun z hz w hw=>h.lt z hz w (by rcases dA.1 hw with hw | hw <;> simp[hw]),fun p=>?_,h.cx.tail,h.cy.tail⟩;rw[<-h.same p,Qa hp,gQ,h0];simp
theorem Can.drop{l:List aC}(h:Can l)(k:Nat):Can (l.drop k):=⟨h.lt.drop,fun x hx=>h.nz x (List.mem_of_mem_drop hx),fun x hx=>h.n64 x (List.mem_of_mem_drop hx)⟩
theorem Qm(a b:aC)(ha:okR a)(hb:okR b):aOR a b=some (dD a b):=by
 unfold aOR aMR;simp only[Tr.den];rw[To _ _ ha hb];unfold dD fQ uJ;by_cases h1:a.Time<b.Time
 ·rw[aA (bV h1),aA h1,aE (by omega)]
 ·rw[aE (cD h1),aE h1];by_cases h2:b.Time<a.Time
  ·rw[aA (bV h2),aA h2,aE (by omega)]
  ·rw[aE (cD h2),aE h2,aA rfl]; rfl
theorem aDC(a b:List aC)(ha:Can a)(hb:Can b)(oa:iY a)(ob:iY b)(hn:a.length+b.length<=1000000000000):
  Sp (cO (fun s=>(Is a b s).den) (([]:List aC),0,0)) (sel (fun r=>Can r/\jV r (a++b)) (fun _=>False)):=by
 refine Sq.while (fun s:List aC×Int×Int=>∃ i k:Nat,s.2.1=i/\s.2.2=k/\i<=a.length/\k<=b.length/\MI s.1 (a.drop i) (b.drop k) (a++b)/\s.1.length<=i+k) (fun s=>(a.length-s.2.1).toNat+(b.length-s.2.2).toNat) (fun s hs=>?_)
  ⟨0,0,rfl,rfl,by omega,by omega,⟨.nil,by simp,by simpa using jV.refl _,ha,hb⟩,by simp⟩
 obtain⟨o,i,k⟩:=s;obtain⟨i,k,e1,e2,h1,h2,hM,hlen⟩:=hs;simp only at e1 e2 hM hlen;subst e1 e2;unfold Is;simp only[Tr.den,aX];have w1:k<b.length->(if IntKind.i64.wrap ((b.length:Int)-1)<(k:Int) then IntKind.i64.wrap ((b.length:Int)-1) else (k:Int))=(k:Int):=by intro hk;rw[bT (by omega) (by omega),aE (by omega)]
 have left:i<a.length->(∀ z,z∈b.drop k->dD (a.getD i default) z<0)->∀ c:Int,c<0->∀ f:Option (List aC×Int×Int),
   Sp ((if decide (c<0)=true then if 0<=(i:Int)/\(i:Int)<(a.length:Int) then if (o.length+[a.getD i default].length)*40<=140737488355328 then some (o++[a.getD i default],IntKind.i64.wrap ((i:Int)+1),(k:Int)) else none else none else f).bind fun v=>some (Sum.inl (v.1,v.2.1,v.2.2)))
    (sel (fun s':List aC×Int×Int=>(∃ i k:Nat,s'.2.1=i/\s'.2.2=k/\i<=a.length/\k<=b.length/\MI s'.1 (a.drop i) (b.drop k) (a++b)/\s'.1.length<=i+k)/\(a.length-s'.2.1).toNat+(b.length-s'.2.2).toNat<(a.length-(i:Int)).toNat+(b.length-(k:Int)).toNat) (sel (fun r:List aC=>Can r/\jV r (a++b)) (fun _:List aC=>False))):=by
  intro hi hlt c hc f;rw[aA (bV hc),aA (by omega),aA (by simp only[dO,eS]; omega),aP (by omega)];rw[cV hi]at hM;exact aB.2 ⟨⟨i+1,k,rfl,rfl,by omega,h2,hM.left hlt,by simp only[bU,dO,eS]; omega⟩,by simp only; omega⟩
 have right:k<b.length->(∀ z,z∈a.drop i->dD (b.getD k default) z<0)->∀ c:Int,0<c->∀ f:Option (List aC×Int×Int),
   Sp ((if decide (c<0)=true then f else
       if 0<=(if IntKind.i64.wrap ((b.length:Int)-1)<(k:Int) then IntKind.i64.wrap ((b.length:Int)-1) else (k:Int))/\(if IntKind.i64.wrap ((b.length:Int)-1)<(k:Int) then IntKind.i64.wrap ((b.length:Int)-1) else (k:Int))<(b.length:Int) then
        (if (c==0)=true then if 0<=(i:Int)/\(i:Int)<(a.length:Int) then some (IntKind.i64.wrap ((b.getD (if IntKind.i64.wrap ((b.length:Int)-1)<(k:Int) then IntKind.i64.wrap ((b.length:Int)-1) else (k:Int)).toNat default).N+(a.getD i default).N),o,IntKind.i64.wrap ((i:Int)+1)) else none
         else some ((b.getD (if IntKind.i64.wrap ((b.length:Int)-1)<(k:Int) then IntKind.i64.wrap ((b.length:Int)-1) else (k:Int)).toNat default).N,o,(i:Int))).bind fun v=>
         (if (v.1 != 0)=true then if (v.2.1.length+[(⟨(b.getD (if IntKind.i64.wrap ((b.length:Int)-1)<(k:Int) then IntKind.i64.wrap ((b.length:Int)-1) else (k:Int)).toNat default).Time,(b.getD (if IntKind.i64.wrap ((b.length:Int)-1)<(k:Int) then IntKind.i64.wrap ((b.length:Int)-1) else (k:Int)).toNat default).Row,v.1⟩:aC)].length)*40<=140737488355328 then
           some (v.2.1++[(⟨(b.getD (if IntKind.i64.wrap ((b.length:Int)-1)<(k:Int) then IntKind.i64.wrap ((b.length:Int)-1) else (k:Int)).toNat default).Time,(b.getD (if IntKind.i64.wrap ((b.length:Int)-1)<(k:Int) then IntKind.i64.wrap ((b.length:Int)-1) else (k:Int)).toNat default).Row,v.1⟩:aC)]) else none
          else some v.2.1).bind fun v_1=>some (v_1,v.2.2,IntKind.i64.wrap ((k:Int)+1))
       else none).bind fun v=>some (Sum.inl (v.1,v.2.1,v.2.2)))
    (sel (fun s':List aC×Int×Int=>(∃ i k:Nat,s'.2.1=i/\s'.2.2=k/\i<=a.length/\k<=b.length/\MI s'.1 (a.drop i) (b.drop k) (a++b)/\s'.1.length<=i+k)/\(a.length-s'.2.1).toNat+(b.length-s'.2.2).toNat<(a.length-(i:Int)).toNat+(b.length-(k:Int)).toNat) (sel (fun r:List aC=>Can r/\jV r (a++b)) (fun _:List aC=>False))):=by
  intro hk hlt c hc f;rw[aE (cD (by omega)),w1 hk,aA (by omega),aE (eG (by omega))];simp only[aK,aX];rw[cV hk]at hM;rw[aA (Jc (hM.cy.nz _ cH)),aA (by simp only[dO,eS]; omega),aP (by omega)];simp only[aK];exact aB.2 ⟨⟨i,k+1,rfl,rfl,h1,by omega,hM.right hlt,by simp only[bU,dO,eS]; omega⟩,by simp only; omega⟩
 by_cases hi:i<a.length
 ·rw[aA (bV (show (i:Int)<a.length by omega))];simp only[aK,gK];rw[aE (cD (show ¬ (i:Int)>=a.length by omega))];by_cases hk:k<b.length
  ·rw[aE (cD (show ¬ (k:Int)>=b.length by omega)),aA (by omega),aA (by omega),Qm _ _ (oa.get i) (ob.get k)];simp only[aK];have hX:=cV hi;have hY:=cV hk;have cX:=ha.drop i;have cY:=hb.drop k;by_cases c1:dD (a.getD i default) (b.getD k default)<0
   ·exact left hi (by rw[hY]at cY ⊢; exact aAP cY c1) _ c1 _
   ·by_cases c2:dD (a.getD i default) (b.getD k default)=0
    ·have hp:=iS.1 c2;rw[aE (cD c1),w1 hk,aA (by omega),aA (fL c2),aA (by omega)];simp only[aK,aX];rw[hX,hY]at hM;by_cases h0:W ((b.getD k default).N+(a.getD i default).N)=0
     ·rw[aE (Ml h0)];simp only[aK];rw[aP (by omega),aP (by omega)];exact aB.2 ⟨⟨i+1,k+1,rfl,rfl,by omega,by omega,hM.both0 hp h0,by simp only; omega⟩,by simp only; omega⟩
     ·rw[aA (Jc h0),aA (by simp only[dO,eS]; omega)];simp only[aK];rw[aP (by omega),aP (by omega)];exact aB.2 ⟨⟨i+1,k+1,rfl,rfl,by omega,by omega,hM.both hp h0,by simp only[bU,dO,eS]; omega⟩,by simp only; omega⟩
    ·have c3:0<dD (a.getD i default) (b.getD k default):=by omega
     exact right hk (by rw[hX]at cX ⊢; exact aAP cX (wH.1 c3)) _ c3 _
  ·rw[aA (bV (show (k:Int)>=b.length by omega))];simp only[aK];exact left hi (by rw[kL (show b.length<=k by omega)]; simp) (-1) (by omega) _
 ·rw[aE (cD (show ¬ (i:Int)<a.length by omega))];simp only[aK];by_cases hk:k<b.length
  ·rw[aA (bV (show (k:Int)<b.length by omega)),aA (bV (show (i:Int)>=a.length by omega))];simp only[aK];exact right hk (by rw[kL (show a.length<=i by omega)]; simp) 1 (by omega) _
  ·rw[aE (cD (show ¬ (k:Int)<b.length by omega))];refine aB.2 ⟨hM.can,?_⟩;have:=hM.same;rw[kL (show a.length<=i by omega),kL (show b.length<=k by omega)]at this;simpa using this
theorem oS(l:List aC)(ho:okD l)(hn:l.length<=1000000000000):aIS l=some (PL.cons l):=by
 refine Sp.eq ?_;refine kV (C:=fun (a:List aC) (x:Option (List aC))=>Con Proofs.Tryz.prog 37 [.t (eL aG (a))] x (fun (y:List aC)=>.t (eL aG (y)))) (fun a=>⟨bO Proofs.Tryz.func37 (by kernel_rfl),fun _ h=>nomatch h⟩) (fun rec a=>aBI rec a) (fun rec a=>Sf rec a)
  (fun l=>okD l/\l.length<=1000000000000) (fun l=>l.length) (fun l d=>d=PL.cons l) (fun b f l hl hrec=>?_) true l ⟨ho,hn⟩
 obtain⟨ho,hn⟩:=hl;unfold aBI;simp only[Tr.den];by_cases h0:l.length=0
 ·rw[aA (fL (by omega))];simp only[aK,gK];rw[rN h0];exact aB.2 rfl
 rw[aE (eG (by omega))];by_cases hl1:l.length=1
 ·obtain⟨x,rfl⟩:=Fk.1 hl1;have e1:(([x]:List aC).length:Int)=1:=rfl;have e2:([x]:List aC).getD (0:Int).toNat default=x:=rfl;rw[aA (fL e1),aA (by omega),e2];simp only[aK];have hc:PL.cons [x]=if x.N=0 then [] else [x]:=rfl
  rw[hc];by_cases hz:x.N=0
  ·rw[aA (fL hz),aA hz]; exact aB.2 rfl
  ·have hr:x.Row.length<=1073741824:=ho.r x cH;rw[aE (eG hz),aA (fL e1),aA (by omega),aA (by omega),aA (by omega),aA (by omega),aE hz]; exact aB.2 rfl
 rw[aE (eG (by omega))];simp only[aK,dS,dQ];have w1:IntKind.i64.wrap (Int.tdiv (l.length:Int) 2)=((l.length / 2:Nat):Int):=by rw[show Int.tdiv (l.length:Int) 2=((l.length / 2:Nat):Int) from rfl];rw[Lg (by omega)]
 rw[aE (eG (by omega)),w1];have e1:(l.drop (0:Int).toNat).take (((l.length / 2:Nat):Int)-0).toNat=l.take (l.length / 2):=by rw[Int.toNat_zero,List.drop_zero,Int.sub_zero,aX]
 have e2:(l.drop ((l.length / 2:Nat):Int).toNat).take ((l.length:Int)-((l.length / 2:Nat):Int)).toNat=l.drop (l.length / 2):=by rw[aX]; exact lL (by simp only[fA]; omega)
 have o1:okD (l.take (l.length / 2)):=ho.sub fun x hx=>Hu hx;have o2:okD (l.drop (l.length / 2)):=ho.sub fun x hx=>List.mem_of_mem_drop hx;rw[aA (by omega),e1];refine Sq.bind _ (hrec _ ⟨o1,by simp; omega⟩ (by simp; omega)) (fun r1 h1=>?_);rw[aA (by omega),e2];refine Sq.bind _ (hrec _ ⟨o2,by simp; omega⟩ (by simp; omega)) (fun r2 h2'=>?_);subst h1 h2';have l1:=kF (l.take (l.length / 2));have l2:=kF (l.drop (l.length / 2));simp only[cG,fA]at l1 l2;obtain⟨z,hz1,hz2⟩:=(aDC _ _ (gJ o1.n) (gJ o2.n) o1.cons.r o2.cons.r (by omega)).get;rw[hz1];cases z with
 | inr z=>exact hz2.elim
 | inl z=>refine aB.2 (Sc hz2.1 ho.n ?_).symm;refine hz2.2.trans (((eU _).app (eU _)).trans ?_);rw[iI];exact jV.refl _
theorem Qs(fs:List bE)(e:bL)(hl:okL 104 eO fs)(h:dK e):Sp (G81 fs e) (fun _=>True):=by
 have hl1:=hl.1;unfold G81 T81;simp only[Tr.den,bQ];refine dV (fun s:List Int×Int=>s.2) fs.length (by omega) (fun s=>s.1.length=s.2.toNat) (fun s k hI hk hkN=>?_) rfl rfl;obtain⟨v1,v2⟩:=s;simp only at hk hI;subst hk;simp only[aX]at hI;unfold Yx;simp only[Tr.den,aX];by_cases hc:k<fs.length
 ·rw[aA (bV (by omega)),aA (by omega)];refine Sq.bind _ (Sq.of (Pt v1 _ (by omega) (hl.2 _ (aT hc)).2.2.2)) fun r _=>?_;rw[aA (by simp only[dO,eS]; omega)];refine aB.2 ⟨rfl,hc,?_⟩;simp only;rw[aP (by omega)]; simp; omega
 ·rw[aE (cD (by omega))];refine aB.2 ?_;simp only[sel,bQ];exact(Sq.of (Pt v1 e (by omega) h)).imp fun _ _=>aB.2 trivial
theorem aFZ(fs:List bE)(n:aI)(hl:okL 104 eO fs)(h:mX n):Sp (G33 fs n) (fun r=>r=true->n.Key.length<=20/\n.Seq.length<=8):=by
 obtain⟨_,_,_,_,hE,_,_,_,_,_,_,_,_,_,hS,_⟩:=h;have hE1:=hE.1;have hS1:=hS.1;have hl1:=hl.1;unfold G33 T33;simp only[Tr.den,bQ];refine dV (fun s:Int=>s) fs.length (by omega) (fun _=>True) (fun s k _ hk hkN=>?_) trivial rfl;subst hk;unfold aAZ;simp only[Tr.den,aX,nC,aK];by_cases hc:((k:Int)<(fs.length:Int))/\(k:Int)<6
 ·rw[aA (bV hc),aA (by omega)];refine Sq.bind _ (Oa _ (hl.2 _ (aT (show k<fs.length by omega))).2.2.2) fun r _=>?_;refine Sq.bind (fun _=>True) ?_ (fun j _=>?_)
  ·by_cases h1:r>100
   ·rw[aA (bV h1)]; exact aB.2 trivial
   ·rw[aE (cD h1),aA (by omega)]; exact aB.2 trivial
  ·cases j with
   | true=>exact aB.2 (aB.2 fun h=>by cases h)
   | false=>exact aB.2 ⟨rfl,by omega,trivial⟩
 ·rw[aE (cD hc)];refine aB.2 ?_;simp only[sel,bQ];refine dV (fun s:Int=>s) n.Exprs.length (by omega) (fun _=>True) (fun s k _ hk hkN=>?_) trivial rfl;subst hk;unfold aBY;simp only[Tr.den,aX,nC,aK];by_cases hc:((k:Int)<(n.Exprs.length:Int))/\(k:Int)<13
  ·rw[aA (bV hc),aA (by omega)];have he:=okEs.get hE (show k<n.Exprs.length by omega);refine Sq.bind _ (Sq.of (Oa _ he)) fun r _=>?_;refine Sq.bind (fun _=>True) ?_ (fun j _=>?_)
   ·by_cases h1:r>200
    ·rw[aA (bV h1)]; exact aB.2 trivial
    ·rw[aE (cD h1),aA (by omega)];refine Sq.bind _ (Sq.of (Zq _ he)) fun r _=>?_;by_cases h2:r>12
     ·rw[aA (bV h2)]; exact aB.2 trivial
     ·rw[aE (cD h2),aA (by omega)];refine Sq.bind _ (Sq.of (Qs fs _ hl he)) fun r _=>aB.2 trivial
   ·cases j with
    | true=>exact aB.2 (aB.2 fun h=>by cases h)
    | false=>exact aB.2 ⟨rfl,by omega,trivial⟩
  ·rw[aE (cD hc)];refine aB.2 ?_;simp only[sel,bQ];refine dV (fun s:Int=>s) n.Seq.length (by omega) (fun _=>True) (fun s k _ hk hkN=>?_) trivial rfl;subst hk;unfold Zc;simp only[Tr.den,aX,nC,aK];by_cases hc:((k:Int)<(n.Seq.length:Int))/\(k:Int)<9
   ·rw[aA (bV hc),aA (by omega)];have he:=(hS.2 _ (aT (show k<n.Seq.length by omega))).1;refine Sq.bind _ (Sq.of (Oa _ he)) fun r _=>?_;refine Sq.bind (fun _=>True) ?_ (fun j _=>?_)
    ·by_cases h1:r>200
     ·rw[aA (bV h1)]; exact aB.2 trivial
     ·rw[aE (cD h1),aA (by omega)];refine Sq.bind _ (Sq.of (Zq _ he)) fun r _=>?_;by_cases h2:r>12
      ·rw[aA (bV h2)]; exact aB.2 trivial
      ·rw[aE (cD h2),aA (by omega)];refine Sq.bind _ (Sq.of (Qs fs _ hl he)) fun r _=>aB.2 trivial
    ·cases j with
     | true=>exact aB.2 (aB.2 fun h=>by cases h)
     | false=>exact aB.2 ⟨rfl,by omega,trivial⟩
   ·rw[aE (cD hc)];refine aB.2 ?_;simp only[sel];exact aB.2 fun h=>by have:=dW h; omega
theorem Sz(fs:List bE)(hl:okL 104 eO fs):Sp (G82 fs) (fun _=>True):=(aAY fs (Ab hl).1 (Ab hl).2).imp fun _ _=>trivial
theorem aDH(fs:List bE)(cs ps:List Int)(e:bL)(hl:okL 104 eO fs)(he:dK e):Sp (G86 fs cs ps e) (fun r=>r.2=true->pB fs cs ps e=some (r.1,true)):=by
 unfold G86 T86;simp only[Tr.den];refine Sq.bind _ (Sz fs hl) fun r _=>?_;split
 ·exact aB.2 fun h=>by cases h
 ·obtain⟨y,hy,_⟩:=(Db fs cs ps e he.bnd).get;rw[hy];simp only[aK];exact aB.2 fun h=>by rw[show (y.1,true)=y from Prod.ext rfl h.symm]
theorem aDF(fs:List bE)(e:bL)(cs:List Int)(hl:okL 104 eO fs)(he:dK e):Sp (G85 fs e cs) (fun r=>r=true->pB fs cs [] e=some (2,true)):=by
 unfold G85 T85;simp only[Tr.den];refine Sq.bind _ (aDH fs cs [] e hl he) fun r hr=>?_;refine Sq.bind (fun j:Bool=>j=true->r.2=true/\r.1=2) (bK (fun h=>aB.2 fun h2=>⟨h,iU.1 h2⟩) (fun _=>aB.2 fun h=>by cases h)) fun j hj=>aB.2 fun h=>by
  have h1:=hr (hj h).1
  rwa [(hj h).2]at h1
theorem sqf{α:Type}{x:Option α}{Q:α->Prop}:Sq false x Q↔∀ y,x=some y->Q y:=⟨fun h=>h.1,fun h=>⟨h,fun h'=>by cases h'⟩⟩
theorem jA{α:Type}{c:Prop}[Decidable c]{x:Option α}{Q:α->Prop}(h:c->Sq false x Q):Sq false (if c then x else none) Q:=by
 by_cases hc:c
 ·rw[aA hc]; exact h hc
 ·rw[aE hc]; exact sqf.2 fun y hy=>by cases hy
section
variable {P:Program} {A R:Type}
theorem Wi{C:A->Option R->Prop}(c0:∀ a,C a none)(B:{f:A->Option R // ∀ a,C a (f a)}->A->Tr P R)(ok:∀ f a,C a (B f a).den)(Q:A->R->Prop)
  (h:∀ f a,(∀ a',Sq false (f.1 a') (Q a'))->Sq false (B f a).den (Q a))(a:A):Sq false (tM c0 B ok a) (Q a):=by
 have h1:∀ k a,Sq false ((Un c0 B ok k).1 a) (Q a):=by
  intro k
  induction k with
  | zero=>intro a; exact sqf.2 fun y hy=>by cases hy
  | succ k ih=>intro a; exact h _ _ ih
 unfold tM Lim;split
 ·rename_i hh;obtain⟨k,hk⟩:=hh.choose_spec;exact aB.2 ((h1 k a).1 _ hk)
 ·exact sqf.2 fun y hy=>by cases hy
end
def TyV(t:Int)(v:aF):Prop:=v.Kind=t/\(t≠1->v.S.toList=(⟨#[]⟩:ByteArray).toList)/\(t=1->v.N=0)
theorem wF(n:Int):TyV 0 (vI n):=⟨rfl,fun _=>rfl,fun h=>by cases h⟩
theorem zB(b:Bool):TyV 2 (vB b):=⟨rfl,fun _=>rfl,fun h=>by cases h⟩
theorem Sb(s:ByteArray):TyV 1 (vT s):=⟨rfl,fun h=>absurd rfl h,fun _=>rfl⟩
def tyB(op:Int):Int:=if op<=12 then 0 else if op<=18 then 2 else 1
theorem aPU(op:Int)(a b:aF)(h:8<=op/\op<=19):TyV (tyB op) (bop op a b):=by
 have hs:op=8\/op=9\/op=10\/op=11\/op=12\/op=13\/op=14\/op=15\/op=16\/op=17\/op=18\/op=19:=by omega
 rcases hs with h | h | h | h | h | h | h | h | h | h | h | h
 all_goals subst h
 all_goals unfold bop
 ·exact wF _
 ·exact wF _
 ·exact wF _
 ·show TyV 0 (if b.N=0 then vI 0 else vI (IntKind.i64.wrap (Int.tdiv a.N b.N)));split <;> exact wF _
 ·show TyV 0 (if b.N=0 then vI 0 else vI (Int.tmod a.N b.N));split <;> exact wF _
 ·exact zB _
 ·exact zB _
 ·exact zB _
 ·exact zB _
 ·exact zB _
 ·exact zB _
 ·exact Sb _
theorem aGC(p:bX):Sq false (Wn p) (TyV 1):=by
 unfold Wn Zt;simp only[Tr.den]
 repeat' (first | exact aB.2 (Sb _) | (refine jA fun _=>?_) | (refine Sq.bind (fun _=>True) ?_ fun _ _=>?_) | (refine aB.2 ?_) | split)
 all_goals first | trivial | exact Sb _
inductive TyE (fs:List bE)(cs ps:List Int):bL->Int->Prop
 | mk {e:bL} {t:Int} (ts:List Int) (hl:ts.length=e.Args.length) (hb:e.Args.length<=1048576) (ho:0<=e.Op/\e.Op<=22)
   (hA:∀ i,i<e.Args.length->TyE fs cs ps (e.Args.getD i default) (ts.getD i default))
   (o0:e.Op=0\/e.Op=5\/e.Op=7\/e.Op=20->t=0) (o1:e.Op=1->t=1) (o2:e.Op=2\/e.Op=6->t=2) (ob:8<=e.Op/\e.Op<=19->2<=e.Args.length/\t=tyB e.Op)
   (o3:e.Op=3->(0<=e.N/\e.N<cs.length)/\t=cs.getD e.N.toNat default) (o4:e.Op=4->(0<=e.N/\e.N<ps.length)/\t=ps.getD e.N.toNat default)
   (o21:e.Op=21->(3<=e.Args.length)/\ts.getD 1 default=t/\ts.getD 2 default=t)
   (o22:e.Op=22->(0<=e.N/\e.N<fs.length)/\ts=(fs.getD e.N.toNat default).Params/\t=(fs.getD e.N.toNat default).Result)
   (oc:13<=e.Op/\e.Op<=16->ts.getD 0 default=ts.getD 1 default):TyE fs cs ps e t
def TyR(ts:List Int)(row:List aF):Prop:=∀ i,i<ts.length->TyV (ts.getD i default) (row.getD i default)
def aMC(fs:List bE):Prop:=∀ i,i<fs.length->TyE fs [] (fs.getD i default).Params (fs.getD i default).Body (fs.getD i default).Result
theorem aKM(f:fP)(e:bL):Sq false (aOQ f e) (fun v=>∀ cs ps t,TyR cs f.row_->TyR ps f.params_->aMC f.funcs_->TyE f.funcs_ cs ps e t->TyV t v):=by
 refine Wi (C:=fun (a:fP×bL) (x:Option (aF))=>Con Proofs.Tryz.prog 171 [.t (iM a.1),.t (cZ a.2)] x (fun (y:aF)=>.t (cK y))) (fun a=>⟨bO Proofs.Tryz.func171 (by kernel_rfl),fun _ h=>nomatch h⟩) (fun rec a=>Pe rec a.1 a.2) (fun rec a=>Gx rec a.1 a.2)
  (fun a v=>∀ cs ps t,TyR cs a.1.row_->TyR ps a.1.params_->aMC a.1.funcs_->TyE a.1.funcs_ cs ps a.2 t->TyV t v) (fun r a hrec=>?_) (f,e)
 clear f e;obtain⟨f,e⟩:=a;simp only at hrec ⊢;refine sqf.2 fun y hy cs ps t hrow hpar hfs he=>?_;revert y;refine sqf.1 ?_;cases he with
 | mk ts hl hb ho hA o0 o1 o2 ob o3 o4 o21 o22 oc=>
 have hr:∀ i,i<e.Args.length->Sq false (r.1 (f,e.Args.getD i default)) (TyV (ts.getD i default)):=fun i hi=>(hrec (f,e.Args.getD i default)).imp fun v hv=>hv cs ps _ hrow hpar hfs (hA i hi);unfold Pe;by_cases h21:e.Op=21
 ·obtain⟨hl3,e1,e2⟩:=o21 h21;simp only[h21,Tr.den];rw[aA (by decide),aA (by omega)];refine Sq.bind _ (hr 0 (by omega)) fun v1 _=>?_;split
  ·rw[aA (by omega)];refine Sq.bind _ (hr 1 (by omega)) fun v2 h2=>aB.2 (e1▸h2)
  ·rw[aA (by omega)];refine Sq.bind _ (hr 2 (by omega)) fun v2 h2=>aB.2 (e2▸h2)
 ·simp only[Tr.den];rw[aE (by simpa using h21)];refine bQ.2 (lR (fun s:List aF×Int=>s.2) e.Args.length (by omega) (fun s=>(s.1.length:Int)=s.2/\∀ i:Nat,(i:Int)<s.2->TyV (ts.getD i default) (s.1.getD i default)) (fun s k hI hk hkN=>?_) ⟨rfl,fun i hi=>absurd hi (by show ¬ ((i:Int)<0); omega)⟩ rfl);obtain⟨b6,v5⟩:=s;obtain⟨hbl,hbs⟩:=hI;simp only at hk hbl hbs;subst hk;unfold Id;simp only[Tr.den,aX];by_cases hc:k<e.Args.length
  ·rw[aA (bV (by omega)),aA (by omega)];refine Sq.bind _ (hr k hc) fun v hv=>?_;refine jA fun _=>?_;refine aB.2 ⟨rfl,hc,?_,fun i hi=>?_⟩
   ·simp only[bU,eI]; rw[aP (by omega)]; omega
   ·simp only at hi;rw[aP (by omega)]at hi;simp only;rw[bI];by_cases hik:i<b6.length
    ·rw[aA hik]; exact hbs i (by omega)
    ·rw[aE hik];obtain rfl:i=k:=by omega
     rw[show i-b6.length=0 by omega]; exact hv
  ·rw[aE (cD (by omega))];refine aB.2 ?_;have hbe:b6.length=e.Args.length:=by omega
   show Sq false _ (TyV t);simp only[sel];have z0:(0:Int).toNat=0:=rfl;have z1:(1:Int).toNat=1:=rfl;have hop:e.Op=0\/e.Op=1\/e.Op=2\/e.Op=3\/e.Op=4\/e.Op=5\/e.Op=6\/e.Op=7\/e.Op=20\/e.Op=22\/(8<=e.Op/\e.Op<=19):=by omega
   rcases hop with h | h | h | h | h | h | h | h | h | h | h
   ·rw[aA (by rw[h]; rfl),gF]; exact aB.2 (o0 (by omega)▸wF _)
   ·simp (decide:=true) only[h,↓reduceIte];rw[o1 h]; exact aB.2 (Sb _)
   ·simp (decide:=true) only[h,↓reduceIte,iL];exact aB.2 (o2 (by omega)▸zB _)
   ·obtain⟨h3,e3⟩:=o3 h;simp (decide:=true) only[h,↓reduceIte];refine jA fun _=>aB.2 ?_;rw[e3]; exact hrow _ (by omega)
   ·obtain⟨h3,e3⟩:=o4 h;simp (decide:=true) only[h,↓reduceIte];refine jA fun _=>aB.2 ?_;rw[e3]; exact hpar _ (by omega)
   ·simp (decide:=true) only[h,↓reduceIte,gF];exact aB.2 (o0 (by omega)▸wF _)
   ·simp (decide:=true) only[h,↓reduceIte,iL];exact jA fun _=>jA fun _=>aB.2 (o2 (by omega)▸zB _)
   ·simp (decide:=true) only[h,↓reduceIte,gF];exact jA fun _=>jA fun _=>aB.2 (o0 (by omega)▸wF _)
   ·simp (decide:=true) only[h,↓reduceIte,gF];exact jA fun _=>jA fun _=>aB.2 (o0 (by omega)▸wF _)
   ·obtain⟨h3,e3,e4⟩:=o22 h;simp (decide:=true) only[h,↓reduceIte];refine jA fun _=>?_;refine Sq.bind _ (hrec (_,_)) fun v hv=>aB.2 ?_;rw[e4];refine hv [] _ _ (fun i hi=>absurd hi (Nat.not_lt_zero i)) ?_ hfs (hfs e.N.toNat (by omega));rw[<-e3];exact fun i hi=>hbs i (by omega)
   ·obtain⟨l2,ht⟩:=ob h;have d2:0<b6.length:=by omega
    have d3:1<b6.length:=by omega
    have hop:e.Op=8\/e.Op=9\/e.Op=10\/e.Op=11\/e.Op=12\/e.Op=13\/e.Op=14\/e.Op=15\/e.Op=16\/e.Op=17\/e.Op=18\/e.Op=19:=by omega
    have fin:∀ {x:Option aF} {op:Int},e.Op=op->x=some (bop op (b6.getD 0 default) (b6.getD 1 default))->Sq false x (TyV t):=fun h1 h2=>by rw[h2,ht,h1]; exact aB.2 (aPU _ _ _ (by omega))
    rcases hop with h | h | h | h | h | h | h | h | h | h | h | h
    ·simp (decide:=true) only[h,↓reduceIte];change Sq false (((some 225:Option Nat).bind _).bind _) (TyV t);simp only[aK,Tr.den,z0,z1];rw[aA ⟨trivial,by omega⟩,aA d2,aA ⟨trivial,by omega⟩,aA d3,Td];exact fin h rfl
    ·simp (decide:=true) only[h,↓reduceIte];change Sq false (((some 226:Option Nat).bind _).bind _) (TyV t);simp only[aK,Tr.den,z0,z1];rw[aA ⟨trivial,by omega⟩,aA d2,aA ⟨trivial,by omega⟩,aA d3,Sd];exact fin h rfl
    ·simp (decide:=true) only[h,↓reduceIte];change Sq false (((some 227:Option Nat).bind _).bind _) (TyV t);simp only[aK,Tr.den,z0,z1];rw[aA ⟨trivial,by omega⟩,aA d2,aA ⟨trivial,by omega⟩,aA d3,Rw];exact fin h rfl
    ·simp (decide:=true) only[h,↓reduceIte];change Sq false (((some 228:Option Nat).bind _).bind _) (TyV t);simp only[aK,Tr.den,z0,z1];rw[aA ⟨trivial,by omega⟩,aA d2,aA ⟨trivial,by omega⟩,aA d3,Rf];exact fin h rfl
    ·simp (decide:=true) only[h,↓reduceIte];change Sq false (((some 229:Option Nat).bind _).bind _) (TyV t);simp only[aK,Tr.den,z0,z1];rw[aA ⟨trivial,by omega⟩,aA d2,aA ⟨trivial,by omega⟩,aA d3,Sw];exact fin h rfl
    ·simp (decide:=true) only[h,↓reduceIte];change Sq false (((some 230:Option Nat).bind _).bind _) (TyV t);simp only[aK,Tr.den,z0,z1];rw[aA ⟨trivial,by omega⟩,aA d2,aA ⟨trivial,by omega⟩,aA d3,Qo];exact fin h rfl
    ·simp (decide:=true) only[h,↓reduceIte];change Sq false (((some 231:Option Nat).bind _).bind _) (TyV t);simp only[aK,Tr.den,z0,z1];rw[aA ⟨trivial,by omega⟩,aA d2,aA ⟨trivial,by omega⟩,aA d3,Tg];exact fin h rfl
    ·simp (decide:=true) only[h,↓reduceIte];change Sq false (((some 232:Option Nat).bind _).bind _) (TyV t);simp only[aK,Tr.den,z0,z1];rw[aA ⟨trivial,by omega⟩,aA d2,aA ⟨trivial,by omega⟩,aA d3,Se];exact fin h rfl
    ·simp (decide:=true) only[h,↓reduceIte];change Sq false (((some 233:Option Nat).bind _).bind _) (TyV t);simp only[aK,Tr.den,z0,z1];rw[aA ⟨trivial,by omega⟩,aA d2,aA ⟨trivial,by omega⟩,aA d3,Ps];exact fin h rfl
    ·simp (decide:=true) only[h,↓reduceIte];change Sq false (((some 234:Option Nat).bind _).bind _) (TyV t);simp only[aK,Tr.den,z0,z1];rw[aA ⟨trivial,by omega⟩,aA d2,aA ⟨trivial,by omega⟩,aA d3,Ta];exact fin h rfl
    ·simp (decide:=true) only[h,↓reduceIte];change Sq false (((some 235:Option Nat).bind _).bind _) (TyV t);simp only[aK,Tr.den,z0,z1];rw[aA ⟨trivial,by omega⟩,aA d2,aA ⟨trivial,by omega⟩,aA d3,Rb];exact fin h rfl
    ·simp (decide:=true) only[h,↓reduceIte];change Sq false (((some 236:Option Nat).bind _).bind _) (TyV t);simp only[aK,Tr.den,z0,z1];rw[aA ⟨trivial,by omega⟩,aA d2,aA ⟨trivial,by omega⟩,aA d3];rw[ht,h];exact Sq.bind (fun v:Int×Int×ByteArray=>TyV 1 ⟨v.1,v.2.1,v.2.2⟩) (Sq.bind _ (aGC _) fun v hv=>aB.2 hv) fun v hv=>aB.2 hv
theorem Rm(l:List Int)(n:Int):Sp (Ys l n) (fun r=>r.2=true->(0<=n/\n<l.length)/\r.1=l.getD n.toNat default):=by
 unfold Ys aJT;simp only[Tr.den];by_cases h1:n<0
 ·rw[aA (bV h1)];exact aB.2 (fun h=>by cases h)
 ·rw[aE (cD h1)];by_cases h2:n>=(l.length:Int)
  ·simp only[aK,uE h2,gK];exact aB.2 (fun h=>by cases h)
  ·simp only[aK,gN h2,dS,dQ];rw[aA (by omega),aA (by omega),Aa];exact aB.2 (fun _=>⟨by omega,rfl⟩)
theorem aIC(fs:List bE)(n:Int)(l:List Int)(hl:l.length<=1048576):Sp (Wx fs n l) (fun r=>r.2=true->(0<=n/\n<fs.length)/\l=(fs.getD n.toNat default).Params/\r.1=(fs.getD n.toNat default).Result):=by
 unfold Wx aGS;simp only[Tr.den];by_cases h1:n<0
 ·rw[aA (bV h1)];exact aB.2 (fun h=>by cases h)
 ·rw[aE (cD h1)];by_cases h2:n>=(fs.length:Int)
  ·simp only[aK,uE h2,gK];exact aB.2 (fun h=>by cases h)
  ·simp only[aK,gN h2,dS,dQ];rw[aA (by omega)];by_cases h3:((fs.getD n.toNat default).Params.length:Int)=(l.length:Int)
   ·rw[aE (by simpa using h3)];refine bQ.2 (lR (fun s:Int=>s) l.length (by omega) (fun s=>∀ i:Nat,(i:Int)<s->l.getD i default=(fs.getD n.toNat default).Params.getD i default) (fun s k hI hk hkN=>?_) (fun i hi=>absurd hi (by show ¬ ((i:Int)<0); omega)) rfl);subst hk;unfold Ik;simp only[Tr.den,aX];by_cases hc:k<l.length
    ·rw[aA (bV (by omega)),aA (by omega),aA (by omega)];split
     ·exact aB.2 (aB.2 (fun h=>by cases h))
     ·rename_i hne;refine aB.2 ⟨rfl,hc,fun i hi=>?_⟩;rw[aP (by omega)]at hi;rcases mG i k with h | h
      ·exact hI i (by omega)
      ·obtain rfl:i=k:=by omega
       exact Kj fun hh=>hne (Jc hh)
    ·rw[aE (cD (by omega))];exact aB.2 (aB.2 (fun _=>⟨by omega,Cr (by omega) fun i hi=>hI i (by omega),rfl⟩))
   ·rw[aA (by simpa using h3)];exact aB.2 (fun h=>by cases h)
theorem aIE(fs:List bE)(cs ps:List Int)(e:bL)(he:tJ e):Sp (aNQ fs cs ps e) (fun r=>r.2=true->TyE fs cs ps e r.1):=by
 refine kV (C:=fun (a:(List bE)×(List Int)×(List Int)×bL) (x:Option (Int×Bool))=>Con Proofs.Tryz.prog 212 [.t (eL bJ (a.1)),.t (eL bM (a.2.1)),.t (eL bM (a.2.2.1)),.t (cZ a.2.2.2)] x (fun (y:Int×Bool)=>.tup [.t (.int .i64 (y.1)),.t (.bool (y.2))])) (fun a=>⟨bO Proofs.Tryz.func212 (by kernel_rfl),fun _ h=>nomatch h⟩) (fun rec a=>Od rec a.1 a.2.1 a.2.2.1 a.2.2.2) (fun rec a=>Hc rec a.1 a.2.1 a.2.2.1 a.2.2.2)
  (fun a=>tJ a.2.2.2) (fun a=>SizeOf.sizeOf a.2.2.2) (fun a r=>r.2=true->TyE a.1 a.2.1 a.2.2.1 a.2.2.2 r.1) (fun b r a ha hrec=>?_) true (fs,cs,ps,e) he
 clear he fs cs ps e;obtain⟨fs,cs,ps,e⟩:=a;simp only at ha hrec ⊢;cases ha with
 | mk hs hl hA=>
 have hr:∀ i,i<e.Args.length->Sq b (r.1 (fs,cs,ps,e.Args.getD i default)) (fun r=>r.2=true->TyE fs cs ps (e.Args.getD i default) r.1):=fun i hi=>hrec _ (hA i hi) (rF (aT hi));unfold Od;simp only[Tr.den];refine bQ.2 (lR (fun s:List Int×Int=>s.2) e.Args.length (by omega) (fun s=>(s.1.length:Int)=s.2/\∀ i:Nat,(i:Int)<s.2->TyE fs cs ps (e.Args.getD i default) (s.1.getD i default)) (fun s k hI hk hkN=>?_) ⟨rfl,fun i hi=>absurd hi (by show ¬ ((i:Int)<0); omega)⟩ rfl);obtain⟨b3,v2⟩:=s;obtain⟨hbl,hbs⟩:=hI;simp only at hk hbl hbs;subst hk;unfold Gg;simp only[Tr.den,aX];by_cases hc:k<e.Args.length
 ·rw[aA (bV (by omega)),aA (by omega)];refine Sq.bind _ (hr k hc) fun v hv=>?_;by_cases hv2:v.2=true
  ·rw[aE (by rw[hv2]; decide),aA (by simp only[eI]; omega)];refine aB.2 ⟨rfl,hc,?_,fun i hi=>?_⟩
   ·simp only[bU,eI]; rw[aP (by omega)]; omega
   ·simp only at hi ⊢;rw[aP (by omega)]at hi;rw[bI];rcases mG i k with h | h
    ·rw[aA (by omega)]; exact hbs i (by omega)
    ·have:i=k:=by omega
     subst this;rw[aE (by omega),show i-b3.length=0 by omega]; exact hv hv2
  ·rw[aA (by simp only[Bool.not_eq_true]at hv2; rw[hv2]; rfl)];exact aB.2 (aB.2 (fun h=>by cases h))
 ·rw[aE (cD (by omega))];refine aB.2 ?_;have hbe:b3.length=e.Args.length:=by omega
  have hA':∀ i,i<e.Args.length->TyE fs cs ps (e.Args.getD i default) (b3.getD i default):=fun i hi=>hbs i (by omega);simp only[sel];refine Sq.bind (fun s:List Int×Bool=>s.1=b3) (by split <;> exact aB.2 rfl) (fun s hsb=>?_);obtain⟨j5,j6⟩:=s;simp only at hsb;subst hsb;cases j6 with
  | true=>exact aB.2 (fun h=>by cases h)
  | false=>
   simp only[dS,dQ];by_cases h22:e.Op=22
   ·rw[aA (by rw[h22]; rfl)];refine Sq.bind _ (Sq.of (aIC fs e.N j5 (by omega))) fun r hr=>aB.2 (fun h=>?_);have h3:=hr h;exact .mk j5 hbe (by omega) (by omega) hA' (fun h=>by omega) (fun h=>by omega) (fun h=>by omega) (fun h=>by omega) (fun h=>by omega) (fun h=>by omega) (fun h=>by omega) (fun _=>h3) (fun h=>by omega)
   ·rw[aE (by simpa using h22),Rz];simp only[aK];by_cases hN:Vf e.Op=(j5.length:Int)
    ·rw[aE (by simpa using hN)];have hh:(0<=e.Op/\e.Op<=21)/\(e.Op=6\/e.Op=7\/e.Op=20->1<=j5.length)/\(8<=e.Op/\e.Op<=19->2<=j5.length)/\(e.Op=21->3<=j5.length):=by
      unfold Vf at hN
      repeat' split at hN
      all_goals omega
     obtain⟨ho,c1,c2,c21⟩:=hh;clear hN;by_cases h3:e.Op=3
     ·simp (decide:=true) only[h3,↓reduceIte];refine Sq.bind _ (Sq.of (Rm cs e.N)) fun r hr=>aB.2 (fun h=>.mk j5 hbe (by omega) (by omega) hA' (fun h=>by omega) (fun h=>by omega) (fun h=>by omega) (fun h=>by omega) (fun _=>hr h) (fun h=>by omega) (fun h=>by omega) (fun h=>by omega) (fun h=>by omega))
     by_cases h4:e.Op=4
     ·simp (decide:=true) only[h4,↓reduceIte];refine Sq.bind _ (Sq.of (Rm ps e.N)) fun r hr=>aB.2 (fun h=>.mk j5 hbe (by omega) (by omega) hA' (fun h=>by omega) (fun h=>by omega) (fun h=>by omega) (fun h=>by omega) (fun h=>by omega) (fun _=>hr h) (fun h=>by omega) (fun h=>by omega) (fun h=>by omega))
     have fin:∀ t:Int,e.Op≠21->(e.Op=0\/e.Op=5\/e.Op=7\/e.Op=20->t=0)->(e.Op=1->t=1)->(e.Op=2\/e.Op=6->t=2)->(8<=e.Op/\e.Op<=19->t=tyB e.Op)->(13<=e.Op/\e.Op<=16->j5.getD 0 default=j5.getD 1 default)->TyE fs cs ps e t:=fun t q1 q2 q3 q4 q5 q6=>
      .mk j5 hbe (by omega) (by omega) hA' q2 q3 q4 (fun h=>⟨by have:=c2 h; omega,q5 h⟩) (fun h=>absurd h h3) (fun h=>absurd h h4) (fun h=>absurd h q1) (fun h=>absurd h h22) q6
     by_cases hu:e.Op=0\/e.Op=1\/e.Op=2\/e.Op=5
     ·rcases hu with h | h | h | h
      ·simp (decide:=true) only[h,↓reduceIte]
       repeat' (first | exact aB.2 (fun _=>fin 0 (by omega) (fun _=>rfl) (fun _=>by omega) (fun _=>by omega) (fun _=>by omega) (fun _=>by omega)) | exact aB.2 (fun h=>by cases h) | split)
      ·simp (decide:=true) only[h,↓reduceIte]
       repeat' (first | exact aB.2 (fun _=>fin 1 (by omega) (fun _=>by omega) (fun _=>by omega) (fun _=>by omega) (fun _=>by omega) (fun _=>by omega)) | exact aB.2 (fun h=>by cases h) | split)
      ·simp (decide:=true) only[h,↓reduceIte]
       repeat' (first | exact aB.2 (fun _=>fin 2 (by omega) (fun _=>by omega) (fun _=>by omega) (fun _=>by omega) (fun _=>by omega) (fun _=>by omega)) | exact aB.2 (fun h=>by cases h) | split)
      ·simp (decide:=true) only[h,↓reduceIte]
       repeat' (first | exact aB.2 (fun _=>fin 0 (by omega) (fun _=>rfl) (fun _=>by omega) (fun _=>by omega) (fun _=>by omega) (fun _=>by omega)) | exact aB.2 (fun h=>by cases h) | split)
     by_cases hu1:e.Op=6\/e.Op=7\/e.Op=20
     ·have g0:(0:Int)<(j5.length:Int):=by have:=c1 hu1; omega
      have g0':Int.toNat 0<j5.length:=by show 0<j5.length; omega
      rcases hu1 with h | h | h
      ·simp (decide:=true) only[h,g0,g0',lU,↓reduceIte]
       repeat' (first | exact aB.2 (fun _=>fin 2 (by omega) (fun _=>by omega) (fun _=>by omega) (fun _=>by omega) (fun _=>by omega) (fun _=>by omega)) | exact aB.2 (fun h=>by cases h) | split)
      ·simp (decide:=true) only[h,g0,g0',lU,↓reduceIte]
       repeat' (first | exact aB.2 (fun _=>fin 0 (by omega) (fun _=>rfl) (fun _=>by omega) (fun _=>by omega) (fun _=>by omega) (fun _=>by omega)) | exact aB.2 (fun h=>by cases h) | split)
      ·simp (decide:=true) only[h,g0,g0',lU,↓reduceIte]
       repeat' (first | exact aB.2 (fun _=>fin 0 (by omega) (fun _=>rfl) (fun _=>by omega) (fun _=>by omega) (fun _=>by omega) (fun _=>by omega)) | exact aB.2 (fun h=>by cases h) | split)
     have l2:2<=j5.length:=by
      by_cases h:e.Op=21
      ·have:=c21 h; omega
      ·exact c2 (by omega)
     have g0:(0:Int)<(j5.length:Int):=by omega
     have g0':Int.toNat 0<j5.length:=by show 0<j5.length; omega
     have g1:(1:Int)<(j5.length:Int):=by omega
     have g1':Int.toNat 1<j5.length:=by show 1<j5.length; omega
     have hop:e.Op=8\/e.Op=9\/e.Op=10\/e.Op=11\/e.Op=12\/e.Op=13\/e.Op=14\/e.Op=15\/e.Op=16\/e.Op=17\/e.Op=18\/e.Op=19\/e.Op=21:=by omega
     have fin2:∀ t:Int,(8<=e.Op/\e.Op<=19)->t=tyB e.Op->(13<=e.Op/\e.Op<=16->j5.getD 0 default=j5.getD 1 default)->TyE fs cs ps e t:=fun t q1 q2 q3=>fin t (by omega) (fun _=>by omega) (fun _=>by omega) (fun _=>by omega) (fun _=>q2) q3;rcases hop with h | h | h | h | h | h | h | h | h | h | h | h | h
     iterate 5
      ·simp (decide:=true) only[h,g0,g0',g1,g1',lU,↓reduceIte,aK]
       repeat' (first | exact aB.2 (fun _=>fin2 0 (by omega) (by rw[h]; rfl) fun _=>by omega) | exact aB.2 (fun h=>by cases h) | split)
     iterate 4
      ·simp (decide:=true) only[h,g0,g0',g1,g1',lU,↓reduceIte,aK]
       repeat' (first | exact aB.2 (fun hq=>fin2 2 (by omega) (by rw[h]; rfl) fun _=>iU.1 hq) | exact aB.2 (fun h=>by cases h) | split)
     iterate 2
      ·simp (decide:=true) only[h,g0,g0',g1,g1',lU,↓reduceIte,aK]
       repeat' (first | exact aB.2 (fun _=>fin2 2 (by omega) (by rw[h]; rfl) fun _=>by omega) | exact aB.2 (fun h=>by cases h) | split)
     ·simp (decide:=true) only[h,g0,g0',g1,g1',lU,↓reduceIte,aK]
      repeat' (first | exact aB.2 (fun _=>fin2 1 (by omega) (by rw[h]; rfl) fun _=>by omega) | exact aB.2 (fun h=>by cases h) | split)
     have l3:=c21 h;have g2:(2:Int)<(j5.length:Int):=by omega
     have g2':Int.toNat 2<j5.length:=by show 2<j5.length; omega
     simp (decide:=true) only[h,g0,g0',g1,g1',g2,g2',lU,↓reduceIte,aK];split
     ·exact aB.2 (fun h=>by cases h)
     ·split
      ·refine aB.2 fun hq=>?_;have hq:=iU.1 hq;exact .mk j5 hbe (by omega) (by omega) hA' (fun h=>by omega) (fun h=>by omega) (fun h=>by omega) (fun h=>by omega) (fun h=>by omega) (fun h=>by omega) (fun _=>⟨by omega,rfl,hq.symm⟩) (fun h=>by omega) (fun h=>by omega)
      ·exact aB.2 (fun h=>by cases h)
    ·rw[aA (by simpa using hN)];exact aB.2 (fun h=>by cases h)
theorem Tc(fs:List bE)(cs ps:List Int)(e:bL)(he:tJ e):Sp (pB fs cs ps e) (fun r=>r.2=true->TyE fs cs ps e r.1):=by
 unfold pB aEY;simp only[Tr.den];refine Sq.bind _ (Rn e he) fun r _=>?_;split
 ·exact aB.2 (fun h=>by cases h)
 ·refine Sq.bind _ (aIE fs cs ps e he) fun r2 h2=>?_;split
  ·exact aB.2 (fun h=>by cases h)
  ·rename_i h3;exact aB.2 (fun _=>h2 (by simpa using h3))
theorem TyE.mono{i:Nat}{ps:List Int}(h:TyE (fs.take i) cs ps e t):TyE fs cs ps e t:=by
 induction h with
 | @mk e t ts hl hb ho hA o0 o1 o2 ob o3 o4 o21 o22 oc ih=>
  refine .mk ts hl hb ho ih o0 o1 o2 ob o3 o4 o21 (fun h=>?_) oc;obtain⟨g1,g2,g3⟩:=o22 h;rw[cG]at g1;have e1:(fs.take i).getD e.N.toNat default=fs.getD e.N.toNat default:=by rw[cF,cF,gC,aA (by omega)]
  rw[e1]at g2 g3;exact⟨by omega,g2,g3⟩
theorem aPP(fs:List bE)(hl:fs.length<=1048576)(hb:∀ i,i<fs.length->tJ (fs.getD i default).Body/\(fs.getD i default).Params.length<=1048576):
  Sp (G82 fs) (fun ok=>ok=true->aMC fs):=by
 unfold G82 T82;simp only[Tr.den];refine bQ.2 (lR (fun s:Int=>s) fs.length (by omega) (fun s=>∀ i:Nat,(i:Int)<s->TyE (fs.take i) [] (fs.getD i default).Params (fs.getD i default).Body (fs.getD i default).Result) (fun s k hI hk hkN=>?_) (fun i hi=>absurd hi (by show ¬ ((i:Int)<0); omega)) rfl);subst hk;unfold Ny;simp only[Tr.den,aX];by_cases hc:k<fs.length
 ·rw[aA (bV (by omega))];by_cases h20:(k:Int)<=20
  ·simp only[aK,uE h20,gK];rw[aA (by omega)];have hp:=(hb k hc).2;refine bQ.2 (lR (fun s:Int=>s) (fs.getD k default).Params.length (by omega) (fun _=>True) (fun s m _ hm hmN=>?_) trivial rfl);subst hm;unfold Nv;simp only[Tr.den,aX];by_cases hm:m<(fs.getD k default).Params.length
   ·rw[aA (bV (by omega)),aA (by omega),Aa];simp only[aK];split
    ·exact aB.2 (aB.2 (aB.2 (fun h=>by cases h)))
    ·exact aB.2 ⟨rfl,hm,trivial⟩
   ·rw[aE (cD (by omega))];refine aB.2 ?_;simp only[sel];rw[aA ⟨by omega,by omega,by omega⟩];have e1:(fs.drop (Int.toNat 0)).take ((k:Int)-0).toNat=fs.take k:=by rw[show ((k:Int)-0).toNat=k by omega]; rfl
    rw[e1,aA ⟨by omega,by omega,by omega⟩];refine Sq.bind _ (Sq.of (Tc (fs.take k) [] (fs.getD k default).Params (fs.getD k default).Body (hb k hc).1)) fun r5 h5=>?_;by_cases ho:r5.2=true
    ·rw[aE (by rw[ho]; decide)];refine Sq.bind (fun j:Bool=>j=false->r5.1=(fs.getD k default).Result) ?_ fun j6 hj=>?_
     ·refine bK (fun _=>aB.2 fun h=>by cases h) fun h=>aB.2 fun _=>?_;simpa using h
     cases j6 with
     | true=>exact aB.2 (aB.2 (fun h=>by cases h))
     | false=>
      refine aB.2 ⟨rfl,hc,fun i hi=>?_⟩;rw[aP (by omega)]at hi;rcases mG i k with h | h
      ·exact hI i (by omega)
      ·have:i=k:=by omega
       subst this; rw[<-hj rfl]; exact h5 ho
    ·rw[aA (by simp only[Bool.not_eq_true]at ho; rw[ho]; rfl)];exact aB.2 (aB.2 (fun h=>by cases h))
  ·simp only[aK,gN h20,dS,dQ];refine aB.2 (aB.2 (fun h=>?_));have:=dW h;omega
 ·rw[aE (cD (by omega))];simp only[aK,dS,dQ];refine aB.2 (aB.2 (fun h i hi=>(hI i (by omega)).mono))
theorem aFU(hf:okL n eO fs)(h:G82 fs=some true)(he:dK e)(ht:pB fs cs [] e=some (t,true))
  (tm:Int){row:List aF}(hr:TyR cs row){v:aF}(hv:Ek fs e tm row=some v):TyV t v:=by
 obtain⟨hl,hb⟩:=Ab hf;have h1:=(aPP fs hl hb).1 _ h rfl;have h2:=(Tc fs cs [] e he.bnd).1 _ ht rfl;have h3:Sq false (Ek fs e tm row) (TyV t):=by unfold Ek aDP;simp only[Tr.den];exact Sq.bind _ (aKM _ e) fun v hv=>aB.2 (hv cs [] t hr (fun i hi=>absurd hi (Nat.not_lt_zero i)) h1 h2)
 exact h3.1 v hv
theorem aFC(v:aF):Sp (aLE v) (fun r=>r=true->TyV v.Kind v):=by
 unfold aLE aQC;simp only[Tr.den];refine bK (fun h0=>aB.2 fun h=>⟨rfl,fun _=>iU.1 h,fun h1=>by have:=iU.1 h0; omega⟩) fun _=>bK (fun h1=>Sq.bind (fun r:Bool=>r=true->v.N=0) ?_ fun r hr=>aB.2 fun h=>⟨rfl,fun hn=>absurd (iU.1 h1) hn,fun _=>hr h⟩)
  fun hk1=>Sq.bind (fun r:Bool=>r=true->v.Kind≠1->v.S.toList=(⟨#[]⟩:ByteArray).toList) ?_ fun r hr=>aB.2 fun h=>⟨rfl,hr h,fun h1=>absurd h1 (by simpa using hk1)⟩
 ·exact bK (fun h=>aB.2 fun _=>iU.1 h) fun _=>aB.2 fun h=>by cases h
 ·exact bK (fun _=>bK (fun _=>aB.2 fun h _=>iU.1 h) fun _=>bK (fun _=>aB.2 fun h _=>iU.1 h) fun _=>aB.2 fun h=>by cases h) fun _=>aB.2 fun h=>by cases h
theorem aKK(r:List aF)(h:r.length<=1048576):Sp (aPF r) (fun q=>q=true->∀ i,i<r.length->TyV (r.getD i default).Kind (r.getD i default)):=by
 unfold aPF aMJ;simp only[Tr.den,bQ];refine dV (fun s:Int=>s) r.length (by omega) (fun s=>∀ i:Nat,(i:Int)<s->TyV (r.getD i default).Kind (r.getD i default)) (fun s k hI hk hkN=>?_) (fun i hi=>absurd hi (by show ¬ ((i:Int)<0); omega)) rfl;subst hk;unfold Rq;simp only[Tr.den,aX];by_cases hc:k<r.length
 ·rw[aA (bV (by omega)),aA (by omega)];refine Sq.bind _ (aFC _) fun q hq=>?_;cases q with
  | false=>exact aB.2 (aB.2 fun h=>by cases h)
  | true=>
   refine aB.2 ⟨rfl,hc,fun i hi=>?_⟩;rw[aP (by omega)]at hi;rcases mG i k with h | h
   ·exact hI i (by omega)
   ·have:i=k:=by omega
    subst this; exact hq rfl
 ·rw[aE (cD (by omega))];exact aB.2 (aB.2 fun _ i hi=>hI i (by omega))
theorem aPC(r:List aF)(h:r.length<=1048576):Sp (G78 r) (fun q=>q=true->∀ i,i<r.length->TyV (r.getD i default).Kind (r.getD i default)):=by unfold G78 T78;simp only[Tr.den];refine Sq.bind (fun q:Bool=>q=true->∀ i,i<r.length->TyV (r.getD i default).Kind (r.getD i default)) ?_ fun _ h=>aB.2 h;exact bK (fun _=>Sq.bind _ (aKK r h) fun _ h=>aB.2 h) fun _=>aB.2 fun h=>by cases h
structure aIB (n:aI):Prop where
 op:0<=n.Op/\n.Op<=8
 w:n.Op=4->(1<=n.Size/\n.Size<=10000)/\(n.Kind=0\/(n.Kind=1/\(1<=n.Step/\n.Step<=10000)/\Int.tmod n.Size n.Step=0)\/(n.Kind=2/\1<=n.Step/\n.Step<=n.Size))
 t:n.Op=5->(1<=n.Size/\n.Size<=10000)/\1<=n.Keep/\n.Keep<=100
 j:n.Op=6->okB n
 a:n.Op=7->1<=n.Keep/\n.Keep<=10000
 p:n.Op=8->(1<=n.Size/\n.Size<=10000)/\1<=n.Seq.length/\n.Seq.length<=8
theorem aHI{s:Int}(hs:1<=s/\s<=10000)(h1:1<=t)(h:Int.tmod s t=0):t<=10000:=by rw[Int.tmod_eq_emod_of_nonneg (by omega)]at h;have:=Int.le_of_dvd (by omega) (Int.dvd_of_emod_eq_zero h);omega
theorem aHQ(n:aI):Sp (G83 n) (fun r=>r=true->aIB n):=by
 have oth:∀ {P:Prop} {k m:Int},n.Op=k->k≠m->n.Op=m->P:=fun h1 h2 h3=>absurd (h1.symm.trans h3) h2;unfold G83 T83;simp only[Tr.den,aKD,aK];by_cases h4:n.Op=4
 ·rw[aA (fL h4)];refine bK (fun _=>aB.2 fun h=>by cases h) fun q=>?_;have hz:1<=n.Size/\n.Size<=10000:=by simpa using q
  have mk:(n.Kind=0\/(n.Kind=1/\(1<=n.Step/\n.Step<=10000)/\Int.tmod n.Size n.Step=0)\/(n.Kind=2/\1<=n.Step/\n.Step<=n.Size))->aIB n:=fun h=>
   ⟨by omega,fun _=>⟨hz,h⟩,oth h4 (by decide),oth h4 (by decide),oth h4 (by decide),oth h4 (by decide)⟩
  refine bK (fun h0=>aB.2 fun _=>mk (.inl (iU.1 h0))) fun _=>bK (fun h1=>bK (fun _=>aB.2 fun h=>by cases h) fun h2=>?_) fun _=>bK (fun h2=>aB.2 fun h=>mk (.inr (.inr ⟨iU.1 h2,dW h⟩))) fun _=>aB.2 fun h=>by cases h
  have h2:=gP h2;exact nP (by omega) (aB.2 fun h=>mk (.inr (.inl ⟨iU.1 h1,⟨by omega,aHI hz (by omega) (iU.1 h)⟩,iU.1 h⟩)))
 ·rw[aE (eG h4)];by_cases h5:n.Op=5
  ·rw[aA (fL h5)];refine Sq.bind (fun j:Bool=>j=true->(1<=n.Size/\n.Size<=10000)/\1<=n.Keep/\n.Keep<=100) (bK (fun q=>aB.2 fun q2=>⟨dW q,dW q2⟩) fun _=>aB.2 fun h=>by cases h) fun j hj=>aB.2 fun h=>
    ⟨by omega,oth h5 (by decide),fun _=>hj h,oth h5 (by decide),oth h5 (by decide),oth h5 (by decide)⟩
  ·rw[aE (eG h5)];by_cases h6:n.Op=6
   ·rw[aA (fL h6)];refine Sq.bind (fun j:Bool=>j=true->okB n) (bK (fun q=>aB.2 fun q2=>⟨dW q,dW q2⟩) fun _=>aB.2 fun h=>by cases h) fun j hj=>aB.2 fun h=>
     ⟨by omega,oth h6 (by decide),oth h6 (by decide),fun _=>hj h,oth h6 (by decide),oth h6 (by decide)⟩
   ·rw[aE (eG h6)];by_cases h7:n.Op=7
    ·rw[aA (fL h7)];exact aB.2 fun h=>⟨by omega,oth h7 (by decide),oth h7 (by decide),oth h7 (by decide),fun _=>dW h,oth h7 (by decide)⟩
    ·rw[aE (eG h7)];by_cases h8:n.Op=8
     ·rw[aA (fL h8)];refine Sq.bind (fun j:Bool=>j=true->(1<=n.Size/\n.Size<=10000)/\1<=n.Seq.length/\n.Seq.length<=8) (bK (fun q=>aB.2 fun q2=>⟨dW q,by have:=dW q2; omega⟩) fun _=>aB.2 fun h=>by cases h) fun j hj=>aB.2 fun h=>
       ⟨by omega,oth h8 (by decide),oth h8 (by decide),oth h8 (by decide),oth h8 (by decide),fun _=>hj h⟩
     ·rw[aE (eG h8)];exact aB.2 fun h=>⟨dW h,fun h=>absurd h h4,fun h=>absurd h h5,fun h=>absurd h h6,fun h=>absurd h h7,fun h=>absurd h h8⟩
def nIn(n:aI):Nat:=if n.Op=0 then 0 else if n.Op=3\/n.Op=6\/n.Op=7 then 2 else 1
theorem Tk(n:aI):G84 n=some (nIn n:Int):=by
 unfold G84 T84 nIn;simp only[Tr.den];by_cases h0:n.Op=0
 ·rw[aA (fL h0),aA h0]; rfl
 ·rw[aE (eG h0),aE h0];by_cases h3:n.Op=3
  ·rw[aA (fL h3),aA (.inl h3),fL h3]; rfl
  ·rw[aE (eG h3)];by_cases h6:n.Op=6
   ·rw[aA (fL h6),aA (.inr (.inl h6)),fL h6]; rfl
   ·rw[aE (eG h6)];by_cases h7:n.Op=7
    ·rw[aA (.inr (.inr h7)),fL h7]; rfl
    ·rw[aE (by omega),show (n.Op==7)=false by simpa using h7]; rfl
def okC(l:List Int)(m:Nat):Prop:=∀ c,c∈l->0<=c/\c<m
structure Bs (fs:List bE)(n:aI)(ta tb:List Int):Prop where
 b:aIB n
 fr:G82 fs=some true
 la:1<=ta.length/\ta.length<=12
 lb:1<=tb.length/\tb.length<=12
 f:n.Op=1->n.Exprs.length=1/\pB fs ta [] (n.Exprs.getD 0 default)=some (2,true)
 m:n.Op=2->(1<=n.Exprs.length/\n.Exprs.length<=12)/\∀ i,i<n.Exprs.length->∃ t,pB fs ta [] (n.Exprs.getD i default)=some (t,true)
 u:n.Op=3->ta=tb
 w:n.Op=4->okC n.Key ta.length/\(∀ g,g∈n.Aggs->(0<=g.Kind/\g.Kind<4)/\(g.Kind≠0->0<=g.Col/\g.Col<ta.length)/\(g.Kind=1->ta.getD g.Col.toNat default=0))/\n.Key.length+n.Aggs.length<12
 t:n.Op=5->okC n.Key ta.length/\0<=n.Step/\n.Step<ta.length
 j:n.Op=6\/n.Op=7->okC n.Key ta.length/\okC n.Key2 tb.length/\n.Key.length=n.Key2.length/\(∀ i,i<n.Key.length->ta.getD (n.Key.getD i default).toNat default=tb.getD (n.Key2.getD i default).toNat default)/\ta.length+tb.length<=12
 p:n.Op=8->(∀ i,i<n.Seq.length->pB fs ta [] (n.Seq.getD i default).Pred=some (2,true)/\0<=(n.Seq.getD i default).Rep/\(n.Seq.getD i default).Rep<3)/\okC n.Key ta.length/\n.Key.length<=10
theorem aLQ(a b:List Int)(ha:a.length<=1048576):Sp (G87 a b) (fun r=>r=true->a=b):=by
 unfold G87 T87;simp only[Tr.den];by_cases hl:(a.length:Int)=b.length
 ·rw[aE (Ml hl)];refine bQ.2 ?_;refine dV (fun s:Int=>s) a.length (by omega) (fun s=>∀ i:Nat,(i:Int)<s->a.getD i default=b.getD i default) (fun s k hI hk hkN=>?_) (fun i hi=>absurd hi (by show ¬ ((i:Int)<0); omega)) rfl;subst hk;unfold Xv;simp only[Tr.den,aX];by_cases hc:k<a.length
  ·rw[aA (bV (by omega)),aA (by omega),aA (by omega)];refine bK (fun _=>aB.2 (aB.2 fun h=>by cases h)) fun hb=>aB.2 ⟨rfl,hc,fun i hi=>?_⟩;rw[aP (by omega)]at hi;rcases mG i k with h | h
   ·exact hI i (by omega)
   ·have:i=k:=by omega
    subst this; simpa using hb
  ·rw[aE (cD (by omega))];exact aB.2 (aB.2 fun _=>Cr (by omega) fun i hi=>hI i (by omega))
 ·rw[aA (Jc hl)]; exact aB.2 fun h=>by cases h
theorem aPW(l:List iX)(ts:List Int)(h:l.length<=1048576)(h1:1<=ts.length/\ts.length<=12):Sp (G89 l ts) (fun r=>r=true->∀ g,g∈l->(0<=g.Kind/\g.Kind<4)/\(g.Kind≠0->0<=g.Col/\g.Col<ts.length)/\(g.Kind=1->ts.getD g.Col.toNat default=0)):=by
 unfold G89 T89;simp only[Tr.den,bQ];refine dV (fun s:Int=>s) l.length (by omega) (fun s=>∀ g,g∈l.take s.toNat->(0<=g.Kind/\g.Kind<4)/\(g.Kind≠0->0<=g.Col/\g.Col<ts.length)/\(g.Kind=1->ts.getD g.Col.toNat default=0)) (fun s k hI hk hkN=>?_) (by simp) rfl;subst hk;unfold aAX;simp only[Tr.den,aX]at hI ⊢;by_cases hc:k<l.length
 ·rw[aA (bV (by omega)),aA (by omega)];refine Sq.bind (fun j:Bool=>j=false->0<=(l.getD k default).Kind/\(l.getD k default).Kind<4) (bK (fun _=>aB.2 fun h=>by cases h) fun q1=>aB.2 fun q2=>?_) fun j hj=>?_
  ·have q1:=gP q1;have q2:=gP q2;omega
  ·cases j with
   | true=>exact aB.2 (aB.2 fun h=>by cases h)
   | false=>
    have hk4:=hj rfl;simp only[dS,dQ];refine Sq.bind (fun j:Bool=>j=false->(l.getD k default).Kind≠0->0<=(l.getD k default).Col/\(l.getD k default).Col<ts.length) (bK (fun q0=>bK (fun _=>aB.2 fun h=>by cases h) fun q1=>aB.2 fun q2 _=>?_) fun q0=>aB.2 fun _ h=>absurd (by simpa using q0) h) fun j hj=>?_
    ·have q1:=gP q1;have q2:=gP q2;omega
    ·cases j with
     | true=>exact aB.2 (aB.2 fun h=>by cases h)
     | false=>
      have hcol:=hj rfl;simp only[dS,dQ];refine Sq.bind (fun j:Bool=>j=false->(l.getD k default).Kind=1->ts.getD (l.getD k default).Col.toNat default=0) (bK (fun q0=>?_) fun q0=>aB.2 fun _ h=>by rw[h]at q0; cases q0) fun j hj=>?_
      ·have hcc:=hcol (by have:=iU.1 q0; omega);have w:IntKind.i64.wrap ((ts.length:Int)-1)=(ts.length:Int)-1:=bT (by omega) (by omega);have e:(if IntKind.i64.wrap ((ts.length:Int)-1)<(if (0:Int)>(l.getD k default).Col then 0 else (l.getD k default).Col) then IntKind.i64.wrap ((ts.length:Int)-1) else (if (0:Int)>(l.getD k default).Col then 0 else (l.getD k default).Col))=(l.getD k default).Col:=by rw[w,aE (show ¬ (0:Int)>(l.getD k default).Col by omega),aE (by omega)]
       simp only[e];rw[aA hcc];exact aB.2 fun h _=>by simpa using h
      ·cases j with
       | true=>exact aB.2 (aB.2 fun h=>by cases h)
       | false=>
        refine aB.2 ⟨rfl,hc,fun g' hg'=>?_⟩;rw[aP (by omega),aX,aO hc,dA,bW]at hg';rcases hg' with hg' | rfl
        ·exact hI g' hg'
        ·exact⟨hk4,hcol,hj rfl⟩
 ·rw[aE (cD (by omega))];refine aB.2 (aB.2 fun _=>?_)
  rwa [lL (by omega)]at hI
theorem aQA(n:aI)(a b:List Int)(h:n.Key.length<=1048576)(ha:okC n.Key a.length)(hb:okC n.Key2 b.length):Sp (G90 n a b) (fun r=>r=true->n.Key.length=n.Key2.length/\∀ i,i<n.Key.length->a.getD (n.Key.getD i default).toNat default=b.getD (n.Key2.getD i default).toNat default):=by
 unfold G90 T90;simp only[Tr.den];by_cases hl:(n.Key.length:Int)=n.Key2.length
 ·rw[aE (Ml hl)];refine bQ.2 ?_;refine dV (fun s:Int=>s) n.Key.length (by omega) (fun s=>∀ i:Nat,(i:Int)<s->a.getD (n.Key.getD i default).toNat default=b.getD (n.Key2.getD i default).toNat default) (fun s k hI hk hkN=>?_) (fun i hi=>absurd hi (by show ¬ ((i:Int)<0); omega)) rfl;subst hk;unfold Xk;simp only[Tr.den,aX];by_cases hc:k<n.Key.length
  ·have h1:=ha _ (aT hc);have h2:=hb _ (aT (show k<n.Key2.length by omega));rw[aA (bV (by omega)),aA (by omega),aA h1,aA (by omega),aA h2];refine bK (fun _=>aB.2 (aB.2 fun h=>by cases h)) fun hb=>aB.2 ⟨rfl,hc,fun i hi=>?_⟩;rw[aP (by omega)]at hi;rcases mG i k with h | h
   ·exact hI i (by omega)
   ·have:i=k:=by omega
    subst this; simpa using hb
  ·rw[aE (cD (by omega))];exact aB.2 (aB.2 fun _=>⟨by omega,fun i hi=>hI i (by omega)⟩)
 ·rw[aA (Jc hl)]; exact aB.2 fun h=>by cases h
theorem aKJ(fs:List bE)(n:aI)(ts:List (List Int))(hl:okL 104 eO fs)(hn:mX n)(h12:ts.length<=1048576)(hts:∀ t,t∈ts->t.length<=1048576):
  Sp (G34 fs n ts) (fun r=>r=true->ts.length=nIn n/\1<=ts.length/\Bs fs n (ts.getD 0 default) (ts.getD (ts.length-1) default)):=by
 obtain⟨_,_,_,_,hE,_,_,_,hK,hK2,_,_,_,hA,hS,_⟩:=hn;have hE1:=hE.1;have hK1:=hK.1;have hK21:=hK2.1;have hA1:=hA.1;have hS1:=hS.1;unfold G34 T34;simp only[Tr.den];obtain⟨y,hy,_⟩:=(Sz fs hl).get;rw[hy];simp only[aK];refine Sq.bind (fun j:Bool=>j=false->y=true/\aIB n/\ts.length=nIn n/\1<=ts.length) ?_ (fun j hj=>?_)
 ·cases y with
  | false=>exact aB.2 fun h=>by cases h
  | true=>
   simp only[Bool.not_true,dS,dQ];refine Sq.bind _ (aHQ n) fun r hr=>?_;cases r with
   | false=>exact aB.2 fun h=>by cases h
   | true=>
    simp only[Bool.not_true,dS,dQ];rw[Tk n];simp only[aK];refine bK (fun _=>aB.2 fun h=>by cases h) fun q1=>aB.2 fun q2=>⟨trivial,hr rfl,?_,?_⟩
    ·have:(ts.length:Int)=(nIn n:Int):=by simpa using q1
     omega
    ·have:¬ (ts.length:Int)=0:=by simpa using q2
     omega
 ·cases j with
  | true=>exact aB.2 fun h=>by cases h
  | false=>
   obtain⟨hyt,hB,hin,h1⟩:=hj rfl;subst hyt;simp only[dS,dQ];have w:IntKind.i64.wrap ((ts.length:Int)-1)=((ts.length-1:Nat):Int):=by rw[bT] <;> omega
   rw[aA (by omega),w,aA (by omega),aX,show (0:Int).toNat=0 from rfl];have hta:=hts _ (aT (show 0<ts.length by omega));have htb:=hts _ (aT (show ts.length-1<ts.length by omega));have e00:(ts.getD (Int.toNat 0) default)=ts.getD 0 default:=rfl;generalize hA':ts.getD 0 default=ta at hta;generalize hB':ts.getD (ts.length-1) default=tb at htb;refine Sq.bind (fun j:Bool=>j=false->(1<=ta.length/\ta.length<=12)/\1<=tb.length/\tb.length<=12) ?_ (fun j hj=>?_)
   ·refine bK (fun _=>aB.2 fun h=>by cases h) fun q0=>bK (fun _=>aB.2 fun h=>by cases h) fun q1=>bK (fun _=>aB.2 fun h=>by cases h) fun q3=>aB.2 fun q2=>?_;have q1:=gP q1;have q2:=gP q2;have q0:¬ (ta.length:Int)=0:=by simpa using q0
    have q3:¬ (tb.length:Int)=0:=by simpa using q3
    omega
   ·cases j with
    | true=>exact aB.2 fun h=>by cases h
    | false=>
     obtain⟨la,lb⟩:=hj rfl;simp only[dS,dQ];have oth:∀ {P:Prop} {k m:Int},n.Op=k->k≠m->n.Op=m->P:=fun h1 h2 h3=>absurd (h1.symm.trans h3) h2;have oth2:∀ {P:Prop} {k:Int},n.Op=k->k≠6->k≠7->(n.Op=6\/n.Op=7)->P:=fun h1 h2 h3 h4=>h4.elim (fun h=>absurd (h1.symm.trans h) h2) fun h=>absurd (h1.symm.trans h) h3;by_cases o1:n.Op=1
     ·rw[aA (fL o1)];refine Sq.bind (fun j:Bool=>j=true->n.Exprs.length=1/\pB fs ta [] (n.Exprs.getD 0 default)=some (2,true)) (bK (fun q=>?_) fun _=>aB.2 fun h=>by cases h) fun j hj=>aB.2 fun h=>
       ⟨hin,h1,hB,hy,la,lb,fun _=>hj h,oth o1 (by decide),oth o1 (by decide),oth o1 (by decide),oth o1 (by decide),oth2 o1 (by decide) (by decide),oth o1 (by decide)⟩
      have q:(n.Exprs.length:Int)=1:=by simpa using q
      refine nP (by omega) ?_;exact Sq.bind _ (Sq.of (aDF fs _ ta hl (okEs.get hE (show 0<n.Exprs.length by omega)))) fun r hr=>aB.2 fun h=>⟨by omega,hr h⟩
     ·rw[aE (eG o1)];by_cases o2:n.Op=2
      ·rw[aA (fL o2)];refine bQ.2 (dV (fun s:Int=>s) n.Exprs.length (by omega) (fun s=>∀ i:Nat,(i:Int)<s->∃ t,pB fs ta [] (n.Exprs.getD i default)=some (t,true)) (fun s k hI hk hkN=>?_) (fun i hi=>absurd hi (by show ¬ ((i:Int)<0); omega)) rfl);subst hk;unfold aDA;simp only[Tr.den,aX,e00,hA'];by_cases hc:k<n.Exprs.length
       ·rw[aA (bV (by omega)),aA (by omega)];refine Sq.bind _ (Sq.of (aDH fs ta [] _ hl (okEs.get hE hc))) fun r hr=>?_;refine bK (fun _=>aB.2 (aB.2 fun h=>by cases h)) fun q=>aB.2 ⟨rfl,hc,fun i hi=>?_⟩;rw[aP (by omega)]at hi;rcases mG i k with h | h
        ·exact hI i (by omega)
        ·have:i=k:=by omega
         subst this; exact⟨_,hr (by simpa using q)⟩
       ·rw[aE (cD (by omega))];refine aB.2 ?_;simp only[sel];refine Sq.bind (fun j:Bool=>j=true->1<=n.Exprs.length/\n.Exprs.length<=12) (bK (fun q=>aB.2 fun q2=>by have:=dW q; have:=dW q2; omega) fun _=>aB.2 fun h=>by cases h) fun j hj=>aB.2 fun h=>
         ⟨hin,h1,hB,hy,la,lb,oth o2 (by decide),fun _=>⟨hj h,fun i hi=>hI i (by omega)⟩,oth o2 (by decide),oth o2 (by decide),oth o2 (by decide),oth2 o2 (by decide) (by decide),oth o2 (by decide)⟩
      ·rw[aE (eG o2)];by_cases o3:n.Op=3
       ·rw[aA (fL o3)];exact Sq.bind _ (aLQ ta tb hta) fun r hr=>aB.2 fun h=>
         ⟨hin,h1,hB,hy,la,lb,oth o3 (by decide),oth o3 (by decide),fun _=>hr h,oth o3 (by decide),oth o3 (by decide),oth2 o3 (by decide) (by decide),oth o3 (by decide)⟩
       ·rw[aE (eG o3)];by_cases o4:n.Op=4
        ·rw[aA (fL o4)];refine Sq.bind _ (yD n.Key ta hK1) fun r hr=>?_;refine Sq.bind (fun j:Bool=>j=true->okC n.Key ta.length/\(∀ g,g∈n.Aggs->(0<=g.Kind/\g.Kind<4)/\(g.Kind≠0->0<=g.Col/\g.Col<ta.length)/\(g.Kind=1->ta.getD g.Col.toNat default=0))/\n.Key.length+n.Aggs.length<12) (bK (fun q=>?_) fun _=>aB.2 fun h=>by cases h) fun j hj=>aB.2 fun h=>
          ⟨hin,h1,hB,hy,la,lb,oth o4 (by decide),oth o4 (by decide),oth o4 (by decide),fun _=>hj h,oth o4 (by decide),oth2 o4 (by decide) (by decide),oth o4 (by decide)⟩
         refine Sq.bind _ (aPW n.Aggs ta hA1 la) fun r2 hr2=>bK (fun q2=>aB.2 fun q3=>⟨hr q,hr2 q2,?_⟩) fun _=>aB.2 fun h=>by cases h
         have q3:=dW q3;rw[bT (by omega) (by omega)]at q3;omega
        ·rw[aE (eG o4)];by_cases o5:n.Op=5
         ·rw[aA (fL o5)];refine Sq.bind _ (yD n.Key ta hK1) fun r hr=>?_;refine Sq.bind (fun j:Bool=>j=true->okC n.Key ta.length/\0<=n.Step/\n.Step<ta.length) (bK (fun q=>?_) fun _=>aB.2 fun h=>by cases h) fun j hj=>aB.2 fun h=>
           ⟨hin,h1,hB,hy,la,lb,oth o5 (by decide),oth o5 (by decide),oth o5 (by decide),oth o5 (by decide),fun _=>hj h,oth2 o5 (by decide) (by decide),oth o5 (by decide)⟩
          exact Sq.bind _ (yD [n.Step] ta (by simp)) fun r2 hr2=>aB.2 fun q2=>⟨hr q,hr2 q2 _ (by simp)⟩
         ·rw[aE (eG o5)];by_cases o67:n.Op=6\/n.Op=7
          ·have hor:((if (n.Op==6)=true then some (n.Op==6) else some (n.Op==7)):Option Bool)=some true:=by
            rcases o67 with h | h
            ·rw[aA (fL h),h]; rfl
            ·rw[aE (eG (by omega)),h]; rfl
           rw[hor];simp only[aK,gK];refine Sq.bind _ (yD n.Key ta hK1) fun r hr=>?_;refine Sq.bind (fun j:Bool=>j=true->okC n.Key ta.length/\okC n.Key2 tb.length/\n.Key.length=n.Key2.length/\(∀ i,i<n.Key.length->ta.getD (n.Key.getD i default).toNat default=tb.getD (n.Key2.getD i default).toNat default)/\ta.length+tb.length<=12) (bK (fun q=>?_) fun _=>aB.2 fun h=>by cases h) fun j hj=>aB.2 fun h=>
            ⟨hin,h1,hB,hy,la,lb,fun h=>absurd h o1,fun h=>absurd h o2,fun h=>absurd h o3,fun h=>absurd h o4,fun h=>absurd h o5,fun _=>hj h,fun h=>o67.elim (fun h'=>by omega) fun h'=>by omega⟩
           refine Sq.bind _ (yD n.Key2 tb hK21) fun r2 hr2=>bK (fun q2=>?_) fun _=>aB.2 fun h=>by cases h
           refine Sq.bind _ (aQA n ta tb hK1 (hr q) (hr2 q2)) fun r3 hr3=>bK (fun q3=>aB.2 fun q4=>⟨hr q,hr2 q2,(hr3 q3).1,(hr3 q3).2,?_⟩) fun _=>aB.2 fun h=>by cases h
           have q4:=dW q4;rw[bT (by omega) (by omega)]at q4;omega
          ·have hor:((if (n.Op==6)=true then some (n.Op==6) else some (n.Op==7)):Option Bool)=some false:=by rw[aE (eG (by omega)),show (n.Op==7)=false by simpa using fun h=>o67 (.inr h)]
           rw[hor];simp only[aK,dS,dQ];refine bK (fun q8=>?_) fun _=>aB.2 fun h=>by cases h
           have o8:n.Op=8:=iU.1 q8;refine bQ.2 (dV (fun s:Int=>s) n.Seq.length (by omega) (fun s=>∀ i:Nat,(i:Int)<s->pB fs ta [] (n.Seq.getD i default).Pred=some (2,true)/\0<=(n.Seq.getD i default).Rep/\(n.Seq.getD i default).Rep<3) (fun s k hI hk hkN=>?_) (fun i hi=>absurd hi (by show ¬ ((i:Int)<0); omega)) rfl);subst hk;unfold aDI;simp only[Tr.den,aX,e00,hA'];by_cases hc:k<n.Seq.length
           ·rw[aA (bV (by omega)),aA (by omega)];refine Sq.bind _ (Sq.of (aDF fs _ ta hl (hS.2 _ (aT hc)).1)) fun r hr=>?_;refine Sq.bind (fun j:Bool=>j=false->r=true/\0<=(n.Seq.getD k default).Rep/\(n.Seq.getD k default).Rep<3) ?_ (fun j hj=>?_)
            ·refine bK (fun _=>aB.2 fun h=>by cases h) fun q0=>nP (by omega) (bK (fun _=>aB.2 fun h=>by cases h) fun q1=>nP (by omega) (aB.2 fun q2=>?_));have q1:=gP q1;have q2:=gP q2;exact⟨by simpa using q0,by omega,by omega⟩
            ·cases j with
             | true=>exact aB.2 (aB.2 fun h=>by cases h)
             | false=>
              have hj:=hj rfl;refine aB.2 ⟨rfl,hc,fun i hi=>?_⟩;rw[aP (by omega)]at hi;rcases mG i k with h | h
              ·exact hI i (by omega)
              ·have:i=k:=by omega
               subst this; exact⟨hr hj.1,hj.2⟩
           ·rw[aE (cD (by omega))];refine aB.2 ?_;simp only[sel];refine Sq.bind _ (yD n.Key ta hK1) fun r hr=>?_;refine Sq.bind (fun j:Bool=>j=true->okC n.Key ta.length/\n.Key.length<=10) (bK (fun q=>aB.2 fun q2=>⟨hr q,by have:=dW q2; omega⟩) fun _=>aB.2 fun h=>by cases h) fun j hj=>aB.2 fun h=>
             ⟨hin,h1,hB,hy,la,lb,oth o8 (by decide),oth o8 (by decide),oth o8 (by decide),oth o8 (by decide),oth o8 (by decide),oth2 o8 (by decide) (by decide),fun _=>⟨fun i hi=>hI i (by omega),hj h⟩⟩
structure wU (ts:List Int)(l:List aC)(m:Nat):Prop where
 len:l.length<=m
 t:∀ d,d∈l->0<=d.Time/\d.Time<=2199023255552
 n:∀ d,d∈l->1<=d.N/\d.N<=5
 r:∀ d,d∈l->d.Row.length=ts.length/\TyR ts d.Row
theorem Gs(l:List aC)(ts:List Int)(m:Nat)(hm:m<=1000)(hl:okL 40 cM l)(ht:ts.length<=1048576):Sp (G30 l ts (m:Int)) (fun r=>r=true->wU ts l m):=by
 have hl1:=hl.1;unfold G30 T30;simp only[Tr.den,bQ];refine dV (fun s:Int=>s) l.length (by omega) (fun s=>∀ d,d∈l.take s.toNat->(0<=d.Time/\d.Time<=2199023255552)/\(1<=d.N/\d.N<=5)/\d.Row.length=ts.length/\TyR ts d.Row) (fun s k hI hk hkN=>?_) (by simp) rfl;subst hk;unfold aCK;simp only[Tr.den,aX,nC,aK]at hI ⊢;by_cases hc:k<l.length/\k<=m
 ·have hx:=hl.2 _ (aT hc.1);rw[aA (bV (by omega)),aA (by omega)];refine Sq.bind (fun j:Bool=>j=false->(0<=(l.getD k default).Time/\(l.getD k default).Time<=2199023255552)/\(1<=(l.getD k default).N/\(l.getD k default).N<=5)/\(l.getD k default).Row.length=ts.length/\∀ i,i<(l.getD k default).Row.length->TyV ((l.getD k default).Row.getD i default).Kind ((l.getD k default).Row.getD i default)) ?_ (fun j hj=>?_)
  ·refine bK (fun _=>aB.2 fun h=>by cases h) fun q1=>nP (by omega) (bK (fun _=>aB.2 fun h=>by cases h) fun q2=>nP (by omega) (bK (fun _=>aB.2 fun h=>by cases h) fun q3=>nP (by omega) (bK (fun _=>aB.2 fun h=>by cases h) fun q4=>nP (by omega) (bK (fun _=>aB.2 fun h=>by cases h) fun q5=>nP (by omega) (Sq.bind _ (Sq.of (aPC _ hx.2.1.1)) fun r hr=>aB.2 fun hq=>?_)))));have q1:=gP q1;have q2:=gP q2;have q3:=gP q3;have q4:=gP q4;simp only[bne_eq_false_iff_eq]at q5;have hq:r=true:=by simpa using hq
   exact⟨by omega,by omega,by omega,hr hq⟩
  ·cases j with
   | true=>exact aB.2 (aB.2 fun h=>by cases h)
   | false=>
    obtain⟨j1,j2,hlen,hty⟩:=hj rfl;simp only[dS,dQ];refine bQ.2 ?_;refine dV (fun s:Int=>s) ts.length (by omega) (fun s=>∀ i:Nat,(i:Int)<s->((l.getD k default).Row.getD i default).Kind=ts.getD i default) (fun s q hJ hq hqN=>?_) (fun i hi=>absurd hi (by show ¬ ((i:Int)<0); omega)) rfl;subst hq;unfold Xm;simp only[Tr.den,aX];by_cases hc2:q<ts.length
    ·rw[aA (bV (by omega)),aA (by omega),aA (by omega),aA (by omega)];refine bK (fun _=>aB.2 (aB.2 (aB.2 fun h=>by cases h))) fun hb=>aB.2 ⟨rfl,hc2,fun i hi=>?_⟩;rw[aP (by omega)]at hi;rcases mG i q with h | h
     ·exact hJ i (by omega)
     ·have:i=q:=by omega
      subst this; simpa using hb
    ·rw[aE (cD (by omega))];refine aB.2 (aB.2 ⟨rfl,hc.1,fun d hd=>?_⟩);rw[aP (by omega),aX,aO hc.1,dA,bW]at hd;rcases hd with hd | rfl
     ·exact hI d hd
     ·refine⟨j1,j2,hlen,fun i hi=>?_⟩;have h1:=hty i (by omega)
      rwa [hJ i (by omega)]at h1
 ·rw[aE (cD (by omega))];refine aB.2 (aB.2 fun h=>?_);have h:=dW h;rw[lL (by omega)]at hI;exact⟨by omega,fun d hd=>(hI d hd).1,fun d hd=>(hI d hd).2.1,fun d hd=>(hI d hd).2.2⟩
theorem aGP(fs:List bE)(n:aI)(a b:List aC)(ts:List (List Int))(m:Nat)(hm:m<=1000)(hl:okL 104 eO fs)(hn:mX n)(ha:okL 40 cM a)(hb:okL 40 cM b)(h12:ts.length<=1048576)(hts:∀ t,t∈ts->t.length<=1048576):
  Sp (aLV fs n a b ts (m:Int)) (fun r=>r.2=true->∃ ta tb,Bs fs n ta tb/\n.Key.length<=20/\wU ta a m/\(n.Size<=IntKind.i64.wrap (400*(if (1:Int)>n.Step then 1 else n.Step))\/n.Kind≠1\/n.Op≠4)/\((ts=[ta]/\ta=tb/\nIn n=1/\r.1=[cons a])\/(ts=[ta,tb]/\nIn n=2/\wU tb b m/\r.1=[cons a,cons b]))):=by
 unfold aLV aRC;simp only[Tr.den];refine Sq.bind _ (Sq.of (aFZ fs n hl hn)) fun r1 h33=>?_;refine Sq.bind (fun j:Bool=>j=false->n.Key.length<=20/\ts.length=nIn n/\1<=ts.length/\Bs fs n (ts.getD 0 default) (ts.getD (ts.length-1) default)) ?_ (fun j hj=>?_)
 ·refine bK (fun _=>aB.2 fun h=>by cases h) fun q33=>?_;have hk20:=(h33 (by simpa using q33)).1;rw[Tk];simp only[aK];refine bK (fun _=>aB.2 fun h=>by cases h) fun _=>?_;refine Sq.bind _ (Sq.of (aKJ fs n ts hl hn h12 hts)) fun r hr=>bK (fun _=>aB.2 fun h=>by cases h) fun q=>aB.2 fun _=>⟨hk20,hr (by simpa using q)⟩
 ·cases j with
  | true=>exact aB.2 fun h=>by cases h
  | false=>
   obtain⟨hk20,h1,h2,hR⟩:=hj rfl;simp only[dS,dQ];have hta:=hts _ (aT (show 0<ts.length by omega));rw[aA (by omega),show (0:Int).toNat=0 from rfl];refine Sq.bind _ (Sq.of (Gs a (ts.getD 0 default) m hm ha hta)) fun r hr=>?_;refine bK (fun _=>aB.2 fun h=>by cases h) fun q=>?_;have hF:=hr (by simpa using q);have oa:okD a:=cM.okd ha;have ob:okD b:=cM.okd hb;rw[oS a oa (by have:=hF.len; omega)];simp only[aK];have fin:∀ (tb:List Int) (l:List (List aC)),Bs fs n (ts.getD 0 default) tb->((ts=[ts.getD 0 default]/\ts.getD 0 default=tb/\nIn n=1/\l=[cons a])\/(ts=[ts.getD 0 default,tb]/\nIn n=2/\wU tb b m/\l=[cons a,cons b])) ->
     Sp ((if decide (n.Size<=IntKind.i64.wrap (400*(if (1:Int)>n.Step then 1 else n.Step)))=true then some (l,true) else if (n.Kind != 1)=true then some (l,true) else some (l,n.Op != 4)).bind fun v=>some (v.1,v.2)) (fun r=>r.2=true->∃ ta tb,Bs fs n ta tb/\n.Key.length<=20/\wU ta a m/\(n.Size<=IntKind.i64.wrap (400*(if (1:Int)>n.Step then 1 else n.Step))\/n.Kind≠1\/n.Op≠4)/\((ts=[ta]/\ta=tb/\nIn n=1/\r.1=[cons a])\/(ts=[ta,tb]/\nIn n=2/\wU tb b m/\r.1=[cons a,cons b]))):=fun tb l hR hl=>by
    refine bQ.2 (bK (fun q=>aB.2 (aB.2 fun _=>⟨_,tb,hR,hk20,hF,.inl (dW q),hl⟩)) fun _=>bK (fun q=>aB.2 (aB.2 fun _=>⟨_,tb,hR,hk20,hF,.inr (.inl (by simpa using q)),hl⟩)) fun _=>aB.2 (aB.2 fun q=>⟨_,tb,hR,hk20,hF,.inr (.inr (by simpa using q)),hl⟩))
   by_cases h22:ts.length=2
   ·obtain⟨ta,tb,rfl⟩:∃ ta tb,ts=[ta,tb]:=by
     match ts,h22 with
     | [ta,tb],_=>exact⟨ta,tb,rfl⟩
    have e0:([ta,tb]:List (List Int)).getD 0 default=ta:=rfl;have e1:([ta,tb]:List (List Int)).getD (([ta,tb]:List (List Int)).length-1) default=tb:=rfl;have e2:([ta,tb]:List (List Int)).getD (1:Int).toNat default=tb:=rfl;rw[e0,e1]at hR;simp only[e0]at fin hF;rw[aA (fL (by simp)),aA (by simp),e2];refine Sq.bind (fun z=>z = .inr ([],false)\/(wU tb b m/\z = .inl ([cons a]++[cons b]))) ?_ fun z hz=>?_
    ·refine Sq.bind _ (Sq.of (Gs b tb m hm hb (hts _ (by simp)))) fun r hr=>?_;refine bK (fun _=>aB.2 (.inl rfl)) fun q=>?_;have hFb:=hr (by simpa using q);rw[oS b ob (by have:=hFb.len; omega)];simp only[aK];rw[aA (by simp)];exact aB.2 (.inr ⟨hFb,rfl⟩)
    ·rcases hz with rfl | ⟨hFb,rfl⟩
     ·exact aB.2 fun h=>by cases h
     ·simp only[sel];exact fin tb _ hR (.inr ⟨rfl,by rw[<-h1]; rfl,hFb,rfl⟩)
   ·obtain⟨ta,rfl⟩:∃ ta,ts=[ta]:=by
     have h3:ts.length=1:=by
      unfold nIn at h1;split at h1
      ·omega
      ·split at h1 <;> omega
     exact Fk.1 h3
    have e0:([ta]:List (List Int)).getD 0 default=ta:=rfl;have e1:([ta]:List (List Int)).getD (([ta]:List (List Int)).length-1) default=ta:=rfl;rw[e0,e1]at hR;simp only[e0]at fin;rw[aE (eG (by simp))];simp only[aK,sel];exact fin ta _ hR (.inl ⟨trivial,rfl,by rw[<-h1]; rfl,rfl⟩)
section
variable {α:Type} [Inhabited α] (tm:α->Int) (nx:Int->α->Int) (hit:Int->Bool) (sz bg:Int)
end
end Go.PL
