/-
  Parts: From the reading of arguments to plain data; the frame of a law's row. Own work. What reads as data of the argument types reads as plain data of ours. Printed by a program of our own. The kept part of a plain-law text (strip.py). Own work. The kept part of a plain-law text (strip.py). Own work. The kept part of a plain-law text (strip.py). Own work. The kept part of a plain-law text (strip.py). Own work. The kept part of a plain-law text (strip.py). Own work. The kept part of a plain-law text (strip.py). Own work. The kept part of a plain-law text (strip.py). Own work. The kept part of a plain-law text (strip.py). Own work. Plain facts: numerals are read as they were written. Own work. The kept part of a plain-law text (strip.py). Own work. The kept part of a plain-law text (strip.py). Own work. The kept part of a plain-law text (strip.py). Own work. Bytes as lists. Own work. Plain law: the program's reader on any string, and on what was written. Own work. Plain law: the reference reader on any string. Own work. Plain law: what the reference reads of any string is what was written there. Own work. Plain law: the program reads what was written, and what it reads of any string was written there. Own work. Plain law: the reference's reader reads what was written. Own work. Plain law: both readers of lists read the same of any string. Own work. Plain law of patterns: the rows of each key. Own work. Plain law of patterns: places, states, matches. Own work. Plain law of expressions: what is handed in is bounded. Own work. Plain law of expressions: a typed expression has a value at every row. Own work. Plain law of patterns: the matches of the rows of one key. Own work. Plain law of patterns: what a push yields. Own work. Plain law of patterns: closing, and what is kept. Own work. The kept part of a plain-law text (strip.py). Own work. The kept part of a plain-law text (strip.py). Own work. The kept part of a plain-law text (strip.py). Own work. Plain law of patterns: what is small, right and fits. Own work.
-/
import Derived.Test.YtjefblkdnolgaaaGreatDoorMg
import Derived.Test.YtjefblkdnolgaaaGreatDoorRows
import Derived.JoinedCond
import Derived.ProofKit
import Derived.OpenShut
import Derived.Carry
import Derived.DataReads
import Derived.ChangeAnyMap
import Derived.Lib.AtoiAll
import Derived.Lib.Bytealg
import Derived.Lib.AtoiAllCases
import Derived.Lib.IndexLaws
import Derived.Laws.Strings
set_option maxHeartbeats 4000000
namespace Go.PL
open Go Go.RowKit
open Go.Proofs.YtjefblkdnolgaaaGreatDoor.Rows (uptoBulk uptoBulkAll)
variable {X:Type} {fuel:Nat} {ps:List MemPlace} {t:TypeId} {v:Value}
def RdL(F:Nat->Prop)(W:World)(l:List T)(cs:List Value):Prop:=cs.length=l.length/\∀ (j:Nat) x v,l[j]? = some x->cs[j]? = some v->Rd F W x v
theorem RdL.append{F:Nat->Prop}{W:World}{l l':List T}{cs cs':List Value}(h:RdL F W l cs)(h':RdL F W l' cs'):RdL F W (l++l') (cs++cs'):=by
 refine⟨by simp[h.1,h'.1],fun j x v hx hv=>?_⟩;by_cases hj:j<l.length
 ·rw[pZ hj]at hx;rw[pZ (by rw[h.1]; exact hj)]at hv;exact h.2 j x v hx hv
 ·rw[nJ (by omega)]at hx;rw[nJ (by rw[h.1]; omega),h.1]at hv;exact h'.2 _ x v hx hv
def eZ(n:Int):Prop:=-9223372036854775808<=n/\n<=9223372036854775807
section
variable {H:Type} {enc:TypeId×Value->H} {P:Program} {W:World}
def fS(enc:TypeId×Value->H)(P:Program)(W:World)(t:TypeId)(c:X->List T)(ok:X->Prop)(fuel:Nat):Prop:=
 ∀ cs d ps,DataW.trod enc P W 0 (fun _=>true) true fuel t cs=some (d,ps)->uptoBulk d<=1048576->∃ x,RdL (fun b=>b<W.heap.size) W (c x) cs/\ok x
theorem dE{c:X->List T}{ok:X->Prop}:fS enc P W t c ok 0:=fun cs d ps h=>by simp[DataW.trod]at h
theorem RdL.one{F:Nat->Prop}{W:World}{x:T}(h:Rd F W x v):RdL F W [x] [v]:=by
 refine⟨rfl,fun j y u hy hu=>?_⟩;cases j with
 | zero=>simp at hy hu; subst hy; subst hu; exact h
 | succ j=>simp at hy
theorem dI(ht:P.underlying t=some (.int .i64))(fuel:Nat):fS enc P W t bK eZ fuel:=by
 cases fuel with
 | zero=>exact dE
 | succ fuel=>
  intro cs d ps h _;unfold DataW.trod at h;rw[ht]at h;split at h <;> try (simp_all; done)
  rename_i k k' n hk;split at h
  ·rename_i hk2;cases hk;obtain⟨rfl,hwf⟩:=hk2;refine⟨n,RdL.one (.int _ _),?_⟩;simp[Lit.wf,IntKind.min,IntKind.max,IntKind.signed,IntKind.bits]at hwf;exact⟨by omega,by omega⟩
  ·cases h
def nH(s:ByteArray):Prop:=s.size<=1048576
theorem gM(ht:P.underlying t=some .string)(fuel:Nat):fS enc P W t bLU nH fuel:=by
 cases fuel with
 | zero=>exact dE
 | succ fuel=>
  intro cs d ps h hw;unfold DataW.trod at h;rw[ht]at h;split at h <;> try (simp_all; done)
  rename_i s hk;split at h
  ·cases h;refine⟨s,RdL.one (.str _),?_⟩;have:s.data.toList.length+1<=1048576:=hw;have:s.size=s.data.toList.length:=rfl;unfold nH;omega
  ·cases h
theorem yV{α β:Type}{f:α->Option β}:∀ {l:List α} {r:List β},l.mapM f=some r->r.length=l.length/\∀ (i:Nat) a b,l[i]? = some a->r[i]? = some b->f a=some b
 | [],r,h=>by simp at h; subst h; simp
 | x::l,r,h=>by
  rw[List.mapM_cons]at h;simp only[Option.bind_eq_bind,Pb]at h;obtain⟨y,hy,ys,hys,hr⟩:=h;simp at hr; subst hr;obtain⟨h1,h2⟩:=yV hys;refine⟨by simp[h1],fun i a b ha hb=>?_⟩;cases i with
  | zero=>simp at ha hb; subst ha; subst hb; exact hy
  | succ i=>exact h2 i a b (by simpa using ha) (by simpa using hb)
theorem Ql:∀ d:DataW H,1<=uptoBulk d
 | .lit l=>by unfold uptoBulk; split <;> omega
 | .nil=>by simp[uptoBulk]
 | .ptr d=>by simp[uptoBulk]
 | .slice e s=>by simp[uptoBulk]
 | .agg p=>by simp[uptoBulk]
 | .iface t d=>by simp[uptoBulk]
 | .map e=>by simp[uptoBulk]
 | .held h=>by simp[uptoBulk]
theorem Co:∀ l:List (DataW H),l.length<=uptoBulkAll l
 | []=>by simp
 | d::l=>by simp only[uptoBulkAll,fB]; have:=Ql d; have:=Co l; omega
theorem Ct:∀ {l:List (DataW H)} {d:DataW H},d∈l->uptoBulk d<=uptoBulkAll l
 | x::l,d,h=>by
  simp only[uptoBulkAll];rcases bH.1 h with rfl | h
  ·omega
  ·have:=Ct h; omega
def okL(_b:Nat)(ok:X->Prop)(xs:List X):Prop:=xs.length<=1048576/\∀ x,x∈xs->ok x
theorem gE{t e b:Nat}(ht:P.underlying t=some (.slice e))(hn:Nat.blt 0 (P.cellsOf e)=true)(hb:P.bytesOf e=b){X:Type}[Inhabited X]{c:X->List T}{ok:X->Prop}{fuel:Nat}(he:fS enc P W e c ok fuel)(mk:List X->T)
  (hmk:∀ xs,(mk xs).view=some (xs.length,fun i=>c (xs.getD i default))):fS enc P W t (fun xs=>[mk xs]) (okL b ok) (fuel+1):=by
 have hz:0<P.cellsOf e:=by simpa[Nat.blt_eq] using hn
 clear hn;subst hb;intro cs d ps h hw;unfold DataW.trod at h;rw[ht]at h;split at h <;> try (simp_all; done)
 ·
  rename_i hk;cases hk;refine⟨[],RdL.one (.nil (hmk [])),by simp,by simp⟩
 ·rename_i e' a len cap hk;cases hk;simp only at h;split at h
  ·rename_i hcap;simp only[Pb,kH]at h;obtain⟨elems,hel,rest,hrest,hd⟩:=h;simp only[gJ]at hd;obtain⟨rfl,rfl⟩:=hd;obtain⟨hlen,hget⟩:=yV hel;simp only[List.length_range]at hlen;have hwt:uptoBulkAll (elems.map (·.1))<=1048576:=by have hw2:uptoBulkAll (elems.map (·.1))+uptoBulkAll (rest.map (·.1))+1<=1048576:=hw;omega
   have hl:len<=1048576:=by have:=Co (elems.map (·.1));simp only[mS,hlen]at this;omega
   have each:∀ i,i<len->∃ x vs,W.cells? 0 (a.add (i*P.cellsOf e)) (P.cellsOf e)=some vs/\RdL (fun b=>b<W.heap.size) W (c x) vs/\ok x:=by
    intro i hi;have hi':i<elems.length:=by omega
    have:=hget i i elems[i] (by simp[hi]) (by simp[hi']);simp only[Pb]at this;obtain⟨vs,hvs,htr⟩:=this;obtain⟨x,h1,h2⟩:=he vs elems[i].1 elems[i].2 htr (gQ (Ct (Bd (Wh hi'))) hwt);exact⟨x,vs,hvs,h1,h2⟩
   have all:∃ xs:List X,xs.length=len/\∀ i,i<len->∃ vs,W.cells? 0 (a.add (i*P.cellsOf e)) (P.cellsOf e)=some vs/\RdL (fun b=>b<W.heap.size) W (c (xs.getD i default)) vs/\ok (xs.getD i default):=by
    clear hel hrest hget hw hwt hl hlen hcap
    induction len with
    | zero=>exact⟨[],rfl,fun i hi=>absurd hi (sX _)⟩
    | succ len ih=>
     obtain⟨xs,h1,h2⟩:=ih fun i hi=>each i (by omega);obtain⟨x,vs,h3,h4,h5⟩:=each len (by omega);refine⟨xs++[x],by simp[h1],fun i hi=>?_⟩;by_cases hil:i<len
     ·have:(xs++[x]).getD i default=xs.getD i default:=by simp[eU,pZ (show i<xs.length by omega)]
      rw[this]; exact h2 i hil
     ·have hil:i=len:=by omega
      subst hil;have:(xs++[x]).getD i default=x:=by simp[eU,<-h1]
      rw[this]; exact⟨vs,h3,h4,h5⟩
   obtain⟨xs,hxl,hxs⟩:=all;refine⟨xs,RdL.one ?_,by rw[hxl]; exact hl,fun x hx=>?_⟩
   ·have hsz:∀ i,i<len->(c (xs.getD i default)).length=P.cellsOf e:=by intro i hi;obtain⟨vs,h1,h2,_⟩:=hxs i hi;rw[<-h2.1];unfold World.cells? at h1;rw[aB (mT _)]at h1;have:=(yV h1).1; simpa using this
    have hcell:∀ i j,i<len->j<P.cellsOf e->∃ u,W.cell? (a.add (i*P.cellsOf e+j))=some u/\∀ x,(c (xs.getD i default))[j]? = some x->Rd (fun b=>b<W.heap.size) W x u:=by intro i j hi hj;obtain⟨vs,h1,h2,_⟩:=hxs i hi;unfold World.cells? at h1;rw[aB (mT _)]at h1;obtain⟨h3,h4⟩:=yV h1;simp only[List.length_range]at h3;have:=h4 j j vs[j] (by simp[hj]) (by simp[h3,hj]);rw[Addr.add_add]at this;exact⟨vs[j],this,fun x hx=>h2.2 j x vs[j] hx (by simp[h3,hj])⟩
    let vsf:Nat->Nat->Value:=fun i j=>(W.cell? (a.add (i*P.cellsOf e+j))).getD undef;refine .sl a cap (P.cellsOf e) vsf (n:=len) (f:=fun i=>c (xs.getD i default)) (by rw[hmk,hxl]) hcap.2.1 (fun hn=>?_) hsz (fun i j hi hj=>?_) (fun i j x hi hx=>?_)
    ·obtain⟨u,hu,_⟩:=hcell 0 0 hn hz;have hb:=World.block_lt_of_cell? W _ hu;have:(a.add (0*P.cellsOf e+0)).block=a.block:=by unfold Addr.add; split <;> rfl
     rw[this]at hb;exact hb
    ·obtain⟨u,hu,_⟩:=hcell i j hi hj;simp[vsf,hu]
    ·have hj:j<P.cellsOf e:=by rw[<-hsz i hi]; exact(Bq.1 hx).1
     obtain⟨u,hu,hr⟩:=hcell i j hi hj;simp only[vsf,hu,zO];exact hr x hx
   ·obtain⟨i,hi,rfl⟩:=Oy hx;obtain⟨_,_,_,h⟩:=hxs i (by omega);simpa[eU,hi] using h
  ·cases h
def Oh(enc:TypeId×Value->H)(P:Program)(W:World)(off:Nat)(fs:List Field)(c:X->List T)(ok:X->Prop)(fuel:Nat):Prop:=
 ∀ (cs:List Value) xs,fs.mapM (fun f=>DataW.trod enc P W 0 (fun _=>true) true fuel f.type ((cs.drop f.offset).take (P.cellsOf f.type)))=some xs ->
  uptoBulkAll (xs.map (·.1))<=1048576->cs.length=off+(fs.map fun f=>P.cellsOf f.type).sum->∃ x,RdL (fun b=>b<W.heap.size) W (c x) (cs.drop off)/\ok x
theorem iG{off:Nat}:Oh enc P W off [] (fun (_:Unit)=>[]) (fun _=>True) fuel:=by intro cs xs _ _ hl;simp at hl;exact⟨(),⟨by simp[hl],by simp⟩,trivial⟩
theorem aZ{off:Nat}{f:Field}{fs:List Field}{Y:Type}{c:X->List T}{c':Y->List T}{ok:X->Prop}{ok':Y->Prop}(ho:f.offset=off)(h:fS enc P W f.type c ok fuel)
  (h':Oh enc P W (off+P.cellsOf f.type) fs c' ok' fuel):Oh enc P W off (f::fs) (fun (x:X×Y)=>c x.1++c' x.2) (fun x=>ok x.1/\ok' x.2) fuel:=by
 intro cs xs hx hw hl;rw[List.mapM_cons]at hx;simp only[Option.bind_eq_bind,Pb]at hx;obtain⟨y,hy,ys,hys,hr⟩:=hx;simp at hr; subst hr;simp only[kL,uptoBulkAll]at hw;obtain⟨x,h1,h2⟩:=h _ _ _ hy (by omega);simp only[kL,List.sum_cons]at hl;obtain⟨x',h3,h4⟩:=h' cs ys hys (by omega) (by omega);refine⟨(x,x'),?_,h2,h4⟩;have:cs.drop off=(cs.drop f.offset).take (P.cellsOf f.type)++cs.drop (off+P.cellsOf f.type):=by rw[ho,<-sZ,gG]
 rw[this];exact h1.append h3
theorem fL{fs:Array Field}(ht:P.underlying t=some (.struct fs)){c:X->List T}{ok:X->Prop}(h:Oh enc P W 0 fs.toList c ok fuel)
  (hs:P.cellsOf t=(fs.toList.map fun f=>P.cellsOf f.type).sum):fS enc P W t c ok (fuel+1):=by
 intro cs d ps hd hw;unfold DataW.trod at hd;rw[ht]at hd;split at hd <;> try (simp_all; done)
 rename_i cs0 _ _ fs' hk;cases hk;split at hd
 ·rename_i hl;simp only[kH]at hd;obtain⟨xs,hxs,hd⟩:=hd;simp only[gJ]at hd;obtain⟨rfl,_⟩:=hd;have hw2:uptoBulkAll (xs.map (·.1))+1<=1048576:=hw;have:=h _ xs hxs (by omega) (by rw[hl,hs]; simp);simpa using this
 ·cases hd
theorem fS.map{Y:Type}{c:X->List T}{ok:X->Prop}{c':Y->List T}{ok':Y->Prop}(h:fS enc P W t c ok fuel)(g:X->Y)(hc:∀ x,c' (g x)=c x)(ho:∀ x,ok x->ok' (g x)):
  fS enc P W t c' ok' fuel:=by
 intro cs d ps hd hw;obtain⟨x,h1,h2⟩:=h cs d ps hd hw;exact⟨g x,by rw[hc]; exact h1,ho x h2⟩
end
theorem RdL.agg{F:Nat->Prop}{W:World}{l:List T}{v:Value}(h:RdL F W l v.cells.toList)(hv:∃ vs,v = .agg vs):Rd F W (.agg l) v:=by obtain⟨vs,rfl⟩:=hv;simp only[Value.cells]at h;exact .agg (by simpa using h.1) fun j x v hx hv=>h.2 j x v hx (by simpa using hv)
section
variable {H:Type} {enc:TypeId×Value->H} {P:Program} {W:World} {r:Reach} {base:Nat}
theorem Zr{fs:Array Field}(ht:P.underlying t=some (.struct fs)){c:X->List T}{ok:X->Prop}(hO:∀ fuel,fS enc P W t c ok fuel){d:DataW H} 
  (hv:Value.okWide P W r base t v)(h:DataW.Trod enc P W 0 (fun _=>true) true t v d ps)(hw:uptoBulk d<=1048576):∃ x,Rd (fun b=>b<W.heap.size) W (.agg (c x)) v/\ok x:=by
 obtain⟨cs,rfl,_⟩:=Go.WideShapes.okWide_struct ht hv;obtain⟨fuel,hf⟩:=h;obtain⟨x,h1,h2⟩:=hO fuel _ _ _ hf hw;exact⟨x,h1.agg ⟨cs,rfl⟩,h2⟩
theorem aEV{c:X->T}{ok:X->Prop}(hO:∀ fuel,fS enc P W t (fun x=>[c x]) ok fuel){d:DataW H} 
  (hv:v.cells=#[v])(h:DataW.Trod enc P W 0 (fun _=>true) true t v d ps)(hw:uptoBulk d<=1048576):∃ x,Rd (fun b=>b<W.heap.size) W (c x) v/\ok x:=by
 obtain⟨fuel,hf⟩:=h;obtain⟨x,h1,h2⟩:=hO fuel _ _ _ hf hw;exact⟨x,h1.2 0 _ _ (by simp) (by simp[hv]),h2⟩
theorem Ye(ht:P.underlying t=some .string){d:DataW H} 
  (hv:Value.okWide P W r base t v)(h:DataW.Trod enc P W 0 (fun _=>true) true t v d ps)(hw:uptoBulk d<=1048576):∃ x,Rd (fun b=>b<W.heap.size) W (.str x) v/\nH x:=by
 obtain⟨n,rfl⟩:=Go.WideShapes.okWide_string ht hv;exact aEV (c:=fun x=>.str x) (gM ht) rfl h hw
theorem Aq{e:TypeId}(ht:P.underlying t=some (.slice e)){c:X->T}{ok:X->Prop}(hO:∀ fuel,fS enc P W t (fun x=>[c x]) ok fuel){d:DataW H} 
  (hv:Value.okWide P W r base t v)(h:DataW.Trod enc P W 0 (fun _=>true) true t v d ps)(hw:uptoBulk d<=1048576):∃ x,Rd (fun b=>b<W.heap.size) W (c x) v/\ok x:=by
 obtain⟨a,l,q,rfl⟩:=Go.WideShapes.okWide_slice ht hv;exact aEV hO rfl h hw
end
theorem Je{W W':World}(h:Below W.heap.size W W')(may:MemPlace->Prop):W.keptBut W' may:=by
 refine⟨h.os,h.output,fun i hi=>?_⟩;rw[h.block i hi];cases W.heap[i]? with
 | none=>trivial
 | some o=>cases o <;> simp
section
variable {H:Type} {enc:TypeId×Value->H} {P:Program}
theorem wM(hl:laidOutB P=true){W W':World}(hb:Below W.heap.size W W'):∀ {ts:List TypeId} {vs:List Value} {ds:List (DataW H)} {ps:List MemPlace},
  (∀ t,t∈ts->P.readableRec t=true/\t<P.types.size)->DataW.TrodAll enc P W 0 (fun _=>true) true ts vs ds ps->(∀ x,x∈ps->x.block<W.heap.size) ->
  DataW.TrodAll enc P W' 0 (fun b=>decide (b<W.heap.size)) true ts vs ds ps
 | [],[],[],ps,_,h,_=>h
 | t::ts,v::vs,d::ds,ps,hr,h,hp=>by obtain⟨p,q,h1,h2,rfl⟩:=h;obtain⟨r1,r2⟩:=hr t (by simp);exact⟨p,q,Go.RowKit.Below.trod hl r1 r2 h1 hb (fun x hx=>hp x (wT _ hx)),wM hl hb (fun t ht=>hr t (cZ _ ht)) h2 (fun x hx=>hp x (mQ _ hx)),rfl⟩
 | [],_::_,_,_,_,h,_=>by simp[DataW.TrodAll]at h
 | [],[],_::_,_,_,h,_=>by simp[DataW.TrodAll]at h
 | _::_,[],_,_,_,h,_=>by simp[DataW.TrodAll]at h
 | _::_,_::_,[],_,_,h,_=>by simp[DataW.TrodAll]at h
theorem aSI(hlay:laidOutB P=true){f:Func}{s:ChangeSpec}{W W':World}{args:Array Value}{ds gs:List (DataW H)}{before:List MemPlace}{tb:TypeId}(hvars:s.vars=[])
  (hW:DataW.Whole enc P f.params.toList s.vars false W args.toList ds gs before)(hb:Below W.heap.size W W')(hres:f.resultTypes=#[tb])(htb:P.underlying tb=some .bool)
  (hread:∀ t,t∈f.params.toList->P.readableRec t=true/\t<P.types.size)(hfn:s.fn H (ds++gs)={ results:=[.lit (.bool true)],args:=ds }):
  s.post enc P f false true false false W args (.bool true) W':=by
 have hW':=hW;obtain⟨p,q,hA,hV,rfl,_⟩:=hW;rw[hvars]at hV;cases gs with
 | cons g gs=>simp[DataW.TrodVars]at hV
 | nil=>
  simp only[DataW.TrodVars]at hV;subst hV;have hlt:∀ x,x∈p->x.block<W.heap.size:=fun x hx=>by simpa using hW'.lt x (by simp[hx])
  refine⟨ds,[],p++[],[],p,[],hW',?_,?_,?_,Je hb _,fun h=>by cases h⟩
  ·rw[hfn,hres];exact⟨[],[],⟨1,by simp[DataW.trod,htb,Value.cells]⟩,rfl,rfl⟩
  ·rw[hfn];exact wM hlay hb hread hA hlt
  ·rw[hvars,hfn]; exact rfl
theorem gW.law{P:Program}{k:FuncId}{args:List PV}(h:gW P k args [] [] (Ret (.t (.bool true)))){W:World}{vs:Array Value}(hs:vs.size=args.length)
  (hv:∀ (j:Nat) x v,args[j]? = some x->vs[j]? = some v->VR (fun b=>b<W.heap.size) (fun _=>undef) W x v)(hg:GLP P (fun b=>b<W.heap.size) W):
  Calls P k vs W fun e W'=>e = .returned (.bool true)/\Below W.heap.size W W':=by
 refine(h (fun b=>b<W.heap.size) (fun _=>undef) W vs hs hv ⟨by simp,by simp,by simp⟩ (fun _ h=>h) hg).mono ?_;rintro e w' ⟨v,r,H',F',g',rfl,hr,hvr,hW⟩;unfold Ret at hr;subst hr;have:=hvr.inv_bool;subst this;exact⟨rfl,⟨hW.ext.os,hW.ext.tape,hW.ext.output,hW.ext.size,fun b hb=>hW.ext.block b hb (by rintro⟨o,x,hx,_⟩; simp at hx)⟩⟩
end
set_option maxRecDepth 20000
theorem o23{H:Type}{enc:TypeId×Value->H}{W:World}(fuel:Nat):fS enc Proofs.Tryz.prog W 23 (fun xs=>[eL bK (xs)]) (okL 8 eZ) fuel:=by
 cases fuel with
 | zero=>exact dE
 | succ fuel=>exact gE Proofs.Tryz.underlying23 (by kernel_rfl) (by kernel_rfl) (dI Proofs.Tryz.underlying3 fuel) (fun xs=>eL bK (xs)) (fun _=>rfl)
inductive eH:bB->Prop
 | mk0 {a b:Int} {s:ByteArray} {l:List bB} (ha:eZ a) (hb:eZ b) (hs:nH s) (hn:l.length<=1048576) (hl:∀ x,x∈l->eH x):eH (.mk a b s l)
theorem eH.mk{a b:Int}{s:ByteArray}{l:List bB}(ha:eZ a)(hb:eZ b)(hs:nH s)(hl:okL 56 eH l):eH (.mk a b s l):=.mk0 ha hb hs hl.1 hl.2
theorem aDG{H:Type}{enc:TypeId×Value->H}{W:World}:∀ fuel,fS enc Proofs.Tryz.prog W 90 dA eH fuel/\fS enc Proofs.Tryz.prog W 24 (fun xs=>[.lz (.exprs xs)]) (okL 56 eH) fuel
 | 0=>⟨dE,dE⟩
 | fuel+1=>by have ih:=aDG (enc:=enc) (W:=W) fuel;exact⟨(fL Proofs.Tryz.underlying90 (aZ (by kernel_rfl) (dI Proofs.Tryz.underlying3 fuel) (aZ (by kernel_rfl) (dI Proofs.Tryz.underlying3 fuel) (aZ (by kernel_rfl) (gM Proofs.Tryz.underlying9 fuel) (aZ (by kernel_rfl) ih.2 iG)))) (by kernel_rfl)).map (fun x=>bB.mk x.1 x.2.1 x.2.2.1 x.2.2.2.1) (fun _=>rfl) (fun x h=>.mk h.1 h.2.1 h.2.2.1 h.2.2.2.1),gE Proofs.Tryz.underlying24 (by kernel_rfl) (by kernel_rfl) ih.1 (fun xs=>.lz (.exprs xs)) (fun _=>rfl)⟩
def Xx(x:Uf):Prop:=eZ x.Kind/\eZ x.Col/\nH x.Name
theorem bMB{H:Type}{enc:TypeId×Value->H}{W:World}(fuel:Nat):fS enc Proofs.Tryz.prog W 122 Hf Xx fuel:=by
 cases fuel with
 | zero=>exact dE
 | succ fuel=>exact(fL Proofs.Tryz.underlying122 (aZ (by kernel_rfl) (dI Proofs.Tryz.underlying3 fuel) (aZ (by kernel_rfl) (dI Proofs.Tryz.underlying3 fuel) (aZ (by kernel_rfl) (gM Proofs.Tryz.underlying9 fuel) iG))) (by kernel_rfl)).map (fun x=>Uf.mk x.1 x.2.1 x.2.2.1) (fun _=>rfl) (fun x h=>⟨h.1,h.2.1,h.2.2.1⟩)
theorem o25{H:Type}{enc:TypeId×Value->H}{W:World}(fuel:Nat):fS enc Proofs.Tryz.prog W 25 (fun xs=>[eL Hf (xs)]) (okL 32 Xx) fuel:=by
 cases fuel with
 | zero=>exact dE
 | succ fuel=>exact gE Proofs.Tryz.underlying25 (by kernel_rfl) (by kernel_rfl) (bMB fuel) (fun xs=>eL Hf (xs)) (fun _=>rfl)
def Xz(x:jZ):Prop:=eH x.Pred/\eZ x.Rep
theorem o93{H:Type}{enc:TypeId×Value->H}{W:World}(fuel:Nat):fS enc Proofs.Tryz.prog W 93 fN Xz fuel:=by
 cases fuel with
 | zero=>exact dE
 | succ fuel=>exact(fL Proofs.Tryz.underlying93 (aZ (by kernel_rfl) (aDG fuel).1 (aZ (by kernel_rfl) (dI Proofs.Tryz.underlying3 fuel) iG)) (by kernel_rfl)).map (fun x=>jZ.mk x.1 x.2.1) (fun _=>rfl) (fun x h=>⟨h.1,h.2.1⟩)
theorem o26{H:Type}{enc:TypeId×Value->H}{W:World}(fuel:Nat):fS enc Proofs.Tryz.prog W 26 (fun xs=>[eL fN (xs)]) (okL 64 Xz) fuel:=by
 cases fuel with
 | zero=>exact dE
 | succ fuel=>exact gE Proofs.Tryz.underlying26 (by kernel_rfl) (by kernel_rfl) (o93 fuel) (fun xs=>eL fN (xs)) (fun _=>rfl)
def Wy(x:Ux):Prop:=nH x.Name/\eZ x.Type_/\nH x.Unit
theorem bMD{H:Type}{enc:TypeId×Value->H}{W:World}(fuel:Nat):fS enc Proofs.Tryz.prog W 354 Ik Wy fuel:=by
 cases fuel with
 | zero=>exact dE
 | succ fuel=>exact(fL Proofs.Tryz.underlying354 (aZ (by kernel_rfl) (gM Proofs.Tryz.underlying9 fuel) (aZ (by kernel_rfl) (dI Proofs.Tryz.underlying3 fuel) (aZ (by kernel_rfl) (gM Proofs.Tryz.underlying9 fuel) iG))) (by kernel_rfl)).map (fun x=>Ux.mk x.1 x.2.1 x.2.2.1) (fun _=>rfl) (fun x h=>⟨h.1,h.2.1,h.2.2.1⟩)
theorem o27{H:Type}{enc:TypeId×Value->H}{W:World}(fuel:Nat):fS enc Proofs.Tryz.prog W 27 (fun xs=>[eL Ik (xs)]) (okL 40 Wy) fuel:=by
 cases fuel with
 | zero=>exact dE
 | succ fuel=>exact gE Proofs.Tryz.underlying27 (by kernel_rfl) (by kernel_rfl) (bMD fuel) (fun xs=>eL Ik (xs)) (fun _=>rfl)
def iR(x:aG):Prop:=eZ x.Op/\okL 8 eZ x.In/\nH x.Source/\eZ x.Schema/\okL 56 eH x.Exprs/\eZ x.Kind/\eZ x.Size/\eZ x.Step/\okL 8 eZ x.Key/\okL 8 eZ x.Key2/\eZ x.Before/\eZ x.After/\eZ x.Keep/\okL 32 Xx x.Aggs/\okL 64 Xz x.Seq/\okL 40 Wy x.Cols
theorem o29{H:Type}{enc:TypeId×Value->H}{W:World}(fuel:Nat):fS enc Proofs.Tryz.prog W 29 Hr iR fuel:=by
 cases fuel with
 | zero=>exact dE
 | succ fuel=>exact(fL Proofs.Tryz.underlying29 (aZ (by kernel_rfl) (dI Proofs.Tryz.underlying3 fuel) (aZ (by kernel_rfl) (o23 fuel) (aZ (by kernel_rfl) (gM Proofs.Tryz.underlying9 fuel) (aZ (by kernel_rfl) (dI Proofs.Tryz.underlying3 fuel) (aZ (by kernel_rfl) (aDG fuel).2 (aZ (by kernel_rfl) (dI Proofs.Tryz.underlying3 fuel) (aZ (by kernel_rfl) (dI Proofs.Tryz.underlying3 fuel) (aZ (by kernel_rfl) (dI Proofs.Tryz.underlying3 fuel) (aZ (by kernel_rfl) (o23 fuel) (aZ (by kernel_rfl) (o23 fuel) (aZ (by kernel_rfl) (dI Proofs.Tryz.underlying3 fuel) (aZ (by kernel_rfl) (dI Proofs.Tryz.underlying3 fuel) (aZ (by kernel_rfl) (dI Proofs.Tryz.underlying3 fuel) (aZ (by kernel_rfl) (o25 fuel) (aZ (by kernel_rfl) (o26 fuel) (aZ (by kernel_rfl) (o27 fuel) iG)))))))))))))))) (by kernel_rfl)).map (fun x=>aG.mk x.1 x.2.1 x.2.2.1 x.2.2.2.1 x.2.2.2.2.1 x.2.2.2.2.2.1 x.2.2.2.2.2.2.1 x.2.2.2.2.2.2.2.1 x.2.2.2.2.2.2.2.2.1 x.2.2.2.2.2.2.2.2.2.1 x.2.2.2.2.2.2.2.2.2.2.1 x.2.2.2.2.2.2.2.2.2.2.2.1 x.2.2.2.2.2.2.2.2.2.2.2.2.1 x.2.2.2.2.2.2.2.2.2.2.2.2.2.1 x.2.2.2.2.2.2.2.2.2.2.2.2.2.2.1 x.2.2.2.2.2.2.2.2.2.2.2.2.2.2.2.1) (fun _=>rfl) (fun x h=>⟨h.1,h.2.1,h.2.2.1,h.2.2.2.1,h.2.2.2.2.1,h.2.2.2.2.2.1,h.2.2.2.2.2.2.1,h.2.2.2.2.2.2.2.1,h.2.2.2.2.2.2.2.2.1,h.2.2.2.2.2.2.2.2.2.1,h.2.2.2.2.2.2.2.2.2.2.1,h.2.2.2.2.2.2.2.2.2.2.2.1,h.2.2.2.2.2.2.2.2.2.2.2.2.1,h.2.2.2.2.2.2.2.2.2.2.2.2.2.1,h.2.2.2.2.2.2.2.2.2.2.2.2.2.2.1,h.2.2.2.2.2.2.2.2.2.2.2.2.2.2.2.1⟩)
def Gc(x:aE):Prop:=eZ x.Kind/\eZ x.N/\nH x.S
theorem o67{H:Type}{enc:TypeId×Value->H}{W:World}(fuel:Nat):fS enc Proofs.Tryz.prog W 67 bA Gc fuel:=by
 cases fuel with
 | zero=>exact dE
 | succ fuel=>exact(fL Proofs.Tryz.underlying67 (aZ (by kernel_rfl) (dI Proofs.Tryz.underlying3 fuel) (aZ (by kernel_rfl) (dI Proofs.Tryz.underlying3 fuel) (aZ (by kernel_rfl) (gM Proofs.Tryz.underlying9 fuel) iG))) (by kernel_rfl)).map (fun x=>aE.mk x.1 x.2.1 x.2.2.1) (fun _=>rfl) (fun x h=>⟨h.1,h.2.1,h.2.2.1⟩)
theorem o48{H:Type}{enc:TypeId×Value->H}{W:World}(fuel:Nat):fS enc Proofs.Tryz.prog W 48 (fun xs=>[eL bA (xs)]) (okL 32 Gc) fuel:=by
 cases fuel with
 | zero=>exact dE
 | succ fuel=>exact gE Proofs.Tryz.underlying48 (by kernel_rfl) (by kernel_rfl) (o67 fuel) (fun xs=>eL bA (xs)) (fun _=>rfl)
def jQ(x:aC):Prop:=eZ x.Time/\okL 32 Gc x.Row/\eZ x.N
theorem o50{H:Type}{enc:TypeId×Value->H}{W:World}(fuel:Nat):fS enc Proofs.Tryz.prog W 50 aK jQ fuel:=by
 cases fuel with
 | zero=>exact dE
 | succ fuel=>exact(fL Proofs.Tryz.underlying50 (aZ (by kernel_rfl) (dI Proofs.Tryz.underlying3 fuel) (aZ (by kernel_rfl) (o48 fuel) (aZ (by kernel_rfl) (dI Proofs.Tryz.underlying3 fuel) iG))) (by kernel_rfl)).map (fun x=>aC.mk x.1 x.2.1 x.2.2.1) (fun _=>rfl) (fun x h=>⟨h.1,h.2.1,h.2.2.1⟩)
theorem o37{H:Type}{enc:TypeId×Value->H}{W:World}(fuel:Nat):fS enc Proofs.Tryz.prog W 37 (fun xs=>[eL aK (xs)]) (okL 40 jQ) fuel:=by
 cases fuel with
 | zero=>exact dE
 | succ fuel=>exact gE Proofs.Tryz.underlying37 (by kernel_rfl) (by kernel_rfl) (o50 fuel) (fun xs=>eL aK (xs)) (fun _=>rfl)
def fJ(x:aI):Prop:=nH x.Name/\okL 8 eZ x.Params/\eZ x.Result/\eH x.Body
theorem bLY{H:Type}{enc:TypeId×Value->H}{W:World}(fuel:Nat):fS enc Proofs.Tryz.prog W 150 aV fJ fuel:=by
 cases fuel with
 | zero=>exact dE
 | succ fuel=>exact(fL Proofs.Tryz.underlying150 (aZ (by kernel_rfl) (gM Proofs.Tryz.underlying9 fuel) (aZ (by kernel_rfl) (o23 fuel) (aZ (by kernel_rfl) (dI Proofs.Tryz.underlying3 fuel) (aZ (by kernel_rfl) (aDG fuel).1 iG)))) (by kernel_rfl)).map (fun x=>aI.mk x.1 x.2.1 x.2.2.1 x.2.2.2.1) (fun _=>rfl) (fun x h=>⟨h.1,h.2.1,h.2.2.1,h.2.2.2.1⟩)
theorem o22{H:Type}{enc:TypeId×Value->H}{W:World}(fuel:Nat):fS enc Proofs.Tryz.prog W 22 (fun xs=>[eL aV (xs)]) (okL 104 fJ) fuel:=by
 cases fuel with
 | zero=>exact dE
 | succ fuel=>exact gE Proofs.Tryz.underlying22 (by kernel_rfl) (by kernel_rfl) (bLY fuel) (fun xs=>eL aV (xs)) (fun _=>rfl)
def dK(x:aW):Prop:=eZ x.Do/\eZ x.C/\okL 40 jQ x.L
theorem o39{H:Type}{enc:TypeId×Value->H}{W:World}(fuel:Nat):fS enc Proofs.Tryz.prog W 39 bO dK fuel:=by
 cases fuel with
 | zero=>exact dE
 | succ fuel=>exact(fL Proofs.Tryz.underlying39 (aZ (by kernel_rfl) (dI Proofs.Tryz.underlying3 fuel) (aZ (by kernel_rfl) (dI Proofs.Tryz.underlying3 fuel) (aZ (by kernel_rfl) (o37 fuel) iG))) (by kernel_rfl)).map (fun x=>aW.mk x.1 x.2.1 x.2.2.1) (fun _=>rfl) (fun x h=>⟨h.1,h.2.1,h.2.2.1⟩)
theorem o30{H:Type}{enc:TypeId×Value->H}{W:World}(fuel:Nat):fS enc Proofs.Tryz.prog W 30 (fun xs=>[eL bO (xs)]) (okL 40 dK) fuel:=by
 cases fuel with
 | zero=>exact dE
 | succ fuel=>exact gE Proofs.Tryz.underlying30 (by kernel_rfl) (by kernel_rfl) (o39 fuel) (fun xs=>eL bO (xs)) (fun _=>rfl)
end Go.PL
namespace Go.PL
open Go
set_option linter.unusedVariables false
set_option maxRecDepth 20000
variable {T X Y a l o r:List aC} {b bad:Bool} {c:UInt8} {d x y:aC} {e:bB} {f:ByteArray->List aC} {fs:List aI} {hi lo:Int} {i k:Nat} {ks:List ByteArray} {n:aG} {p t:List UInt8} {q:bW} {rb rest s:ByteArray} {v:aE} {α:Type}
theorem cG{S R:Type}{bd:S->Option (S⊕R)}(idx:S->Int)(N:Nat)(hN:N<=1000000000000000)(I:S->Prop){Q:R->Prop}
  (h:∀ s (k:Nat),I s->idx s=k->k<=N->Sq b (bd s) (sel (fun s'=>idx s'=IntKind.i64.wrap ((k:Int)+1)/\k<N/\I s') Q)){s:S}(hs:I s)(h0:idx s=0):Sq b (cK bd s) Q:=by
 refine Sq.while (fun s=>I s/\∃ k:Nat,idx s=k/\k<=N) (fun s=>N-(idx s).toNat) (fun s hs=>?_) ⟨hs,0,h0,by omega⟩;obtain⟨hI,k,hk,hkN⟩:=hs;refine(h s k hI hk hkN).imp fun z hz=>?_;cases z with
 | inr r=>exact hz
 | inl s'=>obtain⟨q1,q2,q3⟩:=hz;rw[aL (by omega)]at q1;exact⟨⟨q3,k+1,q1,by omega⟩,by omega⟩
theorem eH.len(h:eH e):e.Args.length<=1048576:=by cases h; assumption
theorem eH.arg(h:eH e):∀ x,x∈e.Args->eH x:=by cases h; assumption
theorem xF{x:bB}(h:x∈e.Args):SizeOf.sizeOf x<SizeOf.sizeOf e:=by
 cases e with
 | mk a b s l=>have:=List.sizeOf_lt_of_mem h;simp only[bB.Args]at this;grind
theorem Zk(e:bB)(h:eH e):Sp (G79 e) (fun _=>True):=by
 refine mB (C:=fun (a:bB) (x:Option Int)=>Con Proofs.Tryz.prog 129 [.t (cQ a)] x (fun (y:Int)=>.t (.int .i64 (y)))) (fun a=>⟨bL Proofs.Tryz.func129 (by rfl),fun _ h=>nomatch h⟩) (fun rec a=>T79 rec a) (fun rec a=>aRE rec a)
  eH (fun e=>SizeOf.sizeOf e) (fun _ _=>True) (fun b f e he hrec=>?_) true e h
 have hl:=he.len;unfold T79;simp only[Tr.den,cD];refine cG (fun s:Int×Int=>s.2) e.Args.length (by omega) (fun _=>True) (fun s k _ hk hkN=>?_) trivial rfl;obtain⟨v1,v2⟩:=s;simp only at hk;subst hk;unfold aRL;simp only[Tr.den,aS];by_cases hc:k<e.Args.length
 ·rw[aB (bI (by omega)),aB (by omega)];refine Sq.bind _ (hrec _ (he.arg _ (aT hc)) (xF (aT hc))) fun r _=>aA.2 ⟨rfl,hc,trivial⟩
 ·rw[aF (bJ (by omega))];exact aA.2 (aA.2 trivial)
theorem aQN(e:bB)(h:eH e):Sp (G80 e) (fun _=>True):=by
 refine mB (C:=fun (a:bB) (x:Option Int)=>Con Proofs.Tryz.prog 130 [.t (cQ a)] x (fun (y:Int)=>.t (.int .i64 (y)))) (fun a=>⟨bL Proofs.Tryz.func130 (by rfl),fun _ h=>nomatch h⟩) (fun rec a=>T80 rec a) (fun rec a=>Zj rec a)
  eH (fun e=>SizeOf.sizeOf e) (fun _ _=>True) (fun b f e he hrec=>?_) true e h
 have hl:=he.len;unfold T80;simp only[Tr.den,cD];refine cG (fun s:Int×Int=>s.2) e.Args.length (by omega) (fun _=>True) (fun s k _ hk hkN=>?_) trivial rfl;obtain⟨v1,v2⟩:=s;simp only at hk;subst hk;unfold Zv;simp only[Tr.den,aS];by_cases hc:k<e.Args.length
 ·rw[aB (bI (by omega)),aB (by omega)];refine Sq.bind _ (hrec _ (he.arg _ (aT hc)) (xF (aT hc))) fun r _=>aA.2 ⟨rfl,hc,trivial⟩
 ·rw[aF (bJ (by omega))];exact aA.2 (aA.2 trivial)
theorem aCQ(fs:List Int)(e:bB)(hf:fs.length<=1100000)(h:eH e):Sp (bJN fs e) (fun _=>True):=by
 refine mB (C:=fun (a:(List Int)×bB) (x:Option Int)=>Con Proofs.Tryz.prog 211 [.t (eL bK (a.1)),.t (cQ a.2)] x (fun (y:Int)=>.t (.int .i64 (y)))) (fun a=>⟨bL Proofs.Tryz.func211 (by rfl),fun _ h=>nomatch h⟩) (fun rec a=>aSE rec a.1 a.2) (fun rec a=>aBT rec a.1 a.2)
  (fun a=>a.1.length<=1100000/\eH a.2) (fun a=>SizeOf.sizeOf a.2) (fun _ _=>True) (fun b f a ha hrec=>?_) true (fs,e) ⟨hf,h⟩
 obtain⟨fs,e⟩:=a;obtain⟨hf,he⟩:=ha;simp only at hf he hrec ⊢;have hl:=he.len;unfold aSE;simp only[Tr.den,cD];refine cG (fun s:List Int×Int=>s.2) e.Args.length (by omega) (fun s=>s.1.length=s.2.toNat) (fun s k hI hk hkN=>?_) rfl rfl;obtain⟨v1,v2⟩:=s;simp only at hk hI;subst hk;unfold aBS;simp only[Tr.den,aS]at hI ⊢;by_cases hc:k<e.Args.length
 ·rw[aB (bI (by omega)),aB (by omega)];refine Sq.bind _ (hrec (fs,e.Args.getD k default) ⟨hf,he.arg _ (aT hc)⟩ (xF (aT hc))) fun r _=>?_;rw[aB (by grind)];refine aA.2 ⟨rfl,hc,?_⟩;rw[aL (by omega)]; simp; omega
 ·rw[aF (bJ (by omega))];refine aA.2 ?_;simp only[sel];have hv:v1.length=e.Args.length:=by omega
  have rest:Sq b ((cK (fun s=>(Ot s).den) (1,v1,0)).bind (sel (fun b10=>((if (e.Op==22)=true then (if decide (e.N>=0)=true then some (decide (e.N<(fs.length:Int))) else some false) else some false)).bind fun j11=>
    ((if j11=true then (if 0<=e.N/\e.N<(fs.length:Int) then some (if (1099511627776:Int)<IntKind.i64.wrap (b10+fs.getD e.N.toNat default) then (1099511627776:Int) else IntKind.i64.wrap (b10+fs.getD e.N.toNat default)) else none) else some b10)).bind fun j12=>some j12) some)) (fun _=>True):=by
   rw[cD];refine cG (fun s:Int×List Int×Int=>s.2.2) v1.length (by omega) (fun s=>s.2.1=v1) (fun s k hI hk hkN=>?_) rfl rfl;obtain⟨w1,w2,w3⟩:=s;simp only at hk hI;subst hk hI;unfold Ot;simp only[Tr.den,aS];by_cases hc:k<w2.length
   ·rw[aB (bI (by omega)),aB (by omega),aB hc];exact aA.2 ⟨rfl,hc,rfl⟩
   ·rw[aF (bJ (by omega))];refine aA.2 ?_;simp only[sel,oF];by_cases h22:(e.Op==22)=true
    ·rw[aB h22];simp only[aH];by_cases hr:e.N>=0/\e.N<(fs.length:Int)
     ·rw[aB (bI hr),aB hr]; exact aA.2 trivial
     ·rw[aF (bJ hr)]; exact aA.2 trivial
    ·rw[aF h22]; exact aA.2 trivial
  by_cases h21:(e.Op==21)=true
  ·rw[aB h21];simp only[aH];by_cases h3:((v1.length:Int)==3)=true
   ·rw[aB h3];have h3':v1.length=3:=by grind
    rw[aB (by omega),aB (by omega),aB (by omega),aB (by omega),aB (by omega),aB (by omega)];exact aA.2 trivial
   simp_all
  grind
theorem okEs.get{l:List bB}(h:okL 56 eH l)(hk:k<l.length):eH (l.getD k default):=h.2 _ (aT hk)
theorem aEF(a b c:Int):bHF a b c=some (decide (b<=a/\a<=c)):=by unfold bHF bDX;simp only[Tr.den,oF,aH]
theorem bGS(l types:List Int)(h:l.length<=1048576):Sp (G88 l types) (fun r=>r=true->∀ c,c∈l->0<=c/\c<types.length):=by
 unfold G88 T88;simp only[Tr.den,cD];refine cG (fun s:Int=>s) l.length (by omega) (fun s=>∀ c,c∈l.take s.toNat->0<=c/\c<types.length) (fun s k hI hk hkN=>?_) (by simp) rfl;subst hk;unfold aSL;simp only[Tr.den,aS]at hI ⊢;by_cases hc:k<l.length
 ·rw[aB (bI (by omega)),aB (by omega)];by_cases h1:l.getD k default<0
  ·rw[aB (bI h1)];exact aA.2 (aA.2 fun h=>by cases h)
  ·rw[aF (bJ h1),aB (by omega)];simp only[aH];by_cases h2:l.getD k default>=types.length
   ·rw[aB (bI h2)];exact aA.2 (aA.2 fun h=>by cases h)
   ·rw[aF (bJ h2)];refine aA.2 ⟨rfl,hc,fun c hcm=>?_⟩;rw[aL (by omega),aS,aQ hc,dC,cR]at hcm;grind
 ·rw[aF (bJ (by omega))];refine aA.2 (aA.2 fun _=>?_)
  rwa [fT (by omega)]at hI
theorem aTH(v:aE):Sp (aSK v) (fun _=>True):=by
 unfold aSK aWZ;simp only[Tr.den];refine aO (fun _=>aA.2 trivial) fun _=>aO (fun _=>Sq.bind (fun _=>True) ?_ fun _ _=>aA.2 trivial) fun _=>Sq.bind (fun _=>True) ?_ fun _ _=>aA.2 trivial
 ·exact aO (fun _=>aA.2 trivial) fun _=>aA.2 trivial
 ·exact aO (fun _=>aO (fun _=>aA.2 trivial) fun _=>aO (fun _=>aA.2 trivial) fun _=>aA.2 trivial) fun _=>aA.2 trivial
theorem aSW(r:List aE)(h:r.length<=1048576):Sp (aLP r) (fun _=>True):=by
 unfold aLP bAU;simp only[Tr.den,cD];refine cG (fun s:Int=>s) r.length (by omega) (fun s=>True) (fun s k hI hk hkN=>?_) trivial rfl;subst hk;unfold Nn;simp only[Tr.den,aS];by_cases hc:k<r.length
 ·rw[aB (bI (by omega)),aB (by omega)];refine Sq.bind _ (aTH _) fun q _=>?_;cases q with
  | false=>exact aA.2 (aA.2 trivial)
  | true=>exact aA.2 ⟨rfl,hc,trivial⟩
 ·rw[aF (bJ (by omega))];exact aA.2 (aA.2 trivial)
theorem bDQ(r:List aE)(h:r.length<=1048576):Sp (G78 r) (fun _=>True):=by unfold G78 T78;simp only[Tr.den];refine Sq.bind (fun _=>True) ?_ fun _ _=>aA.2 trivial;exact aO (fun _=>Sq.bind _ (aSW r h) fun _ _=>aA.2 trivial) fun _=>aA.2 trivial
theorem bCZ(x:aC)(types:List Int)(h:x.Row.length<=1048576)(ht:types.length<=1048576):Sp (G30 [x] types 1) (fun r=>r=true->0<=x.Time/\x.Time<=2199023255552/\x.Row.length=types.length):=by
 unfold G30 T30;simp only[Tr.den,cD];refine cG (fun s:Int=>s) 1 (by omega) (fun s=>1<=s.toNat->0<=x.Time/\x.Time<=2199023255552/\x.Row.length=types.length) (fun s k hI hk hkN=>?_) (by simp) rfl;subst hk;unfold Sa;simp only[Tr.den,aS,oF,aH]at hI ⊢;by_cases hc:k<1
 ·obtain rfl:k=0:=by omega
  have e0:([x]:List aC).getD 0 default=x:=rfl;have el:(([x]:List aC).length:Int)=1:=rfl;rw[aB (bI (by omega)),aB (by omega)];have rest:0<=x.Time/\x.Time<=2199023255552/\x.Row.length=types.length ->
    Sp ((cK (fun s=>(Ie [x] types ((0:Nat):Int) s).den) 0).bind (sel (fun _=>some (Sum.inl (IntKind.i64.wrap (((0:Nat):Int)+1)))) some)) (sel (fun s':Int=>s'=IntKind.i64.wrap (((0:Nat):Int)+1)/\0<1/\(1<=s'.toNat->0<=x.Time/\x.Time<=2199023255552/\x.Row.length=types.length)) (fun r:Unit⊕Bool=>Sp (sel (fun _=>some (decide ((1:Int)<=1))) some r) (fun r=>r=true->0<=x.Time/\x.Time<=2199023255552/\x.Row.length=types.length))):=by
   intro hx;have e2:(([x]:List aC).getD 0 default).Row.length=types.length:=hx.2.2;refine cD.2 ?_;refine cG (fun s:Int=>s) types.length (by omega) (fun s=>True) (fun s k hI hk hkN=>?_) trivial rfl;subst hk;unfold Ie;simp only[Tr.den,aS];by_cases hc:k<types.length
   ·rw[aB (bI (by omega)),aB (by omega),aB (by omega),aB (by omega)];split
    ·exact aA.2 (aA.2 (aA.2 fun h=>by cases h))
    ·exact aA.2 ⟨rfl,hc,trivial⟩
   ·rw[aF (bJ (by omega))];exact aA.2 (aA.2 ⟨rfl,by omega,fun _=>hx⟩)
  refine Sq.bind (fun j:Bool=>j=false->0<=x.Time/\x.Time<=2199023255552/\x.Row.length=types.length) ?_ (fun j hj=>?_)
  ·refine aO (fun _=>aA.2 fun h=>by cases h) fun q1=>tR (by omega) (aO (fun _=>aA.2 fun h=>by cases h) fun q2=>tR (by omega) (aO (fun _=>aA.2 fun h=>by cases h) fun q3=>tR (by omega) (aO (fun _=>aA.2 fun h=>by cases h) fun q4=>tR (by omega) (aO (fun _=>aA.2 fun h=>by cases h) fun q5=>tR (by omega) (Sq.bind _ (bDQ _ h) fun r _=>aA.2 fun _=>?_)))));grind
  ·cases j with
   | true=>exact aA.2 (aA.2 fun h=>by cases h)
   | false=>simp_all
 ·obtain rfl:k=1:=by omega
  rw[aF (bJ (by simp))];exact aA.2 (aA.2 fun _=>hI (by omega))
theorem jQ.okd(h:okL 40 jQ l):okD l:=⟨fun d hd=>by have:=(h.2 d hd).2.1.1;unfold okR; omega,fun d hd=>(h.2 d hd).2.2⟩
theorem yT(n:aG)(i:Int)(k:ByteArray)(l r:List aC):ofK n i k (l++r)=ofK n i k l++ofK n i k r:=qP ..
theorem gP.ofK{l r:List aC}(h:gP l r)(n:aG)(i:Int)(k:ByteArray):gP (ofK n i k l) (ofK n i k r):=h.filter (fun p=>decide (aVJ n i p.2=k))
theorem gP.aft{l r:List aC}(h:gP l r)(t:Int):gP (l.filter (PL.aft t)) (r.filter (PL.aft t)):=h.filter (fun p=>decide (t<p.1))
theorem eK{i:Int}{k:ByteArray}:x∈ofK n i k l↔x∈l/\kd n i x=k:=by unfold ofK;rw[iB,kW]
theorem pH{i:Int}{k:ByteArray}{t:Int}(ha:Can a)(hl:okN l)(hal:∀ d,d∈l->aft t d=true):
  cons (ofK n i k (a.filter (aft t))++ofK n i k (cons l))=ofK n i k ((cons (a++l)).filter (aft t)):=by
 have hal':okN (a++l):=fun x hx=>(dC.1 hx).elim (ha.n64 x) (hl x);have hcl:=eO hl;refine oI ((((eO hal').filter _)).filter _) (fun x hx=>?_) ?_
 ·rcases dC.1 hx with hx | hx
  ·exact ha.n64 x (iB.1 (eK.1 hx).1).1
  ·exact hcl.n64 x (eK.1 hx).1
 ·have h1:gP (ofK n i k ((cons (a++l)).filter (aft t))) (ofK n i k ((a++l).filter (aft t))):=((eY (a++l)).aft t).ofK n i k;have h2:ofK n i k ((a++l).filter (aft t))=ofK n i k (a.filter (aft t))++ofK n i k l:=by rw[qP,rW.2 hal,yT]
  rw[h2]at h1;exact h1.trans (gP.app (.refl _) ((eY l).ofK n i k).symm)
theorem aDM{t t':Int}(h:t<=t')(l:List aC):(l.filter (aft t)).filter (aft t')=l.filter (aft t'):=by
 rw[rE]
 congr 1
 funext d;unfold aft;grind
theorem yA(p q:aC->Bool)(l:List aC):(l.filter p).filter q=(l.filter q).filter p:=by rw[rE,rE];grind
theorem lR{f g:ByteArray->Int}(h:∀ k,k∈ks->f k=g k):iW f ks=iW g ks:=by
 induction ks with
 | nil=>rfl
 | cons k ks ih=>simp only[iW,h k dB,ih fun k' hk=>h k' (cZ _ hk)]
theorem aON(f g:ByteArray->Int)(ks:List ByteArray):iW (fun k=>f k+g k) ks=iW f ks+iW g ks:=by
 induction ks with
 | nil=>rfl
 | cons k ks ih=>simp only[iW,ih]; omega
theorem Ah(ks:List ByteArray):iW (fun _=>0) ks=0:=by
 induction ks with
 | nil=>rfl
 | cons k ks ih=>simp only[iW,ih]; rfl
theorem Vg(q:ByteArray)(v:Int):∀ (ks:List ByteArray),ks.Nodup->q∈ks->iW (fun k=>if q=k then v else 0) ks=v
 | [],_,h=>by simp at h
 | k::ks,hn,h=>by
  have h1:=List.nodup_cons.1 hn;simp only[iW];by_cases hq:q=k
  ·subst hq;rw[aB rfl,lR (f:=fun k=>if q=k then v else 0) (g:=fun _=>0) (fun k' hk'=>aF (fun he:q=k'=>h1.1 (he▸hk'))),Ah]; omega
  ·rw[aF hq,Vg q v ks h1.2 ((bH.1 h).resolve_left hq)]; omega
theorem Gq(p:Pl->Bool)(n:aG)(i:Int)(ks:List ByteArray)(hn:ks.Nodup):∀ (l:List aC),(∀ x,x∈l->kd n i x∈ks)->iW (fun k=>wt p (ofK n i k l)) ks=wt p l
 | [],_=>by refine Eq.trans (lR (g:=fun _=>0) fun k _=>rfl) (Ah ks)
 | x::l,h=>by
  have ih:=Gq p n i ks hn l fun y hy=>h y (cZ _ hy);have e:∀ k,wt p (ofK n i k (x::l))=(if kd n i x=k then (if p (pl x)=true then x.N else 0) else 0)+wt p (ofK n i k l):=by
   intro k;unfold ofK;by_cases hk:kd n i x=k
   ·rw[Tm (p:=fun d=>decide (kd n i d=k)) (bI hk),aB hk]; rfl
   simp_all
  rw[lR fun k _=>e k,aON,ih,Vg _ _ ks hn (h x dB)];rfl
theorem aOA{a b:Int}:W a=W b↔∃ k:Int,a=b+k*18446744073709551616:=by
 show IntKind.i64.wrap a=IntKind.i64.wrap b↔_;rw[qG,qG];constructor
 ·intro h;exact⟨(a+9223372036854775808) / 18446744073709551616-(b+9223372036854775808) / 18446744073709551616,by omega⟩
 omega
theorem W_W(a:Int):W (W a)=W a:=Al a
theorem bJY{a b c d:Int}(h:W a=W c)(h':W b=W d):W (a-b)=W (c-d):=by obtain⟨k,rfl⟩:=aOA.1 h;obtain⟨k',rfl⟩:=aOA.1 h';exact aOA.2 ⟨k-k',by omega⟩
theorem jU(h:s.size<=1000000000000):(nN s).size<=s.size+23:=by have:=jX (n:=(s.size:Int)) ⟨by omega,by omega⟩;unfold nN;rw[eX,eX,eX,sz1,sz1];omega
theorem aBN(h:s.size<=1000000000000):G52 s=some (nN s):=by
 have h1:=jX (n:=(s.size:Int)) ⟨by omega,by omega⟩;have h2:aIM (s.size:Int)=some (kE s.size):=zT ⟨by omega,by omega⟩;generalize hi:kE (s.size:Int)=z at h1 h2;have e1:(z++(⟨#[58]⟩:ByteArray)).size=z.size+1:=eX;have e2:((z++(⟨#[58]⟩:ByteArray))++s).size=z.size+1+s.size:=by rw[eX,e1]
 unfold G52 T52;refine(Fw h2).trans ?_;refine(jR ?_).trans ((jR ?_).trans ((jR ?_).trans ?_))
 ·grind
 ·omega
 ·rw[e2,sz1]; omega
 ·unfold nN;rw[hi];rfl
structure bHG (r:List aE):Prop where
 l:r.length<=12
 v:Dd r
 s:∀ v,v∈r->v.S.size<=1048576
def okZ(l:List aC):Prop:=∀ d,d∈l->bHG d.Row
theorem okZ.sub(h:okZ l)(hs:∀ x,x∈r->x∈l):okZ r:=fun x hx=>h x (hs x hx)
theorem okZ.cons{l:List aC}(h:okZ l):okZ (PL.cons l):=fun x hx=>by obtain⟨z,hz,e⟩:=jD hx;have:x.Row=z.Row:=congrArg Prod.snd e;rw[this]; exact h z hz
theorem okZ.app(h:okZ l)(h':okZ r):okZ (l++r):=fun x hx=>(dC.1 hx).elim (h x) (h' x)
theorem okZ.get(h:okZ l)(k:Nat):bHG (l.getD k default).Row:=by
 by_cases hk:k<l.length
 ·exact h _ (aT hk)
 ·rw[eU,Ao (by omega)];exact⟨mT _,fun v hv=>(by cases hv),fun v hv=>(by cases hv)⟩
theorem Cj(b:ByteArray):∀ (r:List aE),Dd r->(∀ v,v∈r->v.S.size<=1048576)->(r.foldl (fun b v=>b++iH v) b).size<=b.size+r.length*1048700
 | [],_,_=>by simp
 | v::r,h,hs=>by
  have h1:=Cj (b++iH v) r (fun x hx=>h x (cZ _ hx)) fun x hx=>hs x (cZ _ hx);have hv:=h v dB;have q1:=bY hv.k;have q2:=bY hv.n;have q3:=vV hv.s;have q4:=hs v dB;have h2:(iH v).size<=1048700:=by unfold iH;grind
  grind
theorem xH{r:List aE}(h:bHG r):(iA r).size<=12600000:=by have h1:=Cj ((⟨#[]⟩:ByteArray)++dU (r.length:Int)) r h.v h.s;have h2:=bY (n:=(r.length:Int)) ⟨by omega,by have:=h.l; omega⟩;have h3:=h.l;rw[eX,show (⟨#[]⟩:ByteArray).size=0 from rfl]at h1;have:r.length*1048700<=12*1048700:=xN h3 (dL _);unfold iA;omega
def bl(b:ByteArray):List UInt8:=b.data.toList
theorem eI(a b:ByteArray):bl (a++b)=bl a++bl b:=by unfold bl; rw[ByteArray.data_append,Array.toList_append]
theorem iP{a b:ByteArray}(h:bl a=bl b):a=b:=by cases a; cases b; simp[bl]at h; simp[h]
theorem vC{d:Nat}(h:d<10):(UInt8.ofNat (48+d)).toNat=48+d:=by rw[UInt8.toNat_ofNat']; omega
def aKD(l:List UInt8):Nat:=l.foldl (fun a b=>a*10+(b.toNat-48)) 0
theorem qJ(u:Nat):aKD (Lib.decDigits u)=u:=by
 induction u using Nat.strongRecOn with
 | _ u ih=>
  by_cases h:u<10
  ·rw[Lib.decDigits,dif_pos h];simp only[aKD,kD,Fj];rw[vC h]; omega
  ·rw[Lib.decDigits,dif_neg h];have:=ih (u / 10) (by omega);unfold aKD at this ⊢;rw[lI,this];simp only[kD,Fj];rw[vC (by omega)]; omega
theorem rD(u:Nat):∀ b,b∈Lib.decDigits u->48<=b.toNat/\b.toNat<=57:=by
 induction u using Nat.strongRecOn with
 | _ u ih=>
  intro b hb;by_cases h:u<10
  ·rw[Lib.decDigits,dif_pos h,cR]at hb;rw[hb,vC h]; omega
  ·rw[Lib.decDigits,dif_neg h,dC,cR]at hb;rcases hb with hb | rfl
   ·grind
   ·rw[vC (by omega)]; omega
theorem aMY(n:Int):∀ b,b∈Lib.itoa n->b.toNat=45\/(48<=b.toNat/\b.toNat<=57):=by
 intro b hb;unfold Lib.itoa at hb;split at hb
 ·rcases bH.1 hb with rfl | hb
  ·simp_all
  ·exact .inr (rD _ b hb)
 ·exact .inr (rD _ b hb)
theorem bKS(u:Nat)(l:List UInt8):Lib.decDigits u≠45::l:=by intro h;have:=rD u 45 (by simp_all);simp_all
theorem Vt{n m:Int}(h:Lib.itoa n=Lib.itoa m):n=m:=by
 unfold Lib.itoa at h;split at h <;> split at h
 ·have:=congrArg aKD (Be h).2;rw[qJ,qJ]at this; omega
 ·exact absurd h.symm (bKS _ _)
 ·exact absurd h (bKS _ _)
 ·have:=congrArg aKD h;rw[qJ,qJ]at this; omega
theorem wS{c:UInt8}:∀ {l l' x y:List UInt8},(∀ b,b∈l->b≠c)->(∀ b,b∈l'->b≠c)->l++c::x=l'++c::y->l=l'/\x=y
 | [],[],x,y,_,_,h=>⟨rfl,(Be h).2⟩
 | [],b::l',x,y,_,h',h=>absurd (Be h).1.symm (h' b dB)
 | b::l,[],x,y,h',_,h=>absurd (Be h).1 (h' b dB)
 | b::l,b'::l',x,y,h1,h2,h=>by obtain⟨e1,e2⟩:=Be h;obtain⟨q1,q2⟩:=wS (fun b hb=>h1 b (cZ _ hb)) (fun b hb=>h2 b (cZ _ hb)) e2;simp_all
theorem uU(n:Int)(h:58<=c.toNat):∀ b,b∈Lib.itoa n->b≠c:=by rintro b hb rfl;have:=aMY n b hb;omega
theorem aDW(n:Int):bl (kE n)=Lib.itoa n:=rfl
theorem lV(n:Int):bl (dU n)=Lib.itoa n++[59]:=by rfl
theorem Qi{n m:Int}{x y:List UInt8}(h:bl (dU n)++x=bl (dU m)++y):n=m/\x=y:=by rw[lV,lV,cT,cT]at h;obtain⟨q1,q2⟩:=wS (uU n (by decide)) (uU m (by decide)) h;exact⟨Vt q1,q2⟩
theorem zV(s:ByteArray):bl (nN s)=Lib.itoa s.size++58::(bl s++[44]):=by unfold nN;rw[eI,eI,eI,aDW];simp[bl]
theorem aUP{t:ByteArray}{x y:List UInt8}(h:bl (nN s)++x=bl (nN t)++y):s=t/\x=y:=by
 rw[zV,zV,cT,cT]at h;obtain⟨q1,q2⟩:=wS (uU _ (by decide)) (uU _ (by decide)) h;have hs:=Vt q1;have hl:(bl s).length=(bl t).length:=by
  have e:∀ z:ByteArray,(bl z).length=z.size:=fun z=>by rfl
  grind
 have q2':(bl s++[44])++x=(bl t++[44])++y:=q2;rw[cT,cT]at q2';obtain⟨q3,q4⟩:=List.append_inj q2' hl;exact⟨iP q3,(Be q4).2⟩
theorem aYN{w:aE}{x y:List UInt8}(h:bl (iH v)++x=bl (iH w)++y):v=w/\x=y:=by unfold iH at h;rw[eI,eI,eI,eI]at h;simp only[cT]at h;obtain⟨q1,h⟩:=Qi h;obtain⟨q2,h⟩:=Qi h;obtain⟨q3,h⟩:=aUP h;refine⟨?_,h⟩;cases v; simp_all
theorem aDR(b:ByteArray):∀ r:List aE,bl (r.foldl (fun b v=>b++iH v) b)=bl b++r.flatMap (fun v=>bl (iH v))
 | []=>by simp
 | v::r=>by rw[kD,aDR,eI,jM,cT]
theorem Zl(r:List aE):bl (iA r)=bl (dU r.length)++r.flatMap (fun v=>bl (iH v)):=by unfold iA;rw[aDR,eI]; rfl
theorem Tj:∀ {r s:List aE} {x y:List UInt8},r.length=s.length->r.flatMap (fun v=>bl (iH v))++x=s.flatMap (fun v=>bl (iH v))++y->r=s/\x=y
 | [],[],x,y,_,h=>⟨rfl,h⟩
 | [],_::_,_,_,h,_=>by cases h
 | _::_,[],_,_,h,_=>by cases h
 | v::r,w::s,x,y,hl,h=>by rw[jM,jM,cT,cT]at h;obtain⟨q1,q2⟩:=aYN h;obtain⟨q3,q4⟩:=Tj (by simp_all) q2;simp_all
theorem Gh{r s:List aE}(h:iA r=iA s):r=s:=by have h:=congrArg (fun b=>bl b++[]) h;simp only[Zl]at h;rw[cT,cT]at h;obtain⟨q1,q2⟩:=Qi h;exact(Tj (by omega) q2).1
def Ed(a:Nat)(b:UInt8):Nat:=a*10+(b.toNat-48)
theorem Nk:∀ (l:List UInt8) (a:Nat),a<=l.foldl Ed a
 | [],a=>dL _
 | b::l,a=>by rw[kD];refine gQ ?_ (Nk l _);unfold Ed; omega
theorem Mf:∀ (l:List UInt8) (a:Nat),(∀ b,b∈l->48<=b.toNat/\b.toNat<=57)->l.foldl Ed a<18446744073709551616->Lib.parseUint10 a l = .ok (l.foldl Ed a)
 | [],a,_,_=>rfl
 | b::l,a,h,hl=>by have h0:=h b dB;rw[kD]at hl ⊢;have h1:=Nk l (Ed a b);have e:a*10+(b.toNat-48)=Ed a b:=rfl;unfold Lib.parseUint10;rw[aB h0,aF (by omega),aF (by omega),e];exact Mf l _ (fun c hc=>h c (cZ _ hc)) hl
theorem Jr(u:Nat):Lib.decDigits u≠[]:=by
 unfold Lib.decDigits;split
 ·simp
 ·simp
theorem xV(u:Nat)(h:u<18446744073709551616):Lib.parseMag (Lib.decDigits u) = .ok u:=by unfold Lib.parseMag;rw[aF (Jr u)];have e:(Lib.decDigits u).foldl Ed 0=u:=qJ u;rw[Mf _ 0 (rD u) (by omega),e]
theorem aHE{n:Int}(h:fF n):Lib.atoiAll (Lib.itoa n) = .ok n:=by
 obtain⟨h1,h2⟩:=h;unfold Lib.itoa;split
 ·rename_i hn;unfold Lib.atoiAll;have e:(45:UInt8).toNat=45:=rfl;simp only[e,or_true,fZ];rw[xV _ (by omega)];grind
 ·rename_i hn;have hm:=xV n.toNat (by omega);have hd:=rD n.toNat;generalize hl:Lib.decDigits n.toNat=l at hm hd;cases l with
  | nil=>exact absurd hl (Jr _)
  | cons c r=>have hc:=hd c dB;unfold Lib.atoiAll;grind
theorem Nt:∀ (k u:Nat),u<10 ^ (k+1)->Lib.nDigits u<=k+1
 | 0,u,h=>by rw[Lib.nDigits_small (by omega)]; omega
 | k+1,u,h=>by
  unfold Lib.nDigits;split
  ·omega
  ·have:=Nt k (u / 10) (by omega);omega
theorem Ii{n:Int}(h:fF n):(Lib.itoa n).length<=20:=by
 obtain⟨h1,h2⟩:=h;have hk:∀ u:Nat,u<=9223372036854775808->(Lib.decDigits u).length<=19:=fun u hu=>by rw[Lib.decDigits_length];exact Nt 18 u (by omega)
 unfold Lib.itoa;grind
theorem wD{c:UInt8}:∀ (l t:List UInt8),(∀ b,b∈l->b≠c)->Lib.indexByte (l++c::t) c=(l.length:Int)
 | [],t,_=>by simp[Lib.indexByte]
 | b::l,t,h=>by
  have h1:=wD l t fun x hx=>h x (cZ _ hx);have h2:(b==c)=false:=by simp_all
  rw[rV];unfold Lib.indexByte;simp_all
theorem eR(s:ByteArray)(a b:Nat):bl (s.extract a b)=((bl s).take b).drop a:=by unfold bl;rw[ByteArray.data_extract,Array.toList_extract];simp[List.drop_take]
theorem bZ(s:ByteArray):(bl s).length=s.size:=by rfl
theorem w8{n:Int}(h0:0<=n)(h1:n<=255):IntKind.u8.wrap n=n:=by simp only[IntKind.wrap,IntKind.bits,IntKind.signed];simp;omega
theorem bKH(x:Int):aHP (([x]:List Int)).length (eF cU8 ([x]:List Int))=⟨#[UInt8.ofNat x.toNat]⟩:=rfl
def To(u:Nat):ByteArray:=⟨(Lib.decDigits u).toArray⟩
theorem uN(u:Nat)(h:u<=9223372036854775808):(To u).size<=21:=by
 have h1:=Lib.itoa_length_le (-(u:Int)) (by omega) (by omega);show (Lib.decDigits u).toArray.size<=21;rw[Cc];by_cases hu:u=0
 ·subst hu; rw[Lib.decDigits,dif_pos (by decide)]; decide
 ·rw[Lib.itoa_neg u (by omega)]at h1;grind
theorem bAE(b:Bool)(n:Int)(h:n<=0 /\ -9223372036854775808<=n):Sq b (aYS n) (fun d=>d=To n.natAbs):=by
 refine mB (C:=fun (a:Int) (x:Option (ByteArray))=>Con Proofs.Tryz.prog 195 [.t (.int .i64 (a))] x (fun (y:ByteArray)=>.t (.str (y)))) (fun a=>⟨bL Proofs.Tryz.func195 (by rfl),fun _ h=>nomatch h⟩) (fun rec a=>aMB rec a) (fun rec a=>aBB rec a)
  (fun n=>n<=0 /\ -9223372036854775808<=n) (fun n=>n.natAbs) (fun n d=>d=To n.natAbs) (fun b f n hn hrec=>?_) b n h
 obtain⟨u,rfl⟩:∃ u:Nat,n = -(u:Int):=⟨n.natAbs,by omega⟩;have hu:u<=9223372036854775808:=by omega
 have e1:Int.tmod (-(u:Int)) 10 = -((u % 10:Nat):Int):=by rw[Int.neg_tmod]; rfl
 have e2:Int.tdiv (-(u:Int)) 10 = -((u / 10:Nat):Int):=by simp_all
 have e3:IntKind.u8.wrap (IntKind.i64.wrap (48-Int.tmod (-(u:Int)) 10))=((48+u % 10:Nat):Int):=by rw[e1,bS (by omega) (by omega),w8 (by omega) (by omega)]; omega
 have e4:IntKind.i64.wrap (Int.tdiv (-(u:Int)) 10) = -((u / 10:Nat):Int):=by rw[e2,bS (by omega) (by omega)]
 have ea:(-(u:Int)).natAbs=u:=by omega
 unfold aMB;simp only[Tr.den];rw[e3,e4,bKH,aS,ea];by_cases hs:u<10
 ·rw[aB (bI (by omega))];refine aA.2 ?_;unfold To;rw[Lib.decDigits,dif_pos hs,Cq hs]
 ·rw[aF (bJ (by omega))];refine Sq.bind _ (hrec _ ⟨by omega,by omega⟩ (by omega)) fun r hr=>?_;subst hr;rw[show (-((u / 10:Nat):Int)).natAbs=u / 10 by omega];have hz:=uN (u / 10) (by omega);rw[aB (by rw[sz1]; omega)];refine aA.2 (iP ?_);rw[eI];show Lib.decDigits (u / 10)++[UInt8.ofNat (48+u % 10)]=Lib.decDigits u;rw[Lib.decDigits.eq_1 u,dif_neg hs]
theorem Nw(u:Nat)(h:u<=9223372036854775808):aYS (-(u:Int))=some (To u):=by have:=Sp.eq (bAE true (-(u:Int)) ⟨by omega,by omega⟩);simp_all
theorem La(u:Nat):kE (u:Int)=To u:=by unfold kE To; rw[Lib.itoa_nonneg]
theorem aIL(u:Nat)(h:1<=u):kE (-(u:Int))=(⟨#[45]⟩:ByteArray)++To u:=by refine iP ?_;rw[eI];show Lib.itoa (-(u:Int))=[45]++Lib.decDigits u;rw[Lib.itoa_neg u h]; rfl
theorem aVD{P:Program}{Y:Type}{n:Nat}{c:Bool}{t e:Tr P Y}(h:c=true):(Tr.ite n c t e).den=t.den:=aB h
theorem bAV{P:Program}{Y:Type}{n:Nat}{c:Bool}{t e:Tr P Y}(h:¬ c=true):(Tr.ite n c t e).den=e.den:=aF h
theorem kY{n:Int}(h:fF n):G55 n=some (dU n):=by
 obtain⟨h0,h1⟩:=h;unfold G55 T55;by_cases hn:n<0
 ·obtain⟨u,rfl⟩:∃ u:Nat,n = -(u:Int):=⟨n.natAbs,by omega⟩;have hz:=uN u (by omega);refine(aVD (bI hn)).trans ((Fw (Nw u (by omega))).trans ((jR ?_).trans ((jR ?_).trans ?_)))
  ·rw[sz1]; omega
  ·rw[eX,sz1,sz1]; omega
  ·rw[<-aIL u (by omega)]; rfl
 ·obtain⟨u,rfl⟩:∃ u:Nat,n=(u:Int):=⟨n.natAbs,by omega⟩;have hz:=uN u (by omega);have e:IntKind.i64.wrap (0-(u:Int)) = -(u:Int):=by rw[show (0:Int)-(u:Int) = -(u:Int) by omega,bS (by omega) (by omega)]
  refine(bAV (bJ hn)).trans ((Fw (by rw[e]; exact Nw u (by omega))).trans ((jR ?_).trans ?_))
  ·rw[sz1]; omega
  rfl
theorem Yc(h:s.size<=1000000000000):G56 s=some (nN s):=by
 have hz:=uN s.size (by omega);have e:IntKind.i64.wrap (0-(s.size:Int)) = -(s.size:Int):=by rw[show (0:Int)-(s.size:Int) = -(s.size:Int) by omega,bS (by omega) (by omega)]
 have h2:aYS (IntKind.i64.wrap (0-(s.size:Int)))=some (kE (s.size:Int)):=by rw[e,La]; exact Nw s.size (by omega)
 rw[<-La]at hz;generalize hi:kE (s.size:Int)=z at hz h2;have e1:(z++(⟨#[58]⟩:ByteArray)).size=z.size+1:=eX;have e2:((z++(⟨#[58]⟩:ByteArray))++s).size=z.size+1+s.size:=by rw[eX,e1]
 unfold G56 T56;refine(Fw h2).trans ((jR ?_).trans ((jR ?_).trans ((jR ?_).trans ?_)))
 ·grind
 ·omega
 ·rw[e2,sz1]; omega
 ·unfold nN;rw[hi];rfl
theorem Og(n:Nat)(h:n<=1000000000000):bHP (n:Int)=some (dU (n:Int)):=by unfold bHP bDI;simp only[Tr.den];rw[aF (bJ (by omega)),kY (n:=(n:Int)) ⟨by omega,by omega⟩];rfl
theorem aSX(h:okV v):bIN v=some (iH v):=by have h1:=bY h.k;have h2:=bY h.n;have h3:=vV h.s;have h4:=h.s;unfold bIN bHO;simp only[Tr.den,kY h.k,kY h.n,Yc (s:=v.S) (by omega),aH];rw[aB (by omega),eX,aB (by omega)];rfl
theorem Ng(b:ByteArray):(⟨#[]⟩:ByteArray)++b=b:=iP (by rfl)
theorem aER(r:List aE)(h:Dd r)(hn:r.length<=1000):bIR r=some (iA r):=by
 have hs:=bY (n:=(r.length:Int)) ⟨by omega,by omega⟩;have e0:iA r=r.foldl (fun b v=>b++iH v) (dU (r.length:Int)):=by unfold iA; rw[Ng]
 unfold bIR bFI;simp only[Tr.den];rw[Og r.length (by omega),e0];simp only[aH];have h1:=bE (bd:=fun s=>(Eb r s).den) (fun i=>((r.take i).foldl (fun b v=>b++iH v) (dU (r.length:Int)),(i:Int))) r.length (r:=.inl (r.foldl (fun b v=>b++iH v) (dU (r.length:Int)))) (fun i hi=>?_) ?_
 ·refine(congrArg (fun x=>Option.bind x _) h1).trans ?_;rfl
 ·unfold Eb;simp only[Tr.den,aS];have h2:=xE (dU (r.length:Int)) (r.take i) fun v hv=>h v (xG hv);have h3:=An (h.get i);simp only[gO]at h2;rw[aB (bI (by omega)),aB (by omega),aSX (h.get i)];simp only[aH];rw[aB (by omega)];rw[aL (by omega),aQ hi,lI];rfl
 ·unfold Eb;simp only[Tr.den];rw[aF (bJ (by omega)),fW]
def lK(d:aC):ByteArray:=(dU d.Time++nN (iA d.Row))++dU d.N
def eJ(l:List aC):ByteArray:=l.foldl (fun b d=>b++lK d) (dU (l.length:Int))
structure okY (l:List aC):Prop where
 d:okD l
 z:okZ l
 t:sW l
 n:l.length<=1000
theorem okY.cons{l:List aC}(h:okY l):okY (PL.cons l):=⟨h.d.cons,h.z.cons,fun x hx=>by obtain⟨z,hz,e⟩:=jD hx;have:x.Time=z.Time:=congrArg Prod.fst e;rw[this]; exact h.t z hz,gQ (fG l) h.n⟩
theorem Cp(h:okY l)(k:Nat)(hk:k<l.length):(lK (l.getD k default)).size<=12700000:=by have hm:=aT hk;have hT:=h.t.get k;have hR:=h.z.get k;have b1:=xH hR;have iT:fF (l.getD k default).Time:=⟨by omega,by omega⟩;have b2:=jU (s:=iA (l.getD k default).Row) (by omega);have b3:=bY iT;have b4:=bY (h.d.n _ hm);unfold lK;grind
theorem qY(b:ByteArray){l:List aC}(h:okY l):∀ k,k<=l.length->((l.take k).foldl (fun b d=>b++lK d) b).size<=b.size+k*12700000
 | 0,_=>by simp
 | k+1,hk=>by have h1:=qY b h k (by omega);have h2:=Cp h k (by omega);rw[aQ (by omega),lI];grind
theorem Eo(h:okY l):(eJ l).size<=20000000000:=by have hn:=h.n;have h1:=qY (dU (l.length:Int)) h l.length (dL _);have h2:=bY (n:=(l.length:Int)) ⟨by omega,by omega⟩;rw[fW]at h1;unfold eJ;omega
theorem bLO(a b c d:ByteArray):((a++b)++c)++d=a++((b++c)++d):=by refine iP ?_;simp only[eI,cT]
theorem bDD(h:okY l):G57 l=some (eJ (PL.cons l)):=by
 have hY:=h.cons;have hn:=h.n;unfold G57 T57;simp only[Tr.den];rw[rA l h.d.r h.d.n (by omega)];simp only[aH];generalize PL.cons l=r at *
 have hr:=hY.n;rw[Og r.length (by omega)];simp only[aH];have hs:=bY (n:=(r.length:Int)) ⟨by omega,by omega⟩;have h1:=bE (bd:=fun s=>(wQ r s).den) (fun i=>((r.take i).foldl (fun b d=>b++lK d) (dU (r.length:Int)),(i:Int))) r.length (r:=.inl (eJ r)) (fun i hi=>?_) ?_
 ·refine(congrArg (fun x=>Option.bind x _) h1).trans ?_;rfl
 ·unfold wQ;simp only[Tr.den,aS];have h2:=qY (dU (r.length:Int)) hY i (by omega);have hmul:i*12700000<=1000*12700000:=xN (by omega) (dL _);have hm:=aT hi;have hT:=hY.t.get i;have hR:=hY.z.get i;have b1:=xH hR;have iT:fF (r.getD i default).Time:=⟨by omega,by omega⟩;have b2:=jU (s:=iA (r.getD i default).Row) (by omega);have b3:=bY iT;have b4:=bY (hY.d.n _ hm);have hl:=hR.l;rw[aB (bI (by omega)),aB (by omega),kY iT];simp only[aH];rw[aB (by omega),aB (by omega),aER _ hR.v (by omega)];simp only[aH];rw[Yc (by omega)];simp only[aH];rw[eX,aB (by omega),aB (by omega),kY (hY.d.n _ hm)];simp only[aH];rw[eX,eX,aB (by omega),aL (by omega),aQ hi,lI];simp only[kD,Fj];rw[bLO];rfl
 ·unfold wQ;simp only[Tr.den];rw[aF (bJ (by omega)),fW];rfl
theorem bED(h:okY l):G53 l=some (eJ (PL.cons l)):=by
 have hY:=h.cons;have hn:=h.n;unfold G53 T53;simp only[Tr.den];rw[sV l h.d.r h.d.n (by omega)];simp only[aH];generalize PL.cons l=r at *
 have hr:=hY.n;rw[Pm r.length (by omega)];simp only[aH];have hs:=bY (n:=(r.length:Int)) ⟨by omega,by omega⟩;rw[aB (by show 0+_<=_; omega),Ng];simp only[aH];have h1:=bE (bd:=fun s=>(xK r s).den) (fun i=>((r.take i).foldl (fun b d=>b++lK d) (dU (r.length:Int)),(i:Int))) r.length (r:=.inl (eJ r)) (fun i hi=>?_) ?_
 ·refine(congrArg (fun x=>Option.bind x _) h1).trans ?_;rfl
 ·unfold xK;simp only[Tr.den,aS];have h2:=qY (dU (r.length:Int)) hY i (by omega);have h3:=Cp hY i hi;have hmul:i*12700000<=1000*12700000:=xN (by omega) (dL _);have hm:=aT hi;have hT:=hY.t.get i;have hR:=hY.z.get i;have b1:=xH hR;have iT:fF (r.getD i default).Time:=⟨by omega,by omega⟩;have b2:=jU (s:=iA (r.getD i default).Row) (by omega);have b3:=bY iT;have b4:=bY (hY.d.n _ hm);have hl:=hR.l;rw[aB (bI (by omega)),aB (by omega),oX iT];simp only[aH];rw[Qq _ hR.v (by omega)];simp only[aH];rw[aBN (by omega)];simp only[aH];rw[aB (by omega),oX (hY.d.n _ hm)];simp only[aH];rw[eX,aB (by omega),eX,eX,aB (by omega)];simp only[aH];rw[aL (by omega),aQ hi,lI];rfl
 ·unfold xK;simp only[Tr.den];rw[aF (bJ (by omega)),fW];rfl
def mkB(l:List UInt8):ByteArray:=⟨l.toArray⟩
theorem fO(l:List UInt8):bl (mkB l)=l:=by rfl
theorem Sh{b:ByteArray}{l:List UInt8}(h:bl b=l):b=mkB l:=iP (by rw[h,fO])
theorem Dm(b:ByteArray):(!(b.toList==b.toList))=false:=by simp
theorem yF(b:ByteArray):(b.toList==b.toList)=true:=by simp
theorem aHM(l:List UInt8)(c:UInt8)(t:List UInt8)(k:Nat)(h:l.length<k):(l++c::t).take k=l++c::t.take (k-l.length-1):=by rw[List.take_append,fT (by omega)];obtain⟨q,hq⟩:∃ q,k-l.length=q+1:=⟨k-l.length-1,by omega⟩;simp_all
theorem Fy(v:aE):0<(bl (iH v)).length:=by unfold iH dU;rw[eI,eI,eI,cE,cE,cE];have:(bl (⟨#[59]⟩:ByteArray)).length=1:=rfl;omega
def iX(r:List aE):List UInt8:=r.flatMap fun v=>bl (iH v)
theorem qN(v:aE)(r:List aE):iX (v::r)=bl (iH v)++iX r:=rfl
theorem nC(r:List aE):∀ i,(iX (r.drop i)).length<=(iX r).length
 | 0=>dL _
 | i+1=>by
  cases r with
  | nil=>simp
  | cons v r=>rw[aFE,qN,cE];have:=nC r i;omega
theorem tF:fF 0:=⟨by omega,by omega⟩
theorem yQ{a b:ByteArray}(h:(a.toList==b.toList)=true):bl a=bl b:=by have h:=jI.1 h;rw[ByteArray.toList_eq,ByteArray.toList_eq]at h;exact h
theorem aCZ{b:ByteArray}(h:i<b.size):(bl b)[i]? = some (b[i]?.getD 0):=by have h':i<b.data.size:=h;rw[getElem?_pos b i h];unfold bl;rw[aCP,aKM h'];rfl
theorem aNA{b:ByteArray}(h:i<b.size):bl b=(bl b).take i++(b[i]?.getD 0)::(bl b).drop (i+1):=by
 have hl:i<(bl b).length:=by rw[bZ]; exact h
 have h1:=aCZ h;rw[jK hl]at h1;have h1:=Option.some.inj h1
 conv=>lhs; rw[<-gG i (bl b),Ys hl,h1]
theorem iK(b:ByteArray)(i j:Nat):(b.extract i j).size<=b.size:=by rw[<-bZ,eR,nV,gO,bZ]; omega
def aHN(d:aC):List UInt8:=bl (dU d.Time)++(bl (nN (iA d.Row))++bl (dU d.N))
def dsL(l:List aC):List UInt8:=l.flatMap aHN
theorem tZ(d:aC)(l:List aC):dsL (d::l)=aHN d++dsL l:=rfl
def aMX(l:List aC):List UInt8:=bl (dU (l.length:Int))++dsL l
theorem Bo[Inhabited α]{l:List α}(hk:k<l.length):l.take (k+1)=l.take k++[l.getD k default]:=by simp_all
theorem xA[Inhabited α]{l:List α}(hk:k<l.length):l.drop k=l.getD k default::l.drop (k+1):=by simp_all
theorem aRT(n:Int):0<(bl (dU n)).length:=by unfold dU;rw[eI,cE];have:(bl (⟨#[59]⟩:ByteArray)).length=1:=rfl;omega
theorem Yi(l:List aC):l.length<=(dsL l).length:=by
 induction l with
 | nil=>simp
 | cons d l ih=>rw[tZ,cE,fB];unfold aHN;rw[cE];have:=aRT d.Time;omega
theorem Hg(l:List aC):∀ i,(dsL (l.drop i)).length<=(dsL l).length
 | 0=>dL _
 | i+1=>by
  cases l with
  | nil=>simp
  | cons v r=>rw[aFE,tZ,cE];have:=Hg r i;omega
def RdW(q:bW)(p:List UInt8)(rest:ByteArray)(bad:Bool):Prop:=rest.size<=q.rest_.size/\((bad=true/\rest.size=0)\/(bad=q.bad_/\bl q.rest_=p++bl rest))
theorem RdW.fail:RdW q p ⟨#[]⟩ true:=⟨mT _,.inl ⟨rfl,rfl⟩⟩
theorem RdW.ok(h:RdW q p rest bad)(hb:bad=false):q.bad_=false/\bl q.rest_=p++bl rest:=by
 rcases h.2 with h | ⟨h1,h2⟩
 all_goals simp_all
theorem RdW.less(h:RdW q p rest bad)(hp:p≠[])(hq:0<q.rest_.size):rest.size<q.rest_.size:=by
 rcases h.2 with⟨_,h1⟩ | ⟨_,h2⟩
 ·omega
 ·have:=congrArg List.length h2;rw[bZ,cE,bZ]at this;have:0<p.length:=gU.2 hp;omega
theorem RdW.trans{p':List UInt8}{rest':ByteArray}{bad':Bool}(h:RdW q p rest bad)(h':RdW ⟨rest,bad⟩ p' rest' bad'):RdW q (p++p') rest' bad':=by
 refine⟨gQ h'.1 h.1,?_⟩;rcases h'.2 with hb | ⟨h1,h2⟩
 ·exact .inl hb
 ·simp only at h1 h2;rcases h.2 with⟨hb,h0⟩ | ⟨h3,h4⟩
  ·have:=congrArg List.length h2;rw[bZ,cE,bZ]at this;simp_all
  simp_all
def RG(q:bW):Prop:=q.bad_=true->q.rest_.size=0
theorem RdW.good(h:RdW q p rest bad)(hg:RG q):RG ⟨rest,bad⟩:=fun hb=>by
 rcases h.2 with⟨_,h1⟩ | ⟨h1,_⟩
 ·exact h1
 ·have h2:=hg (by simp_all);have:=h.1;simp_all
theorem aKE{l:List UInt8}(h:l[i]? = some c):l=l.take i++c::l.drop (i+1):=by
 obtain⟨hi,hc⟩:=Bq.1 h
 conv=>lhs; rw[<-gG i l,Ys hi,hc]
theorem Ej(q:bW):aRQ q=some (⟨#[]⟩,true):=rfl
theorem Ra(e:UInt8)(lo:Int)(hlo:lo<=0)(q:bW)(hs:q.rest_.size<=1000000000000):Sp (Ef (e.toNat:Int) lo q) (fun r=>fF r.1/\lo<=r.1/\RdW q (Lib.itoa r.1++[e]) r.2.1 r.2.2):=by
 obtain⟨hd,hhd⟩:∃ hd,q.rest_.extract (0:Int).toNat (if (21:Int)<((q.rest_:ByteArray).size:Int) then (21:Int) else ((q.rest_:ByteArray).size:Int)).toNat=hd:=⟨_,rfl⟩;have hm0:0<=(if (21:Int)<((q.rest_:ByteArray).size:Int) then (21:Int) else ((q.rest_:ByteArray).size:Int))/\(if (21:Int)<((q.rest_:ByteArray).size:Int) then (21:Int) else ((q.rest_:ByteArray).size:Int))<=(q.rest_.size:Int):=by split <;> omega
 generalize hM:(if (21:Int)<((q.rest_:ByteArray).size:Int) then (21:Int) else ((q.rest_:ByteArray).size:Int))=M at hhd hm0;have hbl:bl hd=(bl q.rest_).take M.toNat:=by rw[<-hhd,eR]; rfl
 have hdl:hd.size<=q.rest_.size:=by rw[<-hhd]; exact iK _ _ _
 have e1:aKK hd (e.toNat:Int)=some (Lib.indexByte (bl hd) e):=by unfold aKK;rw[show ((e.toNat:Int)).toNat.toUInt8=e by simp]; rfl
 have hge:=Lib.indexByte_ge (bl hd) e;unfold Ef Rn;simp only[Tr.den,hM,hhd,e1,aH,Ej];rw[aB ⟨by omega,hm0.1,hm0.2⟩];generalize hI:Lib.indexByte (bl hd) e=i at hge;refine aO (fun _=>aA.2 ⟨tF,hlo,.fail⟩) fun h0=>?_;have h0:=fE h0;obtain⟨k,rfl⟩:∃ k:Nat,i=k:=⟨i.toNat,by omega⟩;have hk:=(Lib.indexByte_some hI).1;have hkl:k<(bl hd).length:=(Bq.1 hk).1;rw[bZ]at hkl;have hcut:bl q.rest_=(bl hd).take k++e::(bl q.rest_).drop (k+1):=by
  have h1:(bl q.rest_)[k]? = some e:=by grind
  have h2:k<M.toNat:=by grind
  have h3:=aKE h1;grind
 rw[aB (by omega)];simp only[aS];have hxl:bl (hd.extract (0:Int).toNat k)=(bl hd).take k:=by rw[eR]; rfl
 have hxs:(hd.extract (0:Int).toNat k).size<=hd.size:=iK _ _ _;generalize hd.extract (0:Int).toNat k=x at hxl hxs;unfold aRR;rw[aB (by omega)];simp only[aH];cases hA:Lib.atoiAll x.data.toList with
 | ok v=>
  simp only[sel,Tr.den];have hv:fF v:=Lib.atoiAll_bounds hA;rw[zT hv];simp only[aH];rw[aB (by omega)];refine Sq.bind (fun j:Bool=>j=false->bl x=Lib.itoa v/\lo<=v) (aO (fun _=>aA.2 fun h=>by cases h) fun h=>aA.2 fun h'=>⟨?_,by grind⟩) fun j hj=>?_
  ·have h:=yQ (a:=kE v) (b:=x) (by simpa using h);rw[<-h]; rfl
  ·refine aO (fun _=>aA.2 ⟨tF,hlo,.fail⟩) fun h=>?_;obtain⟨h1,h2⟩:=hj h;rw[aL (by omega),aB (by omega)];refine aA.2 ⟨hv,h2,iK _ _ _,.inr ⟨rfl,?_⟩⟩;simp only;rw[eR,aS,fT (by rw[bZ]; omega),<-h1,hxl,cT];exact hcut
 | _=>exact aA.2 ⟨tF,hlo,.fail⟩
theorem Gs(q:bW)(hs:q.rest_.size<=1000000000000):Sp (Wg q) (fun r=>fF r.1/\RdW q (bl (dU r.1)) r.2.1 r.2.2):=by unfold Wg aEH;simp only[Tr.den];refine Sq.bind _ (Ra 59 _ (by omega) q hs) fun r hr=>aA.2 ⟨hr.1,?_⟩;rw[lV]; exact hr.2.2
theorem aEP(q:bW)(hs:q.rest_.size<=1000000000000):Sp (Fh q) (fun r=>fF r.1/\0<=r.1/\RdW q (bl (dU r.1)) r.2.1 r.2.2):=by unfold Fh Po;simp only[Tr.den];refine Sq.bind _ (Ra 59 _ (by omega) q hs) fun r hr=>aA.2 ⟨hr.1,hr.2.1,?_⟩;rw[lV]; exact hr.2.2
theorem aKY(c:UInt8)(a:ByteArray)(hs:a.size<=1000000000000):Sp (aQW a ⟨#[c]⟩) (fun r=>r.1.size<=a.size/\(r.2=true->bl a=c::bl r.1)):=by
 have hc1:((⟨#[c]⟩:ByteArray).size:Int)=1:=rfl;have h1:Sp (aQY a ⟨#[c]⟩) (fun r=>r=true->∃ t,bl a=c::t):=by
  unfold aQY aTT;simp only[Tr.den];refine Sq.bind (fun r:Bool=>r=true->∃ t,bl a=c::t) (aO (fun h=>?_) fun _=>aA.2 fun h=>by cases h) fun r hr=>aA.2 hr;have h:=lO h;rw[aB (by omega)];refine aA.2 fun h'=>?_;have h':=yQ h';rw[eR,hc1]at h';have h':(bl a).take 1=[c]:=h';cases hb:bl a with
  | nil=>grind
  | cons x t=>grind
 unfold aQW aTJ;simp only[Tr.den];refine Sq.bind _ ?_ fun r hr=>aA.2 hr;unfold aZM aZI;simp only[Tr.den];refine Sq.bind _ h1 fun r hr=>aO (fun _=>aA.2 ⟨dL _,fun h=>by cases h⟩) fun h=>?_;obtain⟨t,ht⟩:=hr (by simpa using h);have hl:=congrArg List.length ht;rw[bZ,fB]at hl;rw[hc1,aB (by omega)];refine aA.2 ⟨iK _ _ _,fun _=>?_⟩;simp only;rw[eR,aS,fT (by simp_all),ht]; rfl
theorem aYJ(c:UInt8)(q:bW)(hs:q.rest_.size<=1000000000000):Sp (Fe ⟨#[c]⟩ q) (fun r=>RdW q [c] r.1 r.2):=by unfold Fe Py;simp only[Tr.den,Ej];refine Sq.bind _ (aKY c q.rest_ hs) fun r hr=>?_;refine Sq.bind (fun j:ByteArray×Bool=>RdW q [c] j.1 j.2) (aO (fun _=>aA.2 .fail) fun h=>aA.2 ⟨hr.1,.inr ⟨rfl,hr.2 (by simpa using h)⟩⟩) fun j hj=>aA.2 hj
theorem aQK(q:bW)(hg:RG q)(hs:q.rest_.size<=1000000000000):Sp (Td q) (fun r=>r.1.size<=q.rest_.size/\RdW q (bl (nN r.1)) r.2.1 r.2.2):=by
 unfold Td aES;simp only[Tr.den,Ej];refine Sq.bind _ (Ra 58 0 (Int.le_refl 0) q hs) fun r hr=>?_;obtain⟨h1,h2,h3⟩:=hr;have h3s:=h3.1;refine aO (fun _=>aA.2 ⟨mT _,.fail⟩) fun h=>?_;have h:=fE h;rw[aB (by omega),aB (by omega)];have hx:=iK r.2.1 r.1.toNat (r.2.1.size:Int).toNat;refine Sq.bind _ (aYJ 44 _ (by grind)) fun r3 hr3=>?_;refine aO (fun hb=>aA.2 ⟨mT _,?_⟩) fun hb=>?_
 ·have hle:r3.1.size<=q.rest_.size:=by have:=hr3.1; grind
  rw[hb];refine⟨hle,?_⟩;rcases hr3.2 with⟨_,h0⟩ | ⟨h4,h5⟩
  ·simp_all
  ·simp only at h4 h5;have h6:=(h3.good hg) (by simp_all);have:=congrArg List.length h5;rw[bZ,cE,bZ,wH]at this;grind
 ·obtain⟨h4,h5⟩:=hr3.ok hb;simp only at h4 h5;obtain⟨h6,h7⟩:=h3.ok h4;have hxs:=iK r.2.1 (0:Int).toNat r.1.toNat;refine aA.2 ⟨by grind,by have:=hr3.1; grind,.inr ⟨by rw[hb,h6],?_⟩⟩;have hn:((r.2.1.extract (0:Int).toNat r.1.toNat).size:Int)=r.1:=by rw[<-bZ,eR,show (0:Int).toNat=0 from rfl,xL,gO,bZ]; omega
  simp only;rw[zV,hn,h7,eR,show (0:Int).toNat=0 from rfl,xL];rw[eR,aS,fT (by rw[bZ]; omega)]at h5;have h8:bl r.2.1=(bl r.2.1).take r.1.toNat++(44::bl r3.1):=by
   conv=>lhs; rw[<-gG r.1.toNat (bl r.2.1),h5]
   rfl
  grind
def RdP(q:aJ)(p:List UInt8)(rest:ByteArray)(bad:Bool):Prop:=rest.size<=q.Rest.size/\(bad=true\/(bad=q.Bad/\bl q.Rest=p++bl rest))
theorem RdP.fail{q:aJ}:RdP q p ⟨#[]⟩ true:=⟨mT _,.inl rfl⟩
theorem RdP.ok{q:aJ}(h:RdP q p rest bad)(hb:bad=false):q.Bad=false/\bl q.Rest=p++bl rest:=by
 rcases h.2 with h | ⟨h1,h2⟩
 all_goals simp_all
theorem aXC(a:ByteArray)(hs:a.size<=1000000000000):Sp (aMO a) (fun r=>fF r.1/\(r.2=true->bl (dU r.1)=bl a++[59])):=by
 unfold aMO aUE;simp only[Tr.den];refine Sq.bind (fun _=>True) ?_ fun j1 _=>?_
 ·refine aO (fun h=>?_) (fun _=>aA.2 trivial);have h:=lO h;rw[aB (by omega)]; exact aA.2 trivial
 refine Sq.bind (fun j2:Int=>j2=0\/j2=1) (aO (fun _=>aA.2 (.inr rfl)) (fun _=>aA.2 (.inl rfl))) fun j2 hj=>?_;refine Sq.bind (fun z:Int⊕(Int×Bool)=>match z with | .inl b=>fF b | .inr r=>r=(0,false)) ?_ fun z hz=>?_
 ·refine Sq.while (fun s:Int×Int=>fF s.1/\0<=s.2/\s.2<=(a.size:Int)+1) (fun s=>a.size+1-s.2.toNat) (fun s hI=>?_) ⟨⟨by omega,by omega⟩,by omega,by omega⟩;obtain⟨v3,v4⟩:=s;obtain⟨h1,h2,h3⟩:=hI;simp only at h1 h2 h3;unfold uI;simp only[Tr.den];by_cases hc:v4<(a.size:Int)
  ·rw[aB (bI hc),aB ⟨h2,hc⟩];refine Sq.bind (fun _=>True) (aO (fun _=>aA.2 trivial) fun _=>?_) fun j6 _=>?_
   ·rw[aB ⟨h2,hc⟩];exact aO (fun _=>aA.2 trivial) (fun _=>aA.2 trivial)
   ·refine aO (fun _=>aA.2 rfl) fun _=>?_;rw[aB ⟨h2,hc⟩];have e:IntKind.i64.wrap (v4+1)=v4+1:=bS (by omega) (by omega);refine aA.2 ⟨⟨qZ _,?_,?_⟩,?_⟩ <;> simp only <;> rw[e] <;> omega
  ·rw[aF (bJ hc)];exact aA.2 h1
 ·cases z with
  | inr r=>subst hz; exact aA.2 ⟨tF,fun h=>by cases h⟩
  | inl b=>simp only[sel];refine Sq.bind fF (aO (fun _=>aA.2 (qZ _)) (fun _=>aA.2 hz)) fun j7 h7=>?_;rw[kY h7];rw[aH];refine tR (by have:(⟨#[59]⟩:ByteArray).size=1:=rfl; omega) ?_;refine aA.2 ⟨h7,fun h=>?_⟩;rw[yQ h,eI]; rfl
theorem aCS(e:UInt8)(q:aJ)(hs:q.Rest.size<=1000000000000):Sp (Fu (e.toNat:Int) q) (fun r=>fF r.1/\RdP q (Lib.itoa r.1++[e]) r.2.1 r.2.2):=by
 have e0:Hx q=some (0,⟨#[]⟩,true):=rfl;unfold Fu Ni;simp only[Tr.den];refine Sq.bind (fun z:Int⊕(Int×ByteArray×Bool)=>∃ v:Int,z = .inl v/\0<=v/\v<=(q.Rest.size:Int)) ?_ fun z hz=>?_
 ·refine Sq.while (fun v:Int=>0<=v/\v<=(q.Rest.size:Int)) (fun v=>q.Rest.size-v.toNat) (fun v hI=>?_) ⟨by omega,by omega⟩;unfold pI;simp only[Tr.den];refine Sq.bind (fun j:Bool=>j=true->v<(q.Rest.size:Int)) ?_ fun j hj=>?_
  ·refine aO (fun h=>?_) (fun _=>aA.2 (fun h=>by cases h));have h:=lO h;refine aO (fun _=>?_) (fun _=>aA.2 (fun h=>by cases h));rw[aB ⟨hI.1,h⟩];exact aA.2 fun _=>h
  ·refine aO (fun h=>?_) (fun _=>aA.2 ⟨v,rfl,hI.1,hI.2⟩);have h:=hj h;have e1:IntKind.i64.wrap (v+1)=v+1:=bS (by omega) (by omega);rw[e1];exact aA.2 ⟨⟨by omega,by omega⟩,by omega⟩
 ·obtain⟨v,rfl,h0,h1⟩:=hz;simp only[sel,e0,aH];refine aO (fun _=>aA.2 ⟨tF,.fail⟩) fun h=>?_;have h:=fE h;rw[aB ⟨h0,by omega⟩];refine aO (fun _=>aA.2 ⟨tF,.fail⟩) fun he=>?_;have he:((q.Rest[v.toNat]?.getD 0).toNat:Int)=(e.toNat:Int):=by simp_all
  have he:q.Rest[v.toNat]?.getD 0=e:=UInt8.toNat_inj.1 (by omega);rw[aB ⟨by omega,h0,h1⟩];refine Sq.bind _ (aXC _ (gQ (iK _ _ _) hs)) fun r hr=>?_;refine aO (fun _=>aA.2 ⟨tF,.fail⟩) fun h2=>?_;have e1:IntKind.i64.wrap (v+1)=v+1:=bS (by omega) (by omega);rw[e1,aB ⟨by omega,by omega,by omega⟩];have h3:=hr.2 (by simp_all);rw[lV,eR]at h3;have h3:=List.append_cancel_right h3;refine aA.2 ⟨hr.1,iK _ _ _,.inr ⟨rfl,?_⟩⟩;have hc:=aNA (b:=q.Rest) (i:=v.toNat) (by omega);rw[he]at hc;have e2:bl (q.Rest.extract (v+1).toNat (q.Rest.size:Int).toNat)=(bl q.Rest).drop (v.toNat+1):=by rw[eR,show (v+1).toNat=v.toNat+1 by omega,fT (by rw[bZ]; omega)]
  grind
theorem aFJ(e:UInt8)(q:aJ)(hs:q.Rest.size<=1000000000000):Sp (Gy (e.toNat:Int) q) (fun r=>fF r.1/\0<=r.1/\RdP q (Lib.itoa r.1++[e]) r.2.1 r.2.2):=by unfold Gy Rf;simp only[Tr.den];refine Sq.bind _ (aCS e q hs) fun r hr=>?_;refine aO (fun _=>?_) fun h=>aA.2 ⟨hr.1,by simp_all,hr.2⟩;rw[show Hx ⟨r.2.1,r.2.2⟩=some (0,⟨#[]⟩,true) from rfl];exact aA.2 ⟨tF,Int.le_refl 0,.fail⟩
theorem Id(q:aJ)(hs:q.Rest.size<=1000000000000):Sp (Te q) (fun r=>fF r.1/\RdP q (bl (dU r.1)) r.2.1 r.2.2):=by unfold Te aBF;simp only[Tr.den];refine Sq.bind _ (aCS 59 q hs) fun r hr=>aA.2 ?_;rw[lV]; exact hr
theorem aAY(q:aJ)(hs:q.Rest.size<=1000000000000):Sp (Eh q) (fun r=>fF r.1/\0<=r.1/\RdP q (bl (dU r.1)) r.2.1 r.2.2):=by unfold Eh Nb;simp only[Tr.den];refine Sq.bind _ (aFJ 59 q hs) fun r hr=>aA.2 ?_;rw[lV]; exact hr
theorem aWM(e:UInt8)(q:aJ)(hs:q.Rest.size<=1000000000000):Sp (Gp (e.toNat:Int) q) (fun r=>r.2.1.size<=q.Rest.size/\(r.1=false->r.2.2=true)/\(r.1=true->r.2.2=q.Bad/\bl q.Rest=e::bl r.2.1)):=by
 have e0:Hx q=some (0,⟨#[]⟩,true):=rfl;unfold Gp Rk;simp only[Tr.den,e0,aH];refine aO (fun _=>aA.2 ⟨mT _,fun _=>rfl,fun h=>by cases h⟩) fun h=>?_;have h:0<q.Rest.size:=by grind
 rw[aB ⟨by omega,by omega⟩];refine aO (fun _=>aA.2 ⟨mT _,fun _=>rfl,fun h=>by cases h⟩) fun he=>?_;have he:((q.Rest[(0:Int).toNat]?.getD 0).toNat:Int)=(e.toNat:Int):=by simp_all
 have he:q.Rest[(0:Int).toNat]?.getD 0=e:=UInt8.toNat_inj.1 (by omega);rw[aB ⟨by omega,by omega,by omega⟩];refine aA.2 ⟨iK _ _ _,fun h=>Bool.noConfusion h,fun _=>⟨rfl,?_⟩⟩;have hc:=aNA (b:=q.Rest) (i:=0) h;simp only;rw[eR,fT (by rw[bZ]; omega)];grind
theorem aKC(q:aJ)(hs:q.Rest.size<=1000000000000):Sp (Wa q) (fun r=>r.1.size<=q.Rest.size/\RdP q (bl (nN r.1)) r.2.1 r.2.2):=by
 unfold Wa aFH;simp only[Tr.den];refine Sq.bind _ (aFJ 58 q hs) fun r hr=>?_;obtain⟨h1,h2,h3⟩:=hr;have hsz:=h3.1;refine Sq.bind (fun j:Bool=>j=false->r.2.2=false/\r.1<(r.2.1.size:Int)) ?_ fun j hj=>?_
 ·refine aO (fun _=>aA.2 (fun h=>by cases h)) fun hb=>aA.2 fun h=>⟨hb,?_⟩;simp_all
 refine aO (fun _=>?_) fun hb=>?_
 ·rw[show Hx ⟨r.2.1,r.2.2⟩=some (0,⟨#[]⟩,true) from rfl];exact aA.2 ⟨mT _,.fail⟩
 ·obtain⟨h4,h5⟩:=hj hb;obtain⟨h6,h7⟩:=h3.ok h4;rw[aB ⟨by omega,h2,by omega⟩,aB ⟨by omega,by omega,by omega⟩];refine Sq.bind _ (aWM 44 ⟨r.2.1.extract (r.1:Int).toNat (r.2.1.size:Int).toNat,r.2.2⟩ (gQ (iK _ _ _) (by omega))) fun r4 hr4=>?_;obtain⟨g1,g2,g3⟩:=hr4;have g1:r4.2.1.size<=r.2.1.size:=gQ g1 (iK _ _ _);refine aO (fun hb=>aA.2 ⟨mT _,by grind,.inl (g2 (by simp_all))⟩) fun hb=>?_;obtain⟨g4,g5⟩:=g3 (by simp_all);have hn:((r.2.1.extract (0:Int).toNat (r.1).toNat).size:Int)=r.1:=by rw[<-bZ,eR,nV,gO,bZ]; omega
  refine aA.2 ⟨gQ (iK _ _ _) hsz,by grind,.inr ⟨by simp only at g4; rw[g4,h4,h6],?_⟩⟩;simp only at g5 ⊢;rw[zV,hn,h7];rw[eR,fT (by rw[bZ]; omega)]at g5;rw[eR];simp only[Jt,xL,cT,rV,kS];rw[<-g5,gG]
theorem bHD(q:aJ):Sp (Vl q) (fun r=>r=true->q.Bad=false/\bl q.Rest=[]):=by unfold Vl aCD;simp only[Tr.den];refine Sq.bind (fun j:Bool=>j=true->q.Bad=false/\bl q.Rest=[]) (aO (fun h=>aA.2 fun h'=>⟨by simpa using h,by rw[yQ h']; rfl⟩) fun _=>aA.2 fun h=>by cases h) fun j hj=>aA.2 hj
structure Dc (c:Nat)(v:aE):Prop where
 k:fF v.Kind
 n:fF v.N
 s:v.S.size<=c
theorem aXL(a:ByteArray)(hs:a.size<=1000):Sp (aSJ a) (fun r=>r.1.length<=1000/\∀ v,v∈r.1->Dc 1000 v):=by
 have h72:Ig a=some ⟨a,false⟩:=rfl;unfold aSJ aWX;simp only[Tr.den,h72,aH];refine Sq.bind _ (aAY ⟨a,false⟩ (by grind)) fun r2 hr2=>?_;obtain⟨h1,h2,h3⟩:=hr2;refine Sq.bind (fun z:(ByteArray×Bool×List aE)⊕(List aE×Bool)=>∃ b,z = .inl b/\b.2.2.length<=1000/\∀ v,v∈b.2.2->Dc 1000 v) ?_ fun z hz=>?_
 ·refine Sq.while (fun s:ByteArray×Bool×List aE×Int=>s.1.size<=a.size/\0<=s.2.2.2/\s.2.2.2<=(a.size:Int)/\s.2.2.1.length=s.2.2.2.toNat/\∀ v,v∈s.2.2.1->Dc 1000 v) (fun s=>a.size-s.2.2.2.toNat) (fun s hI=>?_) ⟨h3.1,by simp_all,by simp_all,rfl,fun v hv=>by cases hv⟩;obtain⟨v3,v4,v5,v6⟩:=s;obtain⟨i1,i2,i3,i4,i5⟩:=hI;simp only at i1 i2 i3 i4 i5;unfold zB;simp only[Tr.den];refine Sq.bind (fun j:List aE×Bool=>j.1=v5/\(j.2=true->v6<(a.size:Int))) (aO (fun _=>aA.2 ⟨rfl,fun h=>lO h⟩) fun _=>aA.2 ⟨rfl,fun h=>by cases h⟩) fun j hj=>?_;obtain⟨j1,j2⟩:=j;obtain⟨e,hj⟩:=hj;simp only at e hj;subst e;refine aO (fun h=>?_) fun _=>aA.2 ⟨_,rfl,by grind,i5⟩;have h:=hj h;refine Sq.bind _ (Id ⟨v3,v4⟩ (by grind)) fun r12 hr12=>?_;have q1:r12.2.1.size<=v3.size:=hr12.2.1;refine Sq.bind _ (Id ⟨r12.2.1,r12.2.2⟩ (by grind)) fun r13 hr13=>?_;have q2:r13.2.1.size<=r12.2.1.size:=hr13.2.1;refine Sq.bind _ (aKC ⟨r13.2.1,r13.2.2⟩ (by grind)) fun r14 hr14=>?_;have q3:r14.2.1.size<=r13.2.1.size:=hr14.2.1;have q4:r14.1.size<=r13.2.1.size:=hr14.1;rw[aB (by grind)];have e:IntKind.i64.wrap (v6+1)=v6+1:=bS (by omega) (by omega);rw[e];refine aA.2 ⟨⟨by grind,by grind,by grind,by grind,fun v hv=>?_⟩,by grind⟩;rcases dC.1 hv with hv | hv
  ·exact i5 v hv
  ·rw[cR]at hv; subst hv;exact⟨hr12.1,hr13.1,by grind⟩
 ·obtain⟨⟨b7,b8,b9⟩,rfl,h4,h5⟩:=hz;simp only at h4 h5;simp only[sel];refine Sq.bind _ (bHD ⟨b7,b8⟩) fun r15 _=>?_;refine Sq.bind (fun j:List aE×Bool=>j.1=b9) (aO (fun _=>aA.2 rfl) fun _=>aA.2 rfl) fun j hj=>?_;obtain⟨j1,j2⟩:=j;simp only at hj;subst hj;exact aO (fun _=>aA.2 ⟨by simp,fun v hv=>by cases hv⟩) fun _=>aA.2 ⟨h4,h5⟩
structure okU (l:List aC):Prop where
 d:okD l
 r:∀ d,d∈l->d.Row.length<=1000
 v:∀ d,d∈l->∀ v,v∈d.Row->Dc 1000 v
 t:∀ d,d∈l->fF d.Time
 n:l.length<=1000
theorem okU.nil:okU []:=⟨.nil,fun d hd=>(by cases hd),fun d hd=>(by cases hd),fun d hd=>(by cases hd),mT _⟩
theorem okU.vs(h:okU l)(hd:d∈l):Dd d.Row:=fun v hv=>by have q:=h.v d hd v hv;exact⟨q.k,q.n,by have:=q.s; omega⟩
theorem aAJ(h:Dc 1000 v):(iH v).size<=1100:=by have h1:=bY h.k;have h2:=bY h.n;have h3:=jU (s:=v.S) (by have:=h.s; omega);have:=h.s;unfold iH;grind
theorem Bz(b:ByteArray):∀ (r:List aE),(∀ v,v∈r->Dc 1000 v)->(r.foldl (fun b v=>b++iH v) b).size<=b.size+r.length*1100
 | [],_=>by simp
 | v::r,h=>by have h1:=Bz (b++iH v) r fun u hu=>h u (cZ _ hu);have h2:=aAJ (h v dB);grind
theorem qT{r:List aE}(h:∀ v,v∈r->Dc 1000 v)(hn:r.length<=1000):(iA r).size<=1200000:=by have h1:=Bz ((⟨#[]⟩:ByteArray)++dU (r.length:Int)) r h;have h2:=bY (n:=(r.length:Int)) ⟨by omega,by omega⟩;have h0:(⟨#[]⟩:ByteArray).size=0:=rfl;rw[eX,h0]at h1;unfold iA;omega
theorem Pv(h:okU l)(hd:d∈l):(lK d).size<=1300000:=by have b1:=qT (h.v d hd) (h.r d hd);have b2:=jU (s:=iA d.Row) (by omega);have b3:=bY (h.t d hd);have b4:=bY (h.d.n d hd);unfold lK;grind
theorem nZ(b:ByteArray){l:List aC}(h:okU l):∀ k,k<=l.length->((l.take k).foldl (fun b d=>b++lK d) b).size<=b.size+k*1300000
 | 0,_=>by simp
 | k+1,hk=>by have h1:=nZ b h k (by omega);have h2:=Pv h (aT (show k<l.length by omega));rw[aQ (by omega),lI];grind
theorem aDJ(h:okU r)(hc:Can r):G57 r=some (eJ r):=by
 have hr:=h.n;unfold G57 T57;simp only[Tr.den];rw[rA r h.d.r h.d.n (by omega),jS hc];simp only[aH];rw[Og r.length (by omega)];simp only[aH];have hs:=bY (n:=(r.length:Int)) ⟨by omega,by omega⟩;have h1:=bE (bd:=fun s=>(wQ r s).den) (fun i=>((r.take i).foldl (fun b d=>b++lK d) (dU (r.length:Int)),(i:Int))) r.length (r:=.inl (eJ r)) (fun i hi=>?_) ?_
 ·refine(congrArg (fun x=>Option.bind x _) h1).trans ?_;rfl
 ·unfold wQ;simp only[Tr.den,aS];have h2:=nZ (dU (r.length:Int)) h i (by omega);have hmul:i*1300000<=1000*1300000:=xN (by omega) (dL _);have hm:=aT hi;have b1:=qT (h.v _ hm) (h.r _ hm);have iT:=h.t _ hm;have b2:=jU (s:=iA (r.getD i default).Row) (by omega);have b3:=bY iT;have b4:=bY (h.d.n _ hm);have hl:=h.r _ hm;rw[aB (bI (by omega)),aB (by omega),kY iT];simp only[aH];rw[aB (by omega),aB (by omega),aER _ (h.vs hm) (by omega)];simp only[aH];rw[Yc (by omega)];simp only[aH];rw[eX,aB (by omega),aB (by omega),kY (h.d.n _ hm)];simp only[aH];rw[eX,eX,aB (by omega),aL (by omega),aQ hi,lI];simp only[kD,Fj];rw[bLO];rfl
 ·unfold wQ;simp only[Tr.den];rw[aF (bJ (by omega)),fW];rfl
theorem aSR(l:List aC)(ho:gV l)(hn6:okN l)(hn:l.length<=1000000):Sp (aOT l) (fun r=>r=true->Can l):=by
 unfold aOT aTD;simp only[Tr.den];refine Sq.bind (fun z:Unit⊕Bool=>(z = .inl ()/\Can l)\/z = .inr false) ?_ fun z hz=>?_
 ·refine cG (fun s:Int=>s) l.length (by omega) (fun s=>(∀ j,j<s.toNat->(l.getD j default).N≠0)/\∀ j,j+1<s.toNat->dJ (l.getD j default) (l.getD (j+1) default)<0) (fun s k hI hk hkN=>?_) ⟨fun j hj=>by simp at hj,fun j hj=>by simp at hj⟩ rfl;subst hk;rw[aS]at hI;unfold yW;simp only[Tr.den,aS];by_cases hc:k<l.length
  ·rw[aB (bI (by omega))];refine Sq.bind (fun j:Bool=>j=false->(l.getD k default).N≠0/\(0<k->dJ (l.getD (k-1) default) (l.getD k default)<0)) ?_ fun j hj=>?_
   ·rw[aB (by omega)];refine aO (fun _=>aA.2 fun h=>by cases h) fun h0=>?_;have h0:(l.getD k default).N≠0:=rO.1 h0;refine aO (fun h1=>?_) fun h1=>aA.2 fun _=>⟨h0,fun h=>absurd (fE h1) (by omega)⟩;have h1:=lO h1;have e:(if (0:Int)>(IntKind.i64.wrap ((k:Int)-1)) then (0:Int) else (IntKind.i64.wrap ((k:Int)-1)))=((k-1:Nat):Int):=by have:=fH (n:=k) (m:=1) (by omega) (by omega);rw[show ((k:Int)-1)=((k:Int)-((1:Nat):Int)) by omega,this,aF (by omega)]
    rw[e,aB (by omega),aB (by omega),aS,Im _ _ (ho _ (aT (by omega))) (ho _ (aT hc))];simp only[aH];exact aA.2 fun h=>⟨h0,fun _=>by simp_all⟩
   ·refine aO (fun _=>aA.2 (.inr rfl)) fun h=>?_;obtain⟨g1,g2⟩:=hj h;rw[aL (by omega)];refine aA.2 ⟨rfl,hc,fun j hj=>?_,fun j hj=>?_⟩
    all_goals grind
  ·rw[aF (bJ (by omega))];refine aA.2 (.inl ⟨rfl,?_,fun x hx=>?_,hn6⟩)
   ·have key:∀ (j d:Nat),j+d+1<l.length->dJ (l.getD j default) (l.getD (j+d+1) default)<0:=by
     intro j d
     induction d with
     | zero=>grind
     | succ d ih=>intro h; exact rB (ih (by omega)) (hI.2 (j+d+1) (by omega))
    refine yH.2 fun i j hi hj hij=>?_;have:=key i (j-i-1) (by omega);grind
   ·obtain⟨j,hj,rfl⟩:=sS.1 hx;grind
 ·rcases hz with⟨rfl,hz⟩ | rfl
  ·exact aA.2 fun _=>hz
  ·exact aA.2 fun h=>by cases h
theorem bFJ(a:ByteArray)(hs:a.size<=800):Sp (G74 a) (fun r=>r.2=true->Can r.1/\okU r.1/\a=eJ r.1):=by
 have h72:Ig a=some ⟨a,false⟩:=rfl;unfold G74 T74;simp only[Tr.den,h72,aH];refine Sq.bind _ (aAY ⟨a,false⟩ (by grind)) fun r2 hr2=>?_;obtain⟨h1,h2,h3⟩:=hr2;refine Sq.bind (fun z:List aC⊕(List aC×Bool)=>match z with | .inl b=>okU b | .inr r=>r=([],false)) ?_ fun z hz=>?_
 ·refine Sq.while (fun s:ByteArray×Bool×List aC×Int=>s.1.size<=a.size/\0<=s.2.2.2/\s.2.2.2<=(a.size:Int)+1/\s.2.2.1.length=s.2.2.2.toNat/\okU s.2.2.1) (fun s=>a.size+1-s.2.2.2.toNat) (fun s hI=>?_)
   ⟨h3.1,by simp_all,by grind,rfl,okU.nil⟩
  obtain⟨v3,v4,v5,v6⟩:=s;obtain⟨i1,i2,i3,i4,i5⟩:=hI;simp only at i1 i2 i3 i4 i5;unfold Bu;simp only[Tr.den];refine Sq.bind (fun j:List aC×Bool=>j.1=v5/\(j.2=true->v6<=(a.size:Int))) (aO (fun _=>aA.2 ⟨rfl,fun h=>lO h⟩) fun _=>aA.2 ⟨rfl,fun h=>by cases h⟩) fun j hj=>?_;obtain⟨j1,j2⟩:=j;obtain⟨e,hj⟩:=hj;simp only at e hj;subst e;refine aO (fun h=>?_) fun _=>aA.2 i5;have h:=hj h;refine Sq.bind _ (Id ⟨v3,v4⟩ (by grind)) fun r10 hr10=>?_;have q1:r10.2.1.size<=v3.size:=hr10.2.1;refine Sq.bind _ (aKC ⟨r10.2.1,r10.2.2⟩ (by grind)) fun r11 hr11=>?_;have q2:r11.2.1.size<=r10.2.1.size:=hr11.2.1;have q3:r11.1.size<=r10.2.1.size:=hr11.1;refine Sq.bind _ (aXL r11.1 (by omega)) fun r12 hr12=>?_;refine aO (fun _=>aA.2 rfl) fun _=>?_;refine Sq.bind _ (Id ⟨r11.2.1,r11.2.2⟩ (by grind)) fun r13 hr13=>?_;have q4:r13.2.1.size<=r11.2.1.size:=hr13.2.1;rw[aB (by grind)];have e:IntKind.i64.wrap (v6+1)=v6+1:=bS (by omega) (by omega);rw[e];have hl:(j1++[aC.mk r10.1 r12.1 r13.1]).length=(v6+1).toNat:=by grind
  refine aA.2 ⟨⟨by grind,by grind,by simp_all,hl,⟨⟨fun d hd=>?_,fun d hd=>?_⟩,fun d hd=>?_,fun d hd=>?_,fun d hd=>?_,by grind⟩⟩,by grind⟩
  ·rcases dC.1 hd with hd | hd
   ·exact i5.d.r d hd
   ·rw[cR]at hd; subst hd; have:=hr12.1; unfold okR; grind
  ·rcases dC.1 hd with hd | hd
   ·exact i5.d.n d hd
   simp_all
  ·rcases dC.1 hd with hd | hd
   ·exact i5.r d hd
   simp_all
  ·rcases dC.1 hd with hd | hd
   ·exact i5.v d hd
   simp_all
  ·rcases dC.1 hd with hd | hd
   ·exact i5.t d hd
   simp_all
 ·cases z with
  | inr r=>subst hz; exact aA.2 fun h=>by cases h
  | inl b=>
   simp only at hz;simp only[sel];refine Sq.bind _ (aSR b hz.d.r hz.d.n (by have:=hz.n; omega)) fun r14 hr14=>?_;refine Sq.bind (fun j:List aC×Bool=>j.1=b/\(j.2=false->Can b/\a=eJ b)) ?_ fun j hj=>?_
   ·refine aO (fun _=>aA.2 ⟨rfl,fun h=>by cases h⟩) fun h=>?_;have hc:=hr14 (by simpa using h);rw[aDJ hz hc];simp only[aH];exact aA.2 ⟨rfl,fun h=>⟨hc,(iP (yQ (by simpa using h))).symm⟩⟩
   ·obtain⟨j1,j2⟩:=j;obtain⟨e,hj⟩:=hj;simp only at e hj;subst e;exact aO (fun _=>aA.2 fun h=>by cases h) fun h=>aA.2 fun _=>⟨(hj h).1,hz,(hj h).2⟩
theorem bBX(hc:Can l)(ho:okD l)(hn:l.length<=1000000):Sp (G77 l) (fun r=>r=true->∀ d,d∈l->0<=d.N):=by
 unfold G77 T77;simp only[Tr.den];rw[rA l ho.r ho.n (by omega),jS hc];simp only[aH];refine Sq.bind (fun z:Unit⊕Bool=>(z = .inl ()/\∀ d,d∈l->0<=d.N)\/z = .inr false) ?_ fun z hz=>?_
 ·refine cG (fun s:Int=>s) l.length (by omega) (fun s=>∀ j,j<s.toNat->0<=(l.getD j default).N) (fun s k hI hk hkN=>?_) (fun j hj=>by simp at hj) rfl;subst hk;rw[aS]at hI;unfold Hk;simp only[Tr.den,aS];by_cases hc:k<l.length
  ·rw[aB (bI (by omega)),aB (by omega)];refine aO (fun _=>aA.2 (.inr rfl)) fun h=>?_;have h:=fE h;rw[aL (by omega)];refine aA.2 ⟨rfl,hc,fun j hj=>?_⟩;grind
  ·rw[aF (bJ (by omega))];refine aA.2 (.inl ⟨rfl,fun x hx=>?_⟩);obtain⟨j,hj,rfl⟩:=sS.1 hx;grind
 ·rcases hz with⟨rfl,hz⟩ | rfl
  ·exact aA.2 fun _=>hz
  ·exact aA.2 fun h=>by cases h
theorem Vb:∀ (l:List aC) (b:ByteArray),bl (l.foldl (fun b d=>b++lK d) b)=bl b++dsL l
 | [],b=>by simp[dsL]
 | d::l,b=>by rw[kD,Vb l,eI,tZ];unfold lK aHN;rw[eI,eI];simp
theorem yZ(l:List aC):bl (eJ l)=aMX l:=by unfold eJ aMX; rw[Vb]
theorem Bs{n:Int}(hn:fF n)(hlo:lo<=n)(hc:58<=c.toNat)(hr:bl rb=Lib.itoa n++c::t)(hsz:rb.size<=100000000000):
  Ef (c.toNat:Int) lo ⟨rb,b⟩=some (n,mkB t,b):=by
 have hL:=Ii hn;have hS:rb.size=(Lib.itoa n).length+1+t.length:=by rw[<-bZ,hr,cE,fB]; omega
 obtain⟨hd,hhd⟩:∃ hd,rb.extract (0:Int).toNat (if (21:Int)<((rb:ByteArray).size:Int) then (21:Int) else ((rb:ByteArray).size:Int)).toNat=hd:=⟨_,rfl⟩;have hm:(if (21:Int)<((rb:ByteArray).size:Int) then (21:Int) else ((rb:ByteArray).size:Int)).toNat=min 21 rb.size:=by split <;> omega
 have hm0:0<=(if (21:Int)<((rb:ByteArray).size:Int) then (21:Int) else ((rb:ByteArray).size:Int))/\(if (21:Int)<((rb:ByteArray).size:Int) then (21:Int) else ((rb:ByteArray).size:Int))<=(rb.size:Int):=by split <;> omega
 have hbl:bl hd=Lib.itoa n++c::t.take (min 21 rb.size-(Lib.itoa n).length-1):=by rw[<-hhd,eR,hr,hm,aHM _ _ _ _ (by omega)]; rfl
 have hdl:(hd.size:Int)>=(Lib.itoa n).length:=by rw[<-bZ,hbl,cE]; omega
 have e1:aKK hd (c.toNat:Int)=some ((Lib.itoa n).length:Int):=by unfold aKK;rw[show hd.data.toList=bl hd from rfl,hbl,show ((c.toNat:Int)).toNat.toUInt8=c by simp,wD _ _ (uU n hc)]
 have e2:hd.extract (0:Int).toNat ((Lib.itoa n).length:Int).toNat=kE n:=iP (by rw[eR,hbl,aDW,aS,Fo]; rfl);have e3:aRR (kE n)=some (.inl n):=by unfold aRR;rw[show (kE n).data.toList=Lib.itoa n from rfl,aHE hn];simp only;rw[aB (by have:=jX hn; omega)]
 have e5:rb.extract (IntKind.i64.wrap (((Lib.itoa n).length:Int)+1)).toNat ((rb:ByteArray).size:Int).toNat=mkB t:=Sh (by rw[eR,hr,aL (by omega),aS,fT (by grind)];simp_all);unfold Ef Rn;simp only[Tr.den,hhd,e1,e2,e3,aH];rw[aB ⟨by omega,hm0.1,hm0.2⟩,aF (bJ (by omega)),aB ⟨by omega,by omega,by omega⟩];simp only[sel,Tr.den,zT hn,Dm,aH];rw[aB ⟨by omega,by omega,by omega⟩];simp only[cM,cI,aH];rw[aF (bJ (by omega)),aB ⟨by rw[aL (by omega)]; omega,by rw[aL (by omega)]; omega,by omega⟩,e5]
theorem uF{n:Int}(hn:fF n)(hr:bl rb=bl (dU n)++t)(hsz:rb.size<=100000000000):Wg ⟨rb,b⟩=some (n,mkB t,b):=by unfold Wg aEH;simp only[Tr.den];rw[show (59:Int)=((59:UInt8).toNat:Int) from rfl,Bs (t:=t) hn hn.1 (by decide) (by rw[hr,lV]; simp) hsz];rfl
theorem Ly{n:Int}(hn:fF n)(h0:0<=n)(hr:bl rb=bl (dU n)++t)(hsz:rb.size<=100000000000):Fh ⟨rb,b⟩=some (n,mkB t,b):=by unfold Fh Po;simp only[Tr.den];rw[show (59:Int)=((59:UInt8).toNat:Int) from rfl,Bs (t:=t) hn h0 (by decide) (by rw[hr,lV]; simp) hsz];rfl
theorem aJO{p a:ByteArray}(h:bl a=bl p++t):Fe p ⟨a,b⟩=some (mkB t,b):=by
 have hS:a.size=p.size+t.length:=by rw[<-bZ,h,cE,bZ]
 have e1:a.extract (0:Int).toNat ((p:ByteArray).size:Int).toNat=p:=iP (by rw[eR,h,aS,<-bZ,Fo]; rfl);have e2:a.extract (((p:ByteArray).size:Int):Int).toNat (a.size:Int).toNat=mkB t:=Sh (by rw[eR,h,aS,aS,fT (by rw[cE,bZ]; omega),<-bZ p,List.drop_left]);have h1:aQY a p=some true:=by unfold aQY aTT;simp only[Tr.den,e1,yF];grind
 have h2:aZM a p=some (mkB t,true):=by unfold aZM aZI;simp only[Tr.den,h1,aH,kU,cM,cI];rw[aB ⟨by omega,by omega,by omega⟩,e2]
 have h3:aQW a p=some (mkB t,true):=by unfold aQW aTJ;simp only[Tr.den,h2,aH]
 unfold Fe Py;simp only[Tr.den,h3,aH,kU,cM,cI]
theorem Tz(hs:s.size<=100000000000)(hr:bl rb=bl (nN s)++t)(hsz:rb.size<=100000000000):Td ⟨rb,false⟩=some (s,mkB t,false):=by
 have hr':bl rb=Lib.itoa (s.size:Int)++(58:UInt8)::(bl s++44::t):=by rw[hr,zV]; simp
 have h1:=Bs (n:=(s.size:Int)) (lo:=0) (c:=58) (b:=false) ⟨by omega,by omega⟩ (by omega) (by decide) hr' hsz;rw[show ((58:UInt8).toNat:Int)=58 from rfl]at h1;obtain⟨q,hq⟩:∃ q,mkB (bl s++44::t)=q:=⟨_,rfl⟩;rw[hq]at h1;have hbq:bl q=bl s++44::t:=by rw[<-hq,fO]
 have hS:q.size=s.size+1+t.length:=by rw[<-bZ,hbq,cE,fB,bZ]; omega
 have e1:bl (q.extract ((s.size:Int):Int).toNat (q.size:Int).toNat)=bl (⟨#[44]⟩:ByteArray)++t:=by rw[eR,hbq,aS,aS,fT (by rw[<-hbq,bZ]; omega),<-bZ s,List.drop_left]; rfl
 have e2:q.extract (0:Int).toNat ((s.size:Int)).toNat=s:=iP (by rw[eR,hbq,aS,<-bZ,Fo]; rfl);unfold Td aES;simp only[Tr.den,h1,aH];rw[aF (bJ (by omega)),aB ⟨by omega,by omega,by omega⟩,aB ⟨by omega,by omega,by omega⟩,aJO e1];simp_all
theorem aGJ(hv:okV v)(hr:bl rb=bl (iH v)++t)(hsz:rb.size<=100000000000):Fc ⟨rb,false⟩=some (v,mkB t,false):=by have hlen:=congrArg List.length hr;unfold iH at hr;rw[eI,eI,cT,cT]at hr;have hl1:=congrArg List.length hr;rw[bZ,cE,cE]at hl1;unfold Fc Qt;simp only[Tr.den];rw[uF hv.k hr hsz];simp only[aH];rw[uF hv.n (fO _) (by rw[<-bZ,fO,cE]; omega)];simp only[aH];rw[Tz (by have:=hv.s; omega) (fO _) (by rw[<-bZ,fO]; omega)];rfl
theorem aQQ:aBP ⟨mkB [],false⟩=some true:=by unfold aBP aCY;simp only[Tr.den,Bool.not_false,fZ,aH];exact congrArg some (yF _)
theorem aHD{r:List aE}(hv:Dd r)(hl:r.length<=1000)(hsz:(iA r).size<=100000000000):aLV (iA r)=some (r,true):=by
 have hb:bl (iA r)=bl (dU (r.length:Int))++iX r:=Zl r;have hl1:=congrArg List.length hb;rw[bZ,cE]at hl1;have h65:Gx (iA r)=some ⟨iA r,false⟩:=rfl;unfold aLV aSU;simp only[Tr.den,h65,aH];rw[Ly ⟨by omega,by omega⟩ (by omega) hb hsz];simp only[aH];have key:cK (fun s=>(vL s).den) (mkB (iX r),false,([]:List aE),(r.length:Int))=some (.inl (mkB [],false,r)):=by
  have:=bE (bd:=fun s=>(vL s).den) (fun i=>(mkB (iX (r.drop i)),false,r.take i,((r.length-i:Nat):Int))) r.length (r:=.inl (mkB [],false,r)) (fun i hi=>?_) ?_
  ·simp_all
  ·have hd:r.drop i=r.getD i default::r.drop (i+1):=xA hi;have hq:bl (mkB (iX (r.drop i)))=bl (iH (r.getD i default))++iX (r.drop (i+1)):=by rw[fO,hd,qN]
   have hz:(mkB (iX (r.drop i))).size<=100000000000:=by rw[<-bZ,fO];have:=nC r i;omega
   have hp:0<(mkB (iX (r.drop i))).size:=by rw[<-bZ,hq,cE];have:=Fy (r.getD i default);omega
   have h180:aAX ⟨mkB (iX (r.drop i)),false⟩=some ((mkB (iX (r.drop i))).size:Int):=rfl;unfold vL;simp only[Tr.den,h180,aH];rw[aB (bI (by omega)),aF (by grind),aGJ (hv _ (aT hi)) hq hz];simp only[aH];rw[aB (by grind),<-Bo hi]
   congr 5
   rw[bS (by omega) (by omega)];omega
  ·unfold vL;simp only[Tr.den];rw[aF (bJ (by omega))];simp[iX]
 rw[key];simp only[sel,aH,aQQ,kU,cM,cI]
theorem aLJ(l:List aC)(h:Can l)(ho:gV l)(hn:l.length<=1000000000000):aME l=some true:=by
 unfold aME aTK;simp only[Tr.den];have h1:=bE (bd:=fun s=>(zA l s).den) (fun k=>(k:Int)) l.length (r:=.inl ()) (fun k hk=>?_) ?_
 ·refine(congrArg (fun x=>Option.bind x _) h1).trans ?_;rfl
 ·have hm:=aT hk;unfold zA;simp only[Tr.den,aS];rw[aB (bI (by omega)),aB (by omega),aF (kF (h.nz _ hm))];by_cases h0:k=0
  ·rw[aF (bJ (by omega))];simp only[aH,cM,cI];rw[aL (by omega)]
  ·have e:IntKind.i64.wrap ((k:Int)-1)=((k-1:Nat):Int):=by have:=fH (n:=k) (m:=1) (by omega) (by omega);omega
   have hlt:dJ (l.getD (k-1) default) (l.getD k default)<0:=by rw[dF hk,dF (show k-1<l.length by omega)];exact yH.1 h.lt (k-1) k (by omega) hk (by omega)
   rw[aB (bI (by omega)),e,aB (by omega),aS,sO _ _ (ho _ (aT (by omega))) (ho _ hm)];simp only[aH];rw[aF (bJ (by omega)),aL (by omega)]
 ·unfold zA;simp only[Tr.den];rw[aF (bJ (by omega))]
theorem aEW(h:okU r)(hc:Can r):G53 r=some (eJ r):=by
 have hr:=h.n;unfold G53 T53;simp only[Tr.den];rw[sV r h.d.r h.d.n (by omega),jS hc];simp only[aH];rw[Pm r.length (by omega)];simp only[aH];have hs:=bY (n:=(r.length:Int)) ⟨by omega,by omega⟩;rw[aB (by show 0+_<=_; omega),Ng];simp only[aH];have h1:=bE (bd:=fun s=>(xK r s).den) (fun i=>((r.take i).foldl (fun b d=>b++lK d) (dU (r.length:Int)),(i:Int))) r.length (r:=.inl (eJ r)) (fun i hi=>?_) ?_
 ·refine(congrArg (fun x=>Option.bind x _) h1).trans ?_;rfl
 ·unfold xK;simp only[Tr.den,aS];have h2:=nZ (dU (r.length:Int)) h i (by omega);have hmul:i*1300000<=1000*1300000:=xN (by omega) (dL _);have hm:=aT hi;have b1:=qT (h.v _ hm) (h.r _ hm);have iT:=h.t _ hm;have b2:=jU (s:=iA (r.getD i default).Row) (by omega);have b3:=bY iT;have b4:=bY (h.d.n _ hm);have hl:=h.r _ hm;rw[aB (bI (by omega)),aB (by omega),oX iT];simp only[aH];rw[Qq _ (h.vs hm) (by omega)];simp only[aH];rw[aBN (by omega)];simp only[aH];rw[aB (by omega),oX (h.d.n _ hm)];simp only[aH];rw[eX,aB (by omega),eX,eX,aB (by omega)];simp only[aH];rw[aL (by omega),aQ hi,lI];rfl
 ·unfold xK;simp only[Tr.den];rw[aF (bJ (by omega)),fW];rfl
theorem okU.rowS(h:okU l)(hd:d∈l):(iA d.Row).size<=1200000:=qT (h.v d hd) (h.r d hd)
theorem oM(h:okU l):(eJ l).size<=1300001000:=by have h1:=nZ (dU (l.length:Int)) h l.length (dL _);have h2:=bY (n:=(l.length:Int)) ⟨by omega,by have:=h.n; omega⟩;have h3:=h.n;rw[fW]at h1;unfold eJ;omega
theorem aOB(h:okU a)(hc:Can a):G67 (eJ a)=some (a,true):=by
 have hb:=aEW h hc;have hs:=oM h;have hl:=yZ a;have hn:=h.n;have hlen:=congrArg List.length hl;unfold aMX at hlen hl;rw[bZ,cE]at hlen;have hge:=Yi a;obtain⟨b,hbb⟩:∃ b,eJ a=b:=⟨_,rfl⟩;rw[hbb]at hb hs hl hlen ⊢;have h65:Gx b=some ⟨b,false⟩:=rfl;unfold G67 T67;simp only[Tr.den,h65,aH];rw[Ly ⟨by omega,by omega⟩ (by omega) hl (by omega)];simp only[aH];have key:cK (fun s=>(Bj b ((a.length:Int),mkB (dsL a),false) s).den) (mkB (dsL a),false,([]:List aC),0)=some (.inl a):=by
  have:=bE (bd:=fun s=>(Bj b ((a.length:Int),mkB (dsL a),false) s).den) (fun i=>(mkB (dsL (a.drop i)),false,a.take i,(i:Int))) a.length (r:=.inl a) (fun i hi=>?_) ?_
  ·simp_all
  ·have hm:=aT hi;have b1:=h.rowS hm;have hdl:=Hg a i;have hq:bl (mkB (dsL (a.drop i)))=bl (dU (a.getD i default).Time)++(bl (nN (iA (a.getD i default).Row))++(bl (dU (a.getD i default).N)++dsL (a.drop (i+1)))):=by rw[fO,xA hi,tZ]; simp[aHN]
   have hql:=congrArg List.length hq;rw[fO,cE,cE]at hql;unfold Bj;simp only[Tr.den];rw[aB (bI (by split <;> omega)),uF (h.t _ hm) hq (by rw[<-bZ,fO]; omega)];simp only[aH];rw[Tz (by omega) (fO _) (by rw[<-bZ,fO,cE]; omega)];simp only[aH];rw[aHD (h.vs hm) (h.r _ hm) (by omega)];simp only[aH,kU,cM,cI];rw[uF (h.d.n _ hm) (fO _) (by rw[<-bZ,fO]; omega)];simp only[aH];rw[aB (by grind),aL (by omega),Bo hi]
  ·unfold Bj;simp only[Tr.den];rw[aF (bJ (by split <;> omega)),fW]
 rw[key];simp only[sel,aH];rw[aLJ a hc h.d.r (by omega)];simp_all
theorem Ph{b:ByteArray}(h:bl b=p++c::t):p.length<b.size/\b[p.length]?.getD 0=c:=by
 have h1:p.length<b.size:=by have:=congrArg List.length h;rw[bZ,cE,fB]at this;omega
 refine⟨h1,?_⟩;have h2:=aCZ h1;simp_all
def Ow(l:List UInt8)(k:Nat):Nat:=(l.take k).foldl Ed 0
theorem aFR{l:List UInt8}(h:k<l.length):Ow l (k+1)=Ow l k*10+((l.getD k 0).toNat-48):=by unfold Ow;rw[List.take_succ_eq_append_getElem h,lI,kD,Fj];unfold Ed;simp_all
theorem aXX(l:List UInt8)(k:Nat):Ow l k<=l.foldl Ed 0:=by
 unfold Ow
 conv=>rhs; rw[<-gG k l,lI]
 exact Nk _ _
theorem Jo(a:ByteArray)(pre:List UInt8)(u:Nat)(hu:u<=9223372036854775808)(hl:pre.length<=1)(ha:bl a=pre++Lib.decDigits u):
  cK (fun s=>(uI a (pre.length:Int) s).den) (0,(pre.length:Int))=some (.inl (-(u:Int))):=by
 obtain⟨l,hl0⟩:∃ l,Lib.decDigits u=l:=⟨_,rfl⟩;have hdm:=rD u;have hv:l.foldl Ed 0=u:=by rw[<-hl0]; exact qJ u
 have hll:l.length<=19:=by rw[<-hl0,Lib.decDigits_length];exact Nt 18 u (by omega)
 rw[hl0]at ha hdm;have hsz:a.size=pre.length+l.length:=by rw[<-bZ,ha,cE]
 have key:=bE (bd:=fun s=>(uI a (pre.length:Int) s).den) (fun k=>(-(Ow l k:Int),((pre.length+k:Nat):Int))) l.length (r:=.inl (-(u:Int))) (fun k hk=>?_) ?_
 ·exact key
 ·have hm:=hdm (l.getD k 0) (by simp_all);have hat:a[pre.length+k]?.getD 0=l.getD k 0:=by have h1:=aCZ (b:=a) (i:=pre.length+k) (by omega);simp_all
  have h1:=aFR hk;have h2:=aXX l (k+1);rw[<-hat]at hm h1;unfold uI;simp only[Tr.den,aS];rw[aB (bI (by omega)),aB (by omega),aF (bJ (by omega)),aB (by omega),aF (bJ (by omega)),kN (by omega)];simp only[aH,cM,cI];rw[aB (by omega),w8 (by omega) (by omega),bS (n:=(((a[pre.length+k]?.getD 0).toNat:Int)-48)) (by omega) (by omega),bS (n:=10 * -(Ow l k:Int)) (by omega) (by omega),bS (by omega) (by omega),aL (by omega)]
  congr 4
  omega
 ·have hv':Ow l l.length=u:=by unfold Ow; simp_all
  unfold uI;simp only[Tr.den,hv'];rw[aF (bJ (by omega))]
theorem aIP{n:Int}(hn:fF n){a:ByteArray}(ha:bl a=Lib.itoa n):aMO a=some (n,true):=by
 have hL:=Ii hn;have hsz:a.size=(Lib.itoa n).length:=by rw[<-bZ,ha]
 have fin:∀ r:ByteArray,r=dU n->(r.toList==(a++(⟨#[59]⟩:ByteArray)).toList)=true:=fun r hr=>by have:r=a++(⟨#[59]⟩:ByteArray):=iP (by rw[hr,lV,eI,ha]; rfl);simp_all
 obtain⟨h1,h2⟩:=hn;unfold aMO aUE;simp only[Tr.den];by_cases h0:n<0
 ·have hi:Lib.itoa n=[45]++Lib.decDigits n.natAbs:=by unfold Lib.itoa; simp_all
  have hc:=Ph (p:=[]) (c:=45) (ha.trans hi);have hc2:a[(0:Int).toNat]?.getD 0=45:=hc.2;have hpos:0<a.size:=hc.1;rw[aB (bI (by omega)),aB (by omega),hc2];rw[show ((((45:UInt8).toNat:Int))==45)=true from rfl];simp only[aH,fZ];have hb:=Jo a [45] n.natAbs (by omega) (dL 1) (ha.trans hi);rw[show (([45]:List UInt8).length:Int)=1 from rfl]at hb;rw[hb];simp only[aH,sel];rw[aF (by decide)];have e:-(n.natAbs:Int)=n:=by omega
  rw[e,aH,kY ⟨h1,h2⟩,aH,aB (by rw[sz1]; omega),fin _ rfl]
 ·have hi:Lib.itoa n=[]++Lib.decDigits n.toNat:=by unfold Lib.itoa; grind
  have hd:=rD n.toNat;obtain⟨j1,hj1,hj⟩:∃ j:Option Bool,j=some false/\(if decide ((a.size:Int)>0)=true then if 0<=(0:Int)/\(0:Int)<(a.size:Int) then some (((a[(0:Int).toNat]?.getD 0).toNat:Int)==45) else none else some false)=j:=by
   refine⟨_,?_,rfl⟩;cases hq:Lib.decDigits n.toNat with
   | nil=>simp_all
   | cons c r=>rw[hq]at hi hd;have hc:=Ph (p:=[]) (c:=c) (ha.trans hi);have hc2:a[(0:Int).toNat]?.getD 0=c:=hc.2;have hpos:0<a.size:=hc.1;have:=hd c dB;rw[aB (bI (by omega)),aB (by omega),hc2,rO.2 (by omega)]
  rw[hj,hj1];simp only[aH,cM,cI];have hb:=Jo a [] n.toNat (by omega) (mT 1) (ha.trans hi);rw[show (([]:List UInt8).length:Int)=0 from rfl]at hb;rw[hb];simp only[aH,sel];rw[aB (by decide)];have e:IntKind.i64.wrap (0 - -(n.toNat:Int))=n:=by rw[bS (by omega) (by omega)]; omega
  rw[e,aH,kY ⟨h1,h2⟩,aH,aB (by rw[sz1]; omega),fin _ rfl]
theorem Ma{n:Int}(hn:fF n)(hc:58<=c.toNat)(hr:bl rb=Lib.itoa n++c::t)(hsz:rb.size<=100000000000):Fu (c.toNat:Int) ⟨rb,b⟩=some (n,mkB t,b):=by
 have hL:=Ii hn;have hS:rb.size=(Lib.itoa n).length+1+t.length:=by rw[<-bZ,hr,cE,fB]; omega
 have hc0:=(Ph hr).2;have hno:=uU n hc;have key:=bE (bd:=fun s=>(pI (c.toNat:Int) ⟨rb,b⟩ s).den) (fun k=>(k:Int)) (Lib.itoa n).length (r:=.inl ((Lib.itoa n).length:Int)) (fun k hk=>?_) ?_
 ·have e1:rb.extract 0 (Lib.itoa n).length=mkB (Lib.itoa n):=Sh (by rw[eR,hr,Fo]; rfl);have e5:rb.extract (IntKind.i64.wrap (((Lib.itoa n).length:Int)+1)).toNat rb.size=mkB t:=Sh (by rw[eR,hr,aL (by omega),aS,fT (by grind)];simp_all);unfold Fu Ni;simp only[Tr.den];rw[show (0:Int)=((0:Nat):Int) from rfl,key];simp only[aH,sel,aS,hc0];rw[aF (bJ (by omega)),aB (by omega),aF (Bi rfl),aB (by omega),e1,aIP hn (fO _)];simp only[aH,kU,cM,cI];rw[aB ⟨by rw[aL (by omega)]; omega,by rw[aL (by omega)]; omega,by omega⟩,e5]
 ·have hat:rb[k]?.getD 0≠c:=by have h1:=aCZ (b:=rb) (i:=k) (by omega);grind
  unfold pI;simp only[Tr.den,aS];rw[aB (bI (by omega)),aB (bI (by omega)),aB (by omega),Iv (fun h=>hat (UInt8.toNat_inj.1 (by omega)))];simp only[aH,fZ];rw[aL (by omega)]
 ·unfold pI;simp only[Tr.den,aS,hc0];simp_all
theorem sY{n:Int}(hn:fF n)(hr:bl rb=bl (dU n)++t)(hsz:rb.size<=100000000000):Te ⟨rb,b⟩=some (n,mkB t,b):=by unfold Te aBF;simp only[Tr.den];rw[show (59:Int)=((59:UInt8).toNat:Int) from rfl,Ma (t:=t) hn (by decide) (by rw[hr,lV]; simp) hsz];rfl
theorem Lj{n:Int}(hn:fF n)(h0:0<=n)(hc:58<=c.toNat)(hr:bl rb=Lib.itoa n++c::t)(hsz:rb.size<=100000000000):Gy (c.toNat:Int) ⟨rb,b⟩=some (n,mkB t,b):=by unfold Gy Rf;simp only[Tr.den];rw[Ma hn hc hr hsz];simp only[aH];rw[aF (bJ (by omega))]
theorem Lr{n:Int}(hn:fF n)(h0:0<=n)(hr:bl rb=bl (dU n)++t)(hsz:rb.size<=100000000000):Eh ⟨rb,b⟩=some (n,mkB t,b):=by unfold Eh Nb;simp only[Tr.den];rw[show (59:Int)=((59:UInt8).toNat:Int) from rfl,Lj (t:=t) hn h0 (by decide) (by rw[hr,lV]; simp) hsz];rfl
theorem aIH(hr:bl rb=c::t)(hsz:rb.size<=100000000000):Gp (c.toNat:Int) ⟨rb,b⟩=some (true,mkB t,b):=by have hc0:=Ph (p:=[]) (c:=c) (t:=t) hr;have hc1:rb[(0:Int).toNat]?.getD 0=c:=hc0.2;have hp:0<rb.size:=hc0.1;have e5:rb.extract (1:Int).toNat (rb.size:Int).toNat=mkB t:=Sh (by rw[eR,hr,aS,fT (by rw[<-hr,bZ]; omega)]; rfl);unfold Gp Rk;simp only[Tr.den];rw[aF (kF (by omega)),aB (by omega),hc1,aF (Bi rfl),aB (by omega),e5]
theorem Uq(hs:s.size<=100000000000)(hr:bl rb=bl (nN s)++t)(hsz:rb.size<=100000000000):Wa ⟨rb,false⟩=some (s,mkB t,false):=by
 have hr':bl rb=Lib.itoa (s.size:Int)++(58:UInt8)::(bl s++44::t):=by rw[hr,zV]; simp
 have h1:=Lj (n:=(s.size:Int)) (c:=58) (b:=false) ⟨by omega,by omega⟩ (by omega) (by decide) hr' hsz;rw[show ((58:UInt8).toNat:Int)=58 from rfl]at h1;obtain⟨q,hq⟩:∃ q,mkB (bl s++44::t)=q:=⟨_,rfl⟩;rw[hq]at h1;have hbq:bl q=bl s++44::t:=by rw[<-hq,fO]
 have hS:q.size=s.size+1+t.length:=by rw[<-bZ,hbq,cE,fB,bZ]; omega
 have hS2:rb.size=(Lib.itoa (s.size:Int)).length+1+q.size:=by rw[<-bZ,hr',cE,fB,<-hbq,bZ]; omega
 have e1:bl (q.extract ((s.size:Int):Int).toNat (q.size:Int).toNat)=(44:UInt8)::t:=by rw[eR,hbq,aS,aS,fT (by rw[<-hbq,bZ]; omega),<-bZ s,List.drop_left]
 have e2:q.extract (0:Int).toNat ((s.size:Int)).toNat=s:=iP (by rw[eR,hbq,aS,<-bZ,Fo]; rfl);have h2:=aIH (c:=44) (b:=false) e1 (by rw[<-bZ,e1,fB]; omega);rw[show ((44:UInt8).toNat:Int)=44 from rfl]at h2;unfold Wa aFH;simp only[Tr.den,h1,aH,cM,cI];grind
theorem aGV{r:List aE}(hv:Dd r)(hl:r.length<=1000)(hsz:(iA r).size<=100000000000):aSJ (iA r)=some (r,true):=by
 have hb:bl (iA r)=bl (dU (r.length:Int))++iX r:=Zl r;have hl1:=congrArg List.length hb;rw[bZ,cE]at hl1;have hnl:(bl (dU (r.length:Int))).length>=1:=by rw[lV,cE]; simp
 have hvl:r.length<=(iX r).length:=by
  clear hb hl1 hsz hl hnl
  induction r with
  | nil=>simp
  | cons v r ih=>have:=ih (fun x hx=>hv x (cZ _ hx));have hp:=Fy v;rw[qN,cE,fB]; omega
 have h72:Ig (iA r)=some ⟨iA r,false⟩:=rfl;unfold aSJ aWX;simp only[Tr.den,h72,aH];rw[Lr ⟨by omega,by omega⟩ (by omega) hb hsz];simp only[aH];have key:=bE (bd:=fun s=>(zB (iA r) ((r.length:Int),mkB (iX r),false) s).den) (fun i=>(mkB (iX (r.drop i)),false,r.take i,(i:Int))) r.length (r:=.inl (mkB [],false,r)) (fun i hi=>?_) ?_
 ·rw[show (mkB (iX r),false,([]:List aE),(0:Int))=(fun i:Nat=>(mkB (iX (r.drop i)),false,r.take i,(i:Int))) 0 from rfl,key];simp only[sel,aH];have h76:Vl ⟨mkB [],false⟩=some true:=by unfold Vl aCD;simp only[Tr.den,Bool.not_false,fZ,aH];exact congrArg some (yF _)
  simp_all
 ·have hd:r.drop i=r.getD i default::r.drop (i+1):=by simp_all
  have ho:=hv _ (aT hi);have hq:bl (mkB (iX (r.drop i)))=bl (iH (r.getD i default))++iX (r.drop (i+1)):=by rw[fO,hd,qN]
  have hz:(mkB (iX (r.drop i))).size<=100000000000:=by rw[<-bZ,fO];have:=nC r i;omega
  unfold iH at hq;rw[eI,eI,cT,cT]at hq;have hq1:=congrArg List.length hq;rw[bZ,cE,cE,cE]at hq1;have ht:r.take i++[r.getD i default]=r.take (i+1):=by simp_all
  unfold zB;simp only[Tr.den];rw[aB (bI (by omega)),rM (by omega)];simp only[aH,fZ];rw[sY ho.k hq hz];simp only[aH];rw[sY ho.n (fO _) (by rw[<-bZ,fO,cE,cE]; omega)];simp only[aH];rw[Uq (by have:=ho.s; omega) (fO _) (by rw[<-bZ,fO,cE]; omega)];simp only[aH];rw[aB (by grind),aL (by omega)];rw[show (⟨(r.getD i default).Kind,(r.getD i default).N,(r.getD i default).S⟩:aE)=r.getD i default from rfl,ht]
 ·unfold zB;simp only[Tr.den];rw[aF (bJ (by omega))];simp only[aH,cM,cI,fW,List.drop_length];rfl
theorem aTX(q:bW)(hg:RG q)(hs:q.rest_.size<=1000):Sp (Fc q) (fun r=>Dc 1000 r.1/\RdW q (bl (iH r.1)) r.2.1 r.2.2):=by unfold Fc Qt;simp only[Tr.den];refine Sq.bind _ (Gs q (by omega)) fun r1 h1=>?_;have q1:=h1.2.1;refine Sq.bind _ (Gs ⟨r1.2.1,r1.2.2⟩ (by grind)) fun r2 h2=>?_;have q2:r2.2.1.size<=r1.2.1.size:=h2.2.1;have g1:=h1.2.good hg;refine Sq.bind _ (aQK ⟨r2.2.1,r2.2.2⟩ (h2.2.good g1) (by grind)) fun r3 h3=>?_;have q3:r3.1.size<=r2.2.1.size:=h3.1;refine aA.2 ⟨⟨h1.1,h2.1,by grind⟩,?_⟩;have:=(h1.2.trans h2.2).trans h3.2;unfold iH;rw[eI,eI];omega
theorem aXO(a:ByteArray)(hs:a.size<=1000):Sp (aLV a) (fun r=>r.1.length<=1000/\∀ v,v∈r.1->Dc 1000 v):=by
 have h65:Gx a=some ⟨a,false⟩:=rfl;unfold aLV aSU;simp only[Tr.den,h65,aH];have g0:RG ⟨a,false⟩:=fun h=>by cases h
 refine Sq.bind _ (aEP ⟨a,false⟩ (by grind)) fun r2 hr2=>?_;obtain⟨h1,h2,h3⟩:=hr2;have h31:r2.2.1.size<=a.size:=h3.1;refine Sq.bind (fun z:(ByteArray×Bool×List aE)⊕(List aE×Bool)=>match z with | .inl b=>b.2.2.length<=1000/\∀ v,v∈b.2.2->Dc 1000 v | .inr r=>r=([],false)) ?_ fun z hz=>?_
 ·refine Sq.while (fun s:ByteArray×Bool×List aE×Int=>RG ⟨s.1,s.2.1⟩/\s.2.2.1.length+s.1.size<=a.size/\fF s.2.2.2/\∀ v,v∈s.2.2.1->Dc 1000 v) (fun s=>s.1.size) (fun s hI=>?_) ⟨h3.good g0,by simp_all,h1,fun v hv=>by cases hv⟩;obtain⟨v3,v4,v5,v6⟩:=s;obtain⟨i1,i2,i3,i4⟩:=hI;simp only at i1 i2 i3 i4;obtain⟨i3a,i3b⟩:=i3;have h180:aAX ⟨v3,v4⟩=some (v3.size:Int):=rfl;unfold vL;simp only[Tr.den,h180,aH];refine aO (fun hp=>?_) fun _=>aA.2 ⟨by grind,i4⟩;have hp:=lO hp;refine aO (fun _=>aA.2 rfl) fun hne=>?_;have hne:(v3.size:Int)≠0:=rO.1 hne;refine Sq.bind _ (aTX ⟨v3,v4⟩ i1 (by grind)) fun r11 hr=>?_;have hl:r11.2.1.size<v3.size:=hr.2.less (fun h=>by have:=Fy r11.1; simp_all) (by grind);rw[aB (by grind)];refine aA.2 ⟨⟨hr.2.good i1,?_,qZ _,fun v hv=>?_⟩,hl⟩
  all_goals grind
 ·cases z with
  | inr r=>subst hz; exact aA.2 ⟨by simp,fun v hv=>by cases hv⟩
  | inl b=>obtain⟨b7,b8,b9⟩:=b;obtain⟨h4,h5⟩:=hz;simp only[sel];refine Sq.bind (fun _=>True) ?_ fun r12 _=>aO (fun _=>aA.2 ⟨by simp,fun v hv=>by cases hv⟩) fun _=>aA.2 ⟨h4,h5⟩;unfold aBP aCY;simp only[Tr.den];exact Sq.bind (fun _=>True) (aO (fun _=>aA.2 trivial) fun _=>aA.2 trivial) fun _ _=>aA.2 trivial
theorem aWK(l:List aC)(ho:gV l)(hn6:okN l)(hn:l.length<=1000000):Sp (aME l) (fun r=>r=true->Can l):=by
 unfold aME aTK;simp only[Tr.den];refine Sq.bind (fun z:Unit⊕Bool=>(z = .inl ()/\Can l)\/z = .inr false) ?_ fun z hz=>?_
 ·refine cG (fun s:Int=>s) l.length (by omega) (fun s=>(∀ j,j<s.toNat->(l.getD j default).N≠0)/\∀ j,j+1<s.toNat->dJ (l.getD j default) (l.getD (j+1) default)<0) (fun s k hI hk hkN=>?_) ⟨fun j hj=>by simp at hj,fun j hj=>by simp at hj⟩ rfl;subst hk;rw[aS]at hI;unfold zA;simp only[Tr.den,aS];by_cases hc:k<l.length
  ·rw[aB (bI (by omega)),aB (by omega)];refine Sq.bind (fun j:Bool=>j=false->(l.getD k default).N≠0/\(0<k->dJ (l.getD (k-1) default) (l.getD k default)<0)) ?_ fun j hj=>?_
   ·refine aO (fun _=>aA.2 fun h=>by cases h) fun h0=>?_;have h0:(l.getD k default).N≠0:=rO.1 h0;refine aO (fun h1=>?_) fun h1=>aA.2 fun _=>⟨h0,fun h=>absurd (fE h1) (by omega)⟩;have h1:=lO h1;have e:IntKind.i64.wrap ((k:Int)-1)=((k-1:Nat):Int):=by have:=fH (n:=k) (m:=1) (by omega) (by omega);omega
    rw[e,aB (by omega),aS,sO _ _ (ho _ (aT (by omega))) (ho _ (aT hc))];simp only[aH];exact aA.2 fun h=>⟨h0,fun _=>by simp_all⟩
   ·refine aO (fun _=>aA.2 (.inr rfl)) fun h=>?_;obtain⟨g1,g2⟩:=hj h;rw[aL (by omega)];refine aA.2 ⟨rfl,hc,fun j hj=>?_,fun j hj=>?_⟩
    all_goals grind
  ·rw[aF (bJ (by omega))];refine aA.2 (.inl ⟨rfl,?_,fun x hx=>?_,hn6⟩)
   ·have key:∀ (j d:Nat),j+d+1<l.length->dJ (l.getD j default) (l.getD (j+d+1) default)<0:=by
     intro j d
     induction d with
     | zero=>grind
     | succ d ih=>intro h; exact rB (ih (by omega)) (hI.2 (j+d+1) (by omega))
    refine yH.2 fun i j hi hj hij=>?_;have:=key i (j-i-1) (by omega);grind
   ·obtain⟨j,hj,rfl⟩:=sS.1 hx;grind
 ·rcases hz with⟨rfl,hz⟩ | rfl
  ·exact aA.2 fun _=>hz
  ·exact aA.2 fun h=>by cases h
theorem okU.snoc(h:okU l)(h1:fF d.N)(h2:d.Row.length<=1000)(h3:∀ v,v∈d.Row->Dc 1000 v)(h4:fF d.Time)(hl:l.length+1<=1000):okU (l++[d]):=by
 refine⟨⟨fun x hx=>?_,fun x hx=>?_⟩,fun x hx=>?_,fun x hx=>?_,fun x hx=>?_,by simp_all⟩
 all_goals
  rcases dC.1 hx with hx | hx
  ·first | exact h.d.r x hx | exact h.d.n x hx | exact h.r x hx | exact h.v x hx | exact h.t x hx
  ·rw[cR]at hx; subst hx
   first | exact h1 | exact h3 | exact h4 | exact h2 | (unfold okR; omega)
theorem bHK(a:ByteArray)(hs:a.size<=800):Sp (G67 a) (fun r=>r.2=true->Can r.1/\okU r.1/\a=eJ r.1):=by
 have h65:Gx a=some ⟨a,false⟩:=rfl;unfold G67 T67;simp only[Tr.den,h65,aH];have g0:RG ⟨a,false⟩:=fun h=>by cases h
 refine Sq.bind _ (aEP ⟨a,false⟩ (by grind)) fun r2 hr2=>?_;obtain⟨h1,h2,h3⟩:=hr2;have h31:r2.2.1.size<=a.size:=h3.1;refine Sq.bind (fun z:List aC⊕(List aC×Bool)=>match z with | .inl b=>okU b | .inr r=>r=([],false)) ?_ fun z hz=>?_
 ·refine Sq.while (fun s:ByteArray×Bool×List aC×Int=>RG ⟨s.1,s.2.1⟩/\s.1.size<=a.size/\0<=s.2.2.2/\s.2.2.2<=(a.size:Int)/\s.2.2.1.length=s.2.2.2.toNat/\okU s.2.2.1) (fun s=>a.size-s.2.2.2.toNat) (fun s hI=>?_)
   ⟨h3.good g0,h31,by simp_all,by simp_all,rfl,okU.nil⟩
  obtain⟨v3,v4,v5,v6⟩:=s;obtain⟨i0,i1,i2,i3,i4,i5⟩:=hI;simp only at i0 i1 i2 i3 i4 i5;unfold Bj;simp only[Tr.den];refine aO (fun h=>?_) fun _=>aA.2 i5;have h:=lO h;have h:v6<(a.size:Int):=by split at h <;> omega
  refine Sq.bind _ (Gs ⟨v3,v4⟩ (by grind)) fun r8 hr8=>?_;have q1:r8.2.1.size<=v3.size:=hr8.2.1;have g8:=hr8.2.good i0;refine Sq.bind _ (aQK ⟨r8.2.1,r8.2.2⟩ g8 (by grind)) fun r9 hr9=>?_;have q2:r9.2.1.size<=r8.2.1.size:=hr9.2.1;have q3:r9.1.size<=r8.2.1.size:=hr9.1;have g9:=hr9.2.good g8;refine Sq.bind _ (aXO r9.1 (by omega)) fun r10 hr10=>?_;refine aO (fun _=>aA.2 rfl) fun _=>?_;refine Sq.bind _ (Gs ⟨r9.2.1,r9.2.2⟩ (by grind)) fun r11 hr11=>?_;have q4:r11.2.1.size<=r9.2.1.size:=hr11.2.1;rw[aB (by grind)];have e:IntKind.i64.wrap (v6+1)=v6+1:=bS (by omega) (by omega);rw[e];have hl:(v5++[aC.mk r8.1 r10.1 r11.1]).length=(v6+1).toNat:=by grind
  exact aA.2 ⟨⟨hr11.2.good g9,by grind,by grind,by grind,hl,i5.snoc hr11.1 hr10.1 hr10.2 hr8.1 (by omega)⟩,by grind⟩
 ·cases z with
  | inr r=>subst hz; exact aA.2 fun h=>by cases h
  | inl b=>
   simp only at hz;simp only[sel];refine Sq.bind _ (aWK b hz.d.r hz.d.n (by have:=hz.n; omega)) fun r14 hr14=>?_;refine Sq.bind (fun j:List aC×Bool=>j.1=b/\(j.2=false->Can b/\a=eJ b)) ?_ fun j hj=>?_
   ·refine aO (fun _=>aA.2 ⟨rfl,fun h=>by cases h⟩) fun h=>?_;have hc:=hr14 (by simpa using h);rw[aEW hz hc];simp only[aH];exact aA.2 ⟨rfl,fun h=>⟨hc,(iP (yQ (by simpa using h))).symm⟩⟩
   ·obtain⟨j1,j2⟩:=j;obtain⟨e,hj⟩:=hj;simp only at e hj;subst e;exact aO (fun _=>aA.2 fun h=>by cases h) fun h=>aA.2 fun _=>⟨(hj h).1,hz,(hj h).2⟩
theorem aRZ(l:List aC)(h:Can l)(ho:gV l)(hn:l.length<=1000000000000):aOT l=some true:=by
 unfold aOT aTD;simp only[Tr.den];have h1:=bE (bd:=fun s=>(yW l s).den) (fun k=>(k:Int)) l.length (r:=.inl ()) (fun k hk=>?_) ?_
 ·refine(congrArg (fun x=>Option.bind x _) h1).trans ?_;rfl
 ·have hm:=aT hk;unfold yW;simp only[Tr.den,aS];rw[aB (bI (by omega)),aB (by omega),aF (kF (h.nz _ hm))];by_cases h0:k=0
  ·rw[aF (bJ (by omega))];simp only[aH,cM,cI];rw[aL (by omega)]
  ·have e:(if (0:Int)>(IntKind.i64.wrap ((k:Int)-1)) then (0:Int) else (IntKind.i64.wrap ((k:Int)-1)))=((k-1:Nat):Int):=by have:=fH (n:=k) (m:=1) (by omega) (by omega);rw[show ((k:Int)-1)=((k:Int)-((1:Nat):Int)) by omega,this,aF (by omega)]
   have hlt:dJ (l.getD (k-1) default) (l.getD k default)<0:=by rw[dF hk,dF (show k-1<l.length by omega)];exact yH.1 h.lt (k-1) k (by omega) hk (by omega)
   rw[aB (bI (by omega)),e,aB (by omega),aB (by omega),aS,Im _ _ (ho _ (aT (by omega))) (ho _ hm)];simp only[aH];rw[kN (by omega)];simp only[aH,cM,cI];rw[aL (by omega)]
 ·unfold yW;simp only[Tr.den];rw[aF (bJ (by omega))]
theorem aOY(h:okU a)(hc:Can a):G74 (eJ a)=some (a,true):=by
 have hb:=aDJ h hc;have hs:=oM h;have hl:=yZ a;have hn:=h.n;have hlen:=congrArg List.length hl;unfold aMX at hlen hl;rw[bZ,cE]at hlen;have hge:=Yi a;obtain⟨b,hbb⟩:∃ b,eJ a=b:=⟨_,rfl⟩;rw[hbb]at hb hs hl hlen ⊢;have h72:Ig b=some ⟨b,false⟩:=rfl;unfold G74 T74;simp only[Tr.den,h72,aH];rw[Lr ⟨by omega,by omega⟩ (by omega) hl (by omega)];simp only[aH];have key:cK (fun s=>(Bu b ((a.length:Int),mkB (dsL a),false) s).den) (mkB (dsL a),false,([]:List aC),0)=some (.inl a):=by
  have:=bE (bd:=fun s=>(Bu b ((a.length:Int),mkB (dsL a),false) s).den) (fun i=>(mkB (dsL (a.drop i)),false,a.take i,(i:Int))) a.length (r:=.inl a) (fun i hi=>?_) ?_
  ·simp_all
  ·have hm:=aT hi;have b1:=h.rowS hm;have hdl:=Hg a i;have hq:bl (mkB (dsL (a.drop i)))=bl (dU (a.getD i default).Time)++(bl (nN (iA (a.getD i default).Row))++(bl (dU (a.getD i default).N)++dsL (a.drop (i+1)))):=by rw[fO,xA hi,tZ]; simp[aHN]
   have hql:=congrArg List.length hq;rw[fO,cE,cE]at hql;unfold Bu;simp only[Tr.den];rw[aB (bI (by omega)),rM (by omega)];simp only[aH,fZ];rw[sY (h.t _ hm) hq (by rw[<-bZ,fO]; omega)];simp only[aH];rw[Uq (by omega) (fO _) (by rw[<-bZ,fO,cE]; omega)];simp only[aH];rw[aGV (h.vs hm) (h.r _ hm) (by omega)];simp only[aH,kU,cM,cI];rw[sY (h.d.n _ hm) (fO _) (by rw[<-bZ,fO]; omega)];simp only[aH];rw[aB (by grind),aL (by omega),Bo hi]
  ·unfold Bu;simp only[Tr.den];simp_all
 rw[key];simp only[sel,aH];rw[aRZ a hc h.d.r (by omega)];simp_all
abbrev KP:=List (ByteArray×List aC)
def Ay(m:KP)(k:ByteArray)(l:List aC):KP:=if l=[] then mdel m k else mput m k l
def dV(m:KP)(k:ByteArray):List aC:=(cB m k).getD []
structure MP (m:KP):Prop where
 mc:MC m
 ne:∀ k l,cB m k=some l->l≠[]
theorem MP.nil:MP []:=⟨aPK,fun k l h=>by simp[cB]at h⟩
theorem MP.look{m:KP}(h:MP m)(k:ByteArray):cB m k=if dV m k=[] then none else some (dV m k):=by
 unfold dV;cases hc:cB m k with
 | none=>rfl
 | some l=>rw[zO,aF (h.ne k l hc)]
theorem MP.key{m:KP}(h:MP m){k:ByteArray}:k∈cU m↔dV m k≠[]:=by rw[nF,h.look];simp_all
theorem MP.ext{m w:KP}(h:MP m)(h':MP w)(e:∀ k,dV m k=dV w k):m=w:=h.mc.ext LO.bytes h'.mc fun k=>by rw[h.look,h'.look,e]
theorem Lh(m:KP)(k:ByteArray)(l:List aC)(k':ByteArray):cB (Ay m k l) k'=if k=k' then (if l=[] then none else some l) else cB m k':=by
 unfold Ay;split
 ·exact wZ m k k'
 ·exact qQ m k l k'
theorem xW(m:KP)(k:ByteArray)(l:List aC)(k':ByteArray):dV (Ay m k l) k'=if k=k' then l else dV m k':=by unfold dV;rw[Lh];grind
theorem MP.set{m:KP}(h:MP m)(k:ByteArray)(l:List aC):MP (Ay m k l):=by
 refine⟨?_,fun k' l' hk=>?_⟩
 ·unfold Ay;split
  ·exact h.mc.mdel k
  ·exact h.mc.mput LO.bytes k l
 ·rw[Lh]at hk;split at hk
  ·grind
  ·exact h.ne k' l' hk
def Fa(f:ByteArray->List aC)(ks:List ByteArray)(m:KP):KP:=ks.foldl (fun m' k=>Ay m' k (f k)) m
theorem Ex(f:ByteArray->List aC):∀ (ks:List ByteArray) {m:KP},MP m->MP (Fa f ks m):=by
 intro ks
 induction ks with
 | nil=>exact fun h=>h
 | cons a ks ih=>exact fun h=>ih (h.set _ _)
theorem nB(f:ByteArray->List aC)(k:ByteArray):∀ (ks:List ByteArray) (m:KP),(k∈ks->dV (Fa f ks m) k=f k)/\(k∉ks->dV (Fa f ks m) k=dV m k):=by
 intro ks
 induction ks with
 | nil=>exact fun m=>⟨fun h=>by simp at h,fun _=>rfl⟩
 | cons a ks ih=>
  intro m;have ih:=ih (Ay m a (f a));unfold Fa at ih ⊢;rw[kD];refine⟨fun h=>?_,fun h=>?_⟩
  ·by_cases h':k∈ks
   ·exact ih.1 h'
   ·rw[ih.2 h',xW];simp_all
  ·simp only[bH,not_or]at h;rw[ih.2 h.2,xW,aF (fun he=>h.1 he.symm)]
structure Ix (f:ByteArray->List aC)(ks:List ByteArray)(m:KP)(rem:List ByteArray)(m':KP):Prop where
 nd:rem.Nodup
 sub:∀ k,k∈rem->k∈ks
 mp:MP m'
 new:∀ k,k∈ks->k∉rem->dV m' k=f k
 old:∀ k,k∉ks\/k∈rem->dV m' k=dV m k
theorem Ix.start{m:KP}(h:ks.Nodup)(hm:MP m):Ix f ks m ks m:=⟨h,fun _ h=>h,hm,fun k h h'=>absurd h h',fun k _=>rfl⟩
theorem Ix.step{m:KP}{rem:List ByteArray}{m':KP}(h:Ix f ks m rem m'){k:ByteArray}(hk:k∈rem):Ix f ks m (jL rem k) (Ay m' k (f k)):=by
 refine⟨zM h.nd k,fun k' hk'=>h.sub k' ((qW h.nd).1 hk').2,h.mp.set _ _,fun k' q1 q2=>?_,fun k' q=>?_⟩
 ·rw[xW];by_cases hkk:k=k'
  ·subst hkk; rw[aB rfl]
  ·rw[aF hkk];exact h.new k' q1 fun h'=>q2 ((qW h.nd).2 ⟨fun he=>hkk he.symm,h'⟩)
 ·rw[xW];have hkk:¬ k=k':=by
   rintro rfl;rcases q with q | q
   ·exact q (h.sub k hk)
   ·exact((qW h.nd).1 q).1 rfl
  rw[aF hkk];exact h.old k' (q.imp id fun q=>((qW h.nd).1 q).2)
theorem Ix.fin{m:KP}{m':KP}(hm:MP m)(h:Ix f ks m [] m'):m'=Fa f ks m:=by
 refine h.mp.ext (Ex f ks hm) fun k=>?_;by_cases hk:k∈ks
 ·rw[h.new k hk (by simp),(nB f k ks m).1 hk]
 ·rw[h.old k (.inl hk),(nB f k ks m).2 hk]
def mP(n:aG)(l:List aC)(m:KP):KP:=Fa (fun k=>cons (dV m k++ofK n 0 k l)) (cU (dM n 0 l)) m
def Fs(t:Int)(m:KP):KP:=Fa (fun k=>(dV m k).filter (aft t)) (cU m) m
theorem jY{k:ByteArray}:k∈cU (dM n 0 l)↔ofK n 0 k l≠[]:=by rw[nF,mE];simp_all
theorem aIO{m:KP}(k:ByteArray)(hc:Can (dV m k)):dV (mP n l m) k=cons (dV m k++ofK n 0 k l):=by
 by_cases hk:k∈cU (dM n 0 l)
 ·exact(nB _ k _ m).1 hk
 ·unfold mP;rw[(nB _ k _ m).2 hk];have h0:ofK n 0 k l=[]:=zG fun h=>hk (jY.2 h);rw[h0,eN,jS hc]
theorem aAA{t:Int}{m:KP}(hm:MP m)(k:ByteArray):dV (Fs t m) k=(dV m k).filter (aft t):=by
 by_cases hk:k∈cU m
 ·exact(nB _ k _ m).1 hk
 ·unfold Fs;rw[(nB _ k _ m).2 hk];have h0:dV m k=[]:=zG fun h=>hk (hm.key.2 h);rw[h0]; rfl
structure lM (n:aG)(a:List aC)(t:Int)(m:KP):Prop where
 mp:MP m
 val:∀ k,dV m k=ofK n 0 k (a.filter (aft t))
theorem lM.init(n:aG)(t:Int):lM n [] t []:=⟨.nil,fun k=>rfl⟩
theorem lM.push{t:Int}{m:KP}(h:lM n a t m)(ha:Can a)(hl:okN l)(hal:∀ d,d∈l->aft t d=true):lM n (cons (a++l)) t (mP n (cons l) m):=by refine⟨Ex _ _ h.mp,fun k=>?_⟩;rw[aIO k (by rw[h.val]; exact(ha.filter _).filter _),h.val,pH ha hl hal]
theorem lM.close{t t':Int}{m:KP}(h:lM n a t m)(ht:t<=t'):lM n a t' (Fs t' m):=by refine⟨Ex _ _ h.mp,fun k=>?_⟩;rw[aAA h.mp,h.val];unfold ofK;rw[yA,aDM ht]
def xO(m:KP):List aC:=(cU m).flatMap (dV m)
theorem zP{α:Type}(p:Pl->Bool)(f:α->List aC):∀ ks:List α,wt p (ks.flatMap f)=(ks.map fun k=>wt p (f k)).foldr (·+·) 0
 | []=>rfl
 | k::ks=>by rw[jM,eT,zP p f ks]; rfl
theorem tM(f:ByteArray->Int):∀ ks:List ByteArray,iW f ks=(ks.map f).foldr (·+·) 0
 | []=>rfl
 | k::ks=>by simp only[iW,tM f ks,kL,List.foldr_cons]
theorem lM.kept{t:Int}{m:KP}(h:lM n a t m)(ha:Can a):cons (xO m)=a.filter (aft t):=by
 have hN:okN (xO m):=fun x hx=>by obtain⟨k,_,hx⟩:=lT.1 hx;rw[h.val]at hx;exact ha.n64 x (iB.1 (eK.1 hx).1).1
 refine oI (ha.filter _) hN fun p=>?_
 congr 1
 unfold xO;rw[zP,<-tM,<-Gq p n 0 (cU m) (h.mp.mc.nodup LO.bytes) (a.filter (aft t)) fun x hx=>h.mp.key.2 fun h0=>by rw[h.val]at h0;have:x∈ofK n 0 (kd n 0 x) (a.filter (aft t)):=eK.2 ⟨hx,rfl⟩;simp_all];exact lR fun k _=>by rw[h.val]
abbrev LP:=List (ByteArray×List aC)
def tG(n:aG)(a:Int):Nat->Int
 | 0=>a
 | k+1=>if ((n.Seq.getD k default).Rep==2)=true/\(lG .i64 (dO .i64 (tG n a k) k) 1==1)=true then zD .i64 (tG n a k) (lF .i64 1 (k+1:Nat)) else tG n a k
def jC(n:aG)(a:Int):Int:=tG n a n.Seq.length
def rU(n:aG):Nat->Int
 | 0=>0
 | k+1=>if ((n.Seq.getD k default).Rep==1)=true then zD .i64 (rU n k) (lF .i64 1 k) else rU n k
def nxF(n:aG)(now:Int)(p:aX):Int:=jC n (zD .i64 (lF .i64 (lG .i64 now p.fits_) 1) (lG .i64 (lG .i64 now p.fits_) (rU n n.Seq.length)))
def kG(n:aG)(s:Int):Bool:=lG .i64 s (lF .i64 1 (n.Seq.length:Int)) != 0
theorem Jh(a:Int)(fs:List aI)(n:aG)(c:Int)(m:LP)(hn:n.Seq.length<=1000):Yt a fs n c m=some (jC n a):=by
 unfold Yt Xv;simp only[Tr.den];have h1:=bE (bd:=fun s=>(vA fs n c m s).den) (fun k=>(tG n a k,(k:Int))) n.Seq.length (r:=.inl (jC n a)) (fun k hk=>?_) ?_
 ·exact(congrArg (fun x=>Option.bind x _) h1).trans rfl
 ·unfold vA;simp only[Tr.den,aS];rw[aB (bI (by omega)),aB (by omega),aL (by omega)]
  conv=>rhs; rw[tG]
  grind
 ·unfold vA;simp only[Tr.den];rw[aF (bJ (by omega))]; rfl
theorem aJR(a:Int)(fs:List aI)(n:aG)(c:Int)(m:LP)(hn:n.Seq.length<=1000):aNW a fs n c m=some (jC n a):=by rw[<-Jh a fs n c m hn];rfl
theorem aIE(fs:List aI)(n:aG)(c:Int)(m:LP)(hn:n.Seq.length<=1000):Yd fs n c m=some (jC n 1,rU n n.Seq.length):=by
 unfold Yd Wp;simp only[Tr.den];have h1:=bE (bd:=fun s=>(uV fs n c m s).den) (fun k=>(rU n k,(k:Int))) n.Seq.length (r:=.inl (rU n n.Seq.length)) (fun k hk=>?_) ?_
 ·refine(congrArg (fun x=>Option.bind x _) h1).trans ?_;simp only[aH,sel];rw[Jh 1 fs n c m hn]; rfl
 ·unfold uV;simp only[Tr.den,aS];rw[aB (bI (by omega)),aB (by omega),aL (by omega)]
  conv=>rhs; rw[rU]
  grind
 ·unfold uV;simp only[Tr.den];rw[aF (bJ (by omega))]
theorem aIZ(now:Int)(p:aX)(fs:List aI)(n:aG)(c:Int)(m:LP)(hn:n.Seq.length<=1000):Zd now p fs n c m (rU n n.Seq.length)=some (nxF n now p):=by unfold Zd aAC;simp only[Tr.den];rw[aJR _ fs n c m hn]; rfl
def mI(n:aG)(row:List aE):List aE:=n.Key.map fun c=>row.getD c.toNat default
theorem Mt(row:List aE)(fs:List aI)(n:aG)(c:Int)(m:LP)(hc:Pw n.Key row)(hl:n.Key.length<=1000):Wo row fs n c m=some (mI n row):=by
 unfold Wo Xm;simp only[Tr.den];have h1:=bE (bd:=fun s=>(vM row n s).den) (fun k=>((n.Key.take k).map fun c=>row.getD c.toNat default,(k:Int))) n.Key.length (r:=.inl (mI n row)) (fun k hk=>?_) ?_
 ·rw[bS (by omega) (by omega)];rw[aB ⟨⟨by omega,by omega⟩,by omega⟩];exact(congrArg (fun x=>Option.bind x _) h1).trans rfl
 ·unfold vM;simp only[Tr.den,aS];have h2:=hc _ (aT hk);rw[aB (bI (by omega)),aB (by omega),aB h2,aB (by simp; omega),aL (by omega),aQ hk,rN];rfl
 ·unfold vM;simp only[Tr.den];rw[aF (bJ (by omega)),fW]; rfl
theorem pY(n:aG)(row:List aE):(mI n row).length=n.Key.length:=mS _
theorem Kv(l:List aC)(fs:List aI)(n:aG)(c:Int)(m:LP)(h:okI n 0 l)(hc:n.Key.length<=1000)(hn:l.length<=1000000000000):Rz l fs n c m=some (dM n 0 l):=by
 unfold Rz Xc;simp only[Tr.den];have h1:=bE (bd:=fun s=>(pN l fs n c m s).den) (fun k=>(dM n 0 (l.take k),(k:Int))) l.length (r:=.inl (dM n 0 l)) (fun k hk'=>?_) ?_
 ·exact(congrArg (fun x=>Option.bind x _) h1).trans rfl
 ·unfold pN;simp only[Tr.den,aS];have hm:=aT hk';have hcl:Pw n.Key (l.getD k default).Row:=h.c _ hm;rw[aB (bI (by omega)),aB (by omega),Mt _ fs n c m hcl hc];simp only[aH];rw[Qq _ (fun v hv=>by obtain⟨c,hcm,rfl⟩:=dZ.1 hv;exact Dd.get (h.v _ hm) _) (by rw[pY]; exact hc)];simp only[aH];have h2:=uM n 0 (aVJ n 0 (l.getD k default).Row) (l.take k);simp only[gO]at h2;have hkey:iA (mI n (l.getD k default).Row)=aVJ n 0 (l.getD k default).Row:=rfl;rw[hkey,aB (by rw[wP]; grind),aL (by omega)]
  congr 3
  unfold dM;rw[aQ hk',lI];rfl
 ·unfold pN;simp only[Tr.den];rw[aF (bJ (by omega)),fW]
theorem aHY(k:ByteArray)(l:List aC)(fs:List aI)(n:aG)(c:Int)(m:LP)(ks:List ByteArray):aAW k l fs n c m ks=some (Ay m k l):=by
 unfold aAW aAH;simp only[Tr.den];unfold Ay;by_cases h:l=[]
 all_goals simp_all
theorem aII(k:ByteArray)(l:List aC)(fs:List aI)(n:aG)(c:Int)(m:LP):Xe k l fs n c m=some (Ay m k l):=by
 unfold Xe Yu;simp only[Tr.den];unfold Ay;by_cases h:l=[]
 all_goals simp_all
noncomputable def evV (fs:List aI)(e:bB)(d:aC):aE:=(sQ fs e d.Time d.Row).getD default
def Dh(fs:List aI)(n:aG)(l:List aC):Prop:=∀ d,d∈l->∀ i,i<n.Seq.length->(sQ fs (n.Seq.getD i default).Pred d.Time d.Row).isSome=true
theorem Dh.get(h:Dh fs n l)(hd:d∈l)(hi:i<n.Seq.length):sQ fs (n.Seq.getD i default).Pred d.Time d.Row=some (evV fs (n.Seq.getD i default).Pred d):=by have:=h d hd i hi;obtain⟨v,hv⟩:=Ck.1 this;unfold evV;rw[hv]; rfl
theorem Dh.sub(h:Dh fs n l)(hs:∀ x,x∈r->x∈l):Dh fs n r:=fun d hd=>h d (hs d hd)
noncomputable def qF (fs:List aI)(n:aG)(d:aC):Nat->Int
 | 0=>0
 | k+1=>if ((evV fs (n.Seq.getD k default).Pred d).N==1)=true then zD .i64 (qF fs n d k) (lF .i64 1 k) else qF fs n d k
def inW(n:aG)(lo hi:Int)(d:aC):Bool:=decide (lo-n.Size<d.Time)&&decide (d.Time<=hi)
noncomputable def plD (fs:List aI)(n:aG)(d:aC):List aX:=List.replicate d.N.toNat ⟨d.Time,qF fs n d n.Seq.length⟩
noncomputable def plF (fs:List aI)(n:aG)(l:List aC)(lo hi:Int):List aX:=(l.filter (inW n lo hi)).flatMap (plD fs n)
theorem Dn{fs:List aI}{n:aG}{lo hi:Int}:∀ {l:List aC},(∀ d,d∈l->d.N<=1000)->(plF fs n l lo hi).length<=l.length*1000
 | [],_=>by simp[plF]
 | d::l,h=>by
  have ih:=Dn (fs:=fs) (n:=n) (lo:=lo) (hi:=hi) (l:=l) fun x hx=>h x (cZ _ hx);have hd:=h d dB;unfold plF at ih ⊢;rw[Il,fB];split
  ·rw[jM,cE];unfold plD;rw[wF];unfold plD at ih;omega
  ·omega
theorem aMK(fs:List aI)(n:aG)(l:List aC)(lo hi:Int)(hk:k<l.length):plF fs n (l.take (k+1)) lo hi=plF fs n (l.take k) lo hi++(if inW n lo hi (l.getD k default)=true then plD fs n (l.getD k default) else []):=by unfold plF;rw[aQ hk,qP,Mx];grind
theorem aGZ(l:List aC)(lo hi:Int)(fs:List aI)(n:aG)(c:Int)(m:LP)(hn:n.Seq.length<=1000)(hev:Dh fs n l)(hN:∀ d,d∈l->d.N<=1000)(hl:l.length<=1000000)
  (hlo:0<=lo/\lo<=4398046511104)(hs:0<=n.Size/\n.Size<=10000):Wr l lo hi fs n c m=some (plF fs n l lo hi):=by
 unfold Wr Wx;simp only[Tr.den];have h1:=bE (bd:=fun s=>(uK l lo hi fs n c m s).den) (fun k=>(plF fs n (l.take k) lo hi,(k:Int))) l.length (r:=.inl (plF fs n l lo hi)) (fun k hk=>?_) ?_
 ·exact(congrArg (fun x=>Option.bind x _) h1).trans rfl
 ·unfold uK;simp only[Tr.den,aS];have hm:=aT hk;have hNk:=hN _ hm;have hpl:(plF fs n (l.take k) lo hi).length<=1000*1000000:=by have:=Dn (fs:=fs) (n:=n) (lo:=lo) (hi:=hi) (l:=l.take k) fun d hd=>hN d (xG hd);grind
  rw[aB (bI (by omega)),aB (by omega),aL (by omega),bS (n:=lo-n.Size) (by omega) (by omega),aMK fs n l lo hi hk];by_cases h2:(l.getD k default).Time<=lo-n.Size
  ·rw[aB (bI h2),aF (by unfold inW; grind)];simp
  ·rw[aF (bJ h2)];simp only[aH];by_cases h3:(l.getD k default).Time>hi
   ·rw[aB (bI h3),aF (by unfold inW; simp_all)];simp
   ·rw[aF (bJ h3),aB (by unfold inW; simp_all)];have w1:=bE (bd:=fun s=>(pW l lo hi fs n c m (k:Int) s).den) (fun i=>(plF fs n (l.take k) lo hi,qF fs n (l.getD k default) i,(i:Int))) n.Seq.length (r:=.inl (plF fs n (l.take k) lo hi,qF fs n (l.getD k default) n.Seq.length)) (fun i hi'=>?_) ?_
    ·have w2:=bE (bd:=fun s=>(qL l (k:Int) (qF fs n (l.getD k default) n.Seq.length) s).den) (fun i=>(plF fs n (l.take k) lo hi++List.replicate i ⟨(l.getD k default).Time,qF fs n (l.getD k default) n.Seq.length⟩,(i:Int))) (l.getD k default).N.toNat (r:=.inl (plF fs n (l.take k) lo hi++plD fs n (l.getD k default))) (fun i hi'=>?_) ?_
     ·have e1:cK (fun s=>(pW l lo hi fs n c m (k:Int) s).den) (plF fs n (l.take k) lo hi,0,0)=some (.inl (plF fs n (l.take k) lo hi,qF fs n (l.getD k default) n.Seq.length)):=w1;have e2:cK (fun s=>(qL l (k:Int) (qF fs n (l.getD k default) n.Seq.length) s).den) (plF fs n (l.take k) lo hi,0)=some (.inl (plF fs n (l.take k) lo hi++plD fs n (l.getD k default))):=by simp_all
      rw[e1];simp only[aH,sel];rw[e2];rfl
     ·unfold qL;simp only[Tr.den,aS];rw[aB (bI (by omega)),aB (by grind),aL (by omega),List.replicate_succ',cT]
     ·unfold qL;simp only[Tr.den,aS];rw[aF (bJ (by omega))]; rfl
    ·unfold pW;simp only[Tr.den,aS];rw[aB (bI (by omega)),aB (by omega),hev.get hm hi',aL (by omega)];simp only[aH]
     conv=>rhs; rw[qF]
     grind
    ·unfold pW;simp only[Tr.den,aS];rw[aF (bJ (by omega))]
 ·unfold uK;simp only[Tr.den];rw[aF (bJ (by omega)),fW]
theorem eH.bnd(h:eH e):vX e:=by
 induction h with
 | mk0 ha hb hs hn hl ih=>exact .mk hs hn (fun i hi=>ih _ (aT hi))
theorem Dt{n:Nat}(h:okL n fJ fs):fs.length<=1048576/\∀ i,i<fs.length->vX (fs.getD i default).Body/\(fs.getD i default).Params.length<=1048576:=
 ⟨h.1,fun i hi=>by have h1:=h.2 _ (aT hi);exact⟨h1.2.2.2.bnd,h1.2.1.1⟩⟩
theorem aXJ{n:Nat}(hf:okL n fJ fs)(h:G82 fs=some true){cs:List Int}(he:eH e){t:Int}(ht:De fs cs [] e=some (t,true))
  (tm:Int){row:List aE}(hr:row.length=cs.length)(hs:∀ v,v∈row->Sm v):Sp (sQ fs e tm row) Sm:=by
 obtain⟨hl,hb⟩:=Dt hf;obtain⟨k,hk⟩:=Kt hl hb h he.bnd ht;unfold sQ aOJ;simp only[Tr.den];exact Sq.bind _ (aCM fs cs.length 0 k _ e ⟨rfl,hr,rfl,hs,fun v hv=>by cases hv⟩ hk) fun v hv=>aA.2 hv
def frF(n:aG)(ps:List aX):List Int:=xR aX.time_ (nxF n) (kG n) n.Size (jC n 1) 0 ps (List.replicate ps.length (-1))
noncomputable def pM (fs:List aI)(n:aG)(l:List aC)(lo hi:Int):List aC:=
 if plF fs n l lo hi=[] then [] else nW aX.time_ (mI n (l.getD 0 default).Row) lo (plF fs n l lo hi) 0 (frF n (plF fs n l lo hi))
theorem Di(n:aG)(ps:List aX):(frF n ps).length=ps.length:=by unfold frF; rw[Tf,wF]
theorem bBE{ps:List aX}{x:Int}(h:x∈frF n ps):x<0\/(0<=x/\x<ps.length):=by
 rcases Tn _ _ _ _ _ _ _ _ _ h with h | h
 all_goals simp_all
def aIV(ps:List aX):Prop:=∀ p,p∈ps->0<=p.time_/\p.time_<=2199023255552
theorem aIV.get{ps:List aX}(h:aIV ps)(hk:k<ps.length):0<=(ps.getD k default).time_/\(ps.getD k default).time_<=2199023255552:=h _ (aT hk)
theorem aMI(h:sW l):aIV (plF fs n l lo hi):=by intro p hp;obtain⟨d,hd,hp⟩:=lT.1 hp;have:=(List.mem_replicate.1 hp).2;rw[this];exact h d (iB.1 hd).1
theorem aJY[Inhabited α](tm:α->Int)(nx:Int->α->Int)(hit:Int->Bool)(sz bg i:Int)(fs:List Int):xR tm nx hit sz bg i [] fs=fs:=by rfl
theorem aQD(l:List aC)(lo:Int)(fs:List aI)(n:aG)(c:Int)(m:LP)(ps:List aX)(bg:Int)(k:Nat)(fr:List Int)(hn:n.Seq.length<=1000)(hps:aIV ps)(hl:ps.length<=1000000000000)(hk:k<ps.length)(hf:fr.length=ps.length):
  Sp (cK (fun s=>(Bh l lo fs n c m ps (bg,rU n n.Seq.length) (k:Int) s).den) (fr,bg,(k:Int))) (fun z=>z = .inl (Vc aX.time_ (nxF n) (kG n) n.Size bg ps fr k)):=by
 refine Sq.while (fun s=>∃ j:Nat,s.2.2=(j:Int)/\k<=j/\j<=ps.length/\s.1.length=ps.length/\s.1.take j++nR aX.time_ (nxF n) (kG n) n.Size (ps.getD k default).time_ (k:Int) s.2.1 (ps.drop j) (s.1.drop j)=Vc aX.time_ (nxF n) (kG n) n.Size bg ps fr k)
  (fun s=>ps.length-s.2.2.toNat) (fun s hs=>?_) ⟨k,rfl,dL _,by omega,hf,rfl⟩
 obtain⟨v7,v8,v9⟩:=s;obtain⟨j,e,hkj,hj,hlen,hT⟩:=hs;simp only at e hlen hT;subst e;unfold Bh;simp only[Tr.den,aS];by_cases hc:j<ps.length
 ·have tk:=hps.get hk;have tj:=hps.get hc;have ew:=bS (n:=(ps.getD j default).time_-(ps.getD k default).time_) (by omega) (by omega);rw[aB (bI (by omega)),aB (by omega)];by_cases h1:(ps.getD j default).time_-(ps.getD k default).time_<n.Size
  ·rw[aB (bI (by omega))];simp only[aH];by_cases h2:v8=0
   ·rw[aF (Bi h2)];refine aA.2 ?_;simp only[sel];rw[Vv aX.time_ (nxF n) (kG n) n.Size hc hlen hT (fun h=>h.2 h2)]
   ·rw[aB (Iv h2),aB (by omega),aIZ v8 _ fs n c m hn];simp only[aH];have hstep:=aPT aX.time_ (nxF n) (kG n) n.Size hc hlen hT ⟨h1,h2⟩;simp only at hstep;have fin:∀ fr',fr'=(if kG n (nxF n v8 (ps.getD j default))=true/\v7.getD j default<0 then v7.set j (k:Int) else v7)->fr'.length=ps.length ->
      ∃ q:Nat,IntKind.i64.wrap ((j:Int)+1)=(q:Int)/\k<=q/\q<=ps.length/\fr'.length=ps.length/\fr'.take q++nR aX.time_ (nxF n) (kG n) n.Size (ps.getD k default).time_ (k:Int) (nxF n v8 (ps.getD j default)) (ps.drop q) (fr'.drop q)=Vc aX.time_ (nxF n) (kG n) n.Size bg ps fr k:=by
     rintro fr' rfl hl';exact⟨j+1,aL (by omega),by omega,by omega,hl',hstep⟩
    have dec:ps.length-(IntKind.i64.wrap ((j:Int)+1)).toNat<ps.length-(j:Int).toNat:=by rw[aL (by omega)]; omega
    by_cases h3:kG n (nxF n v8 (ps.getD j default))=true
    ·rw[aB (show (lG .i64 (nxF n v8 (ps.getD j default)) (lF .i64 1 (n.Seq.length:Int)) != 0)=true from h3),aB (by omega),aB (by omega)];simp only[aH];by_cases h4:v7.getD j default<0
     ·rw[aB (bI h4),aB (by omega),aB (by omega)];refine Sq.bind (fun z=>z=v7.set j (k:Int)) (tR (by simp_all) (aA.2 rfl)) (fun z hz=>?_);subst hz;exact aA.2 ⟨fin _ (by rw[aB ⟨h3,h4⟩]) (by simp_all),dec⟩
     ·rw[aF (bJ h4)];exact aA.2 ⟨fin _ (by rw[aF (fun h=>h4 h.2)]) hlen,dec⟩
    ·rw[aF (show ¬ (lG .i64 (nxF n v8 (ps.getD j default)) (lF .i64 1 (n.Seq.length:Int)) != 0)=true from h3)];simp only[aH,cM,cI];exact aA.2 ⟨fin _ (by rw[aF (fun h=>h3 h.1)]) hlen,dec⟩
  ·rw[aF (bJ (by omega))];simp only[aH,cM,cI];refine aA.2 ?_;simp only[sel];rw[Vv aX.time_ (nxF n) (kG n) n.Size hc hlen hT (fun h=>h1 h.1)]
 ·rw[aF (bJ (by omega))];simp only[aH,cM,cI];refine aA.2 ?_;simp only[sel];rw[aXI aX.time_ (nxF n) (kG n) n.Size (by omega) hlen hT]
theorem aLM(l:List aC)(lo:Int)(fs:List aI)(n:aG)(c:Int)(m:LP)(ps:List aX)(hn:n.Seq.length<=1000)(hps:aIV ps)(hl:ps.length<=1000000000000):
  Sp (cK (fun s=>(Aw l lo fs n c m ps (jC n 1,rU n n.Seq.length) s).den) (List.replicate ps.length (-1),0)) (fun z=>z = .inl (frF n ps)):=by
 refine jN (fun s:List Int×Int=>s.2) ps.length (by omega) (fun s=>s.1.length=ps.length/\s.1.take s.2.toNat++xR aX.time_ (nxF n) (kG n) n.Size (jC n 1) s.2 (ps.drop s.2.toNat) (s.1.drop s.2.toNat)=frF n ps) (fun s k hI hk hkN=>?_) ⟨wF,rfl⟩ rfl;obtain⟨v4,v5⟩:=s;obtain⟨h1,h2⟩:=hI;simp only at hk h1 h2;subst hk;simp only[aS]at h2;unfold Aw;simp only[Tr.den];by_cases hc:k<ps.length
 ·rw[aB (bI (by omega)),aB (by omega)];refine Sq.bind _ (Sq.of (aQD l lo fs n c m ps (jC n 1) k v4 hn hps hl hc h1)) (fun z hz=>?_);subst hz;simp only[sel];refine aA.2 ⟨rfl,hc,?_,?_⟩
  ·rw[aMN]; exact h1
  ·have:=aJG aX.time_ (nxF n) (kG n) n.Size hc h1 h2;simp only;rw[aL (by omega),aS];exact this
 ·rw[aF (bJ (by omega))];refine aA.2 ?_;simp only[sel];rw[gY (show ps.length<=k by omega)]at h2;have e:v4.drop k=[]:=gY (by omega);rw[e,aJY,eN,fT (by omega)]at h2;rw[h2]
theorem xQ[Inhabited α](tm:α->Int)(key:List aE)(low:Int)(ps:List α)(j:Nat)(i:Int)(fr:List Int):nW tm key low ps j (i::fr)=(if 0<=i/\low<=tm (ps.getD j default) then [⟨tm (ps.getD j default),key++[vI (tm (ps.getD i.toNat default)),vI ((j:Int)-i+1)],1⟩] else [])++nW tm key low ps (j+1) fr:=rfl
theorem Am[Inhabited α](tm:α->Int)(key:List aE)(low:Int)(ps:List α)(j:Nat):nW tm key low ps j []=[]:=rfl
theorem aXS(lo:Int)(fs:List aI)(n:aG)(c:Int)(m:LP)(ps:List aX)(fr:List Int)(key:List aE)(hps:aIV ps)(hl:ps.length<=1000000000)(hf:fr.length=ps.length)(hfr:∀ x,x∈fr->x<0\/(0<=x/\x<ps.length))(hk:key.length<=1000):
  Sp (cK (fun s=>(Ak lo fs n c m ps fr key s).den) (([]:List aC),fr,0)) (fun z=>z = .inl (nW aX.time_ key lo ps 0 fr)):=by
 refine jN (fun s:List aC×List Int×Int=>s.2.2) ps.length (by omega) (fun s=>s.2.1=fr/\s.1.length<=s.2.2.toNat/\s.1++nW aX.time_ key lo ps s.2.2.toNat (fr.drop s.2.2.toNat)=nW aX.time_ key lo ps 0 fr) (fun s k hI hkk hkN=>?_) ⟨rfl,dL _,rfl⟩ rfl;obtain⟨v18,v19,v20⟩:=s;obtain⟨h1,h2,h3⟩:=hI;simp only at hkk h1 h2 h3;subst hkk h1;simp only[aS]at h2 h3;unfold Ak;simp only[Tr.den,aS];by_cases hc:k<ps.length
 ·have hcf:k<v19.length:=by omega
  have hx:=hfr _ (aT hcf);rw[cP hcf,xQ]at h3;rw[aB (bI (by omega)),aB (by omega),aB hcf];by_cases h4:v19.getD k default>=0
  ·have hx':0<=v19.getD k default/\v19.getD k default<ps.length:=hx.resolve_left (by omega);rw[aB (bI h4),aB (by omega)];simp only[aH];by_cases h5:(ps.getD k default).time_>=lo
   ·rw[aB ⟨h4,h5⟩]at h3;rw[aB (bI h5),aB (by omega),Ts key (by omega)];simp only[aH];rw[aB hx',aEE,aEE];simp only[aH];rw[aB (by omega),aB (by omega),bS (n:=(k:Int)-v19.getD k default) (by omega) (by omega),bS (n:=(k:Int)-v19.getD k default+1) (by omega) (by omega)];refine aA.2 ⟨rfl,hc,rfl,?_,?_⟩
    ·simp only; rw[aL (by omega),aS,cE]; simp; omega
    ·simp only; rw[aL (by omega),aS,<-h3,cT]
   ·rw[aF (fun h=>h5 h.2)]at h3;rw[aF (bJ h5)];refine aA.2 ⟨rfl,hc,rfl,?_,?_⟩
    ·simp only; rw[aL (by omega),aS]; omega
    ·simp only; rw[aL (by omega),aS,<-h3,kS]
  ·rw[aF (fun h=>h4 h.1)]at h3;rw[aF (bJ h4)];simp only[aH,cM,cI];refine aA.2 ⟨rfl,hc,rfl,?_,?_⟩
   ·simp only; rw[aL (by omega),aS]; omega
   ·simp only; rw[aL (by omega),aS,<-h3,kS]
 ·rw[aF (bJ (by omega))];refine aA.2 ?_;simp only[sel];have e:v19.drop k=[]:=gY (by omega);rw[e,Am,eN]at h3;rw[h3]
structure aWL (fs:List aI)(n:aG)(l:List aC):Prop where
 i:okI n 0 l
 ev:Dh fs n l
 nn:∀ d,d∈l->d.N<=1000
 len:l.length<=1000000
structure lN (n:aG):Prop where
 op:n.Op=8
 seq:1<=n.Seq.length/\n.Seq.length<=8
 size:1<=n.Size/\n.Size<=10000
 key:n.Key.length<=10
theorem Ls(l:List aC)(lo hi:Int)(fs:List aI)(n:aG)(c:Int)(m:LP)(hn:lN n)(h:aWL fs n l)(hlo:0<=lo/\lo<=4398046511104):aAG l lo hi fs n c m=some (pM fs n l lo hi):=by
 have hs:=hn.seq;have hz:=hn.size;have hky:=hn.key;have hll:=h.len;unfold aAG Yg;simp only[Tr.den];rw[aGZ l lo hi fs n c m (by omega) h.ev h.nn h.len hlo (by omega)];have hpl:=Dn (fs:=fs) (n:=n) (lo:=lo) (hi:=hi) h.nn;have hok:=aMI (fs:=fs) (n:=n) (lo:=lo) (hi:=hi) h.i.t;have hne:plF fs n l lo hi≠[]->l≠[]:=by rintro h1 rfl; exact h1 rfl
 unfold pM;generalize plF fs n l lo hi=ps at hpl hok hne;simp only[aH];by_cases h0:ps=[]
 ·rw[aB (by rw[h0]; rfl),aB h0]
 ·have hpos:=gU.2 h0;have hlpos:=gU.2 (hne h0);rw[aF (fun h'=>h0 (yK (by simp_all))),aF h0,aIE fs n c m (by omega)];simp only[aH];rw[aB (by omega),aB ⟨by omega,by omega,rfl⟩];simp only[aH,aS];refine Sp.eq ?_;refine Sq.bind _ (aLM l lo fs n c m ps (by omega) hok (by omega)) (fun z hz=>?_);subst hz;simp only[sel];rw[aB (by omega)];have hm:l.getD 0 default∈l:=aT hlpos;rw[show (Int.toNat 0)=0 from rfl,Mt _ fs n c m (h.i.c _ hm) (by omega)];simp only[aH];refine Sq.bind _ (aXS lo fs n c m ps (frF n ps) (mI n (l.getD 0 default).Row) hok (by omega) (Di n ps) (fun x hx=>bBE hx) (by rw[pY]; omega)) (fun z hz=>?_);subst hz;exact aA.2 rfl
theorem Ke{key:List aE}{low:Int}{ps:List aX}:∀ {j:Nat} {fr:List Int} {d:aC},d∈nW aX.time_ key low ps j fr->d.N=1/\d.Row.length=key.length+2/\∃ i:Nat,d.Time=(ps.getD i default).time_/\j<=i/\i<j+fr.length
 | _,[],d,h=>by rw[Am]at h; simp at h
 | j,i::fr,d,h=>by
  rw[xQ]at h;rcases dC.1 h with h | h
  ·grind
  ·obtain⟨h1,h2,q,h3,h4,h5⟩:=Ke h;grind
theorem Th(h:d∈pM fs n l lo hi)(hl:sW l):d.N=1/\d.Row.length=n.Key.length+2/\0<=d.Time/\d.Time<=2199023255552:=by
 have hok:=aMI (fs:=fs) (n:=n) (lo:=lo) (hi:=hi) hl;unfold pM at h;split at h
 ·simp at h
 ·obtain⟨h1,h2,i,h3,_,h5⟩:=Ke h;rw[Di]at h5;rw[pY]at h2;exact⟨h1,h2,by rw[h3]; exact hok.get (by omega)⟩
theorem Dr(hn:lN n)(hl:sW l):okD (pM fs n l lo hi):=by
 have:=hn.key;refine⟨fun d hd=>?_,fun d hd=>?_⟩
 ·have:=(Th hd hl).2.1;unfold okR; omega
 ·rw[(Th hd hl).1]; exact⟨by decide,by decide⟩
theorem zU(h:∀ d,d∈l->d.N<=1000):(pM fs n l lo hi).length<=l.length*1000:=by
 have h1:=Dn (fs:=fs) (n:=n) (lo:=lo) (hi:=hi) h;unfold pM;split
 ·simp
 ·have:=Mn aX.time_ (mI n (l.getD 0 default).Row) lo (plF fs n l lo hi) 0 (frF n (plF fs n l lo hi));rw[Di]at this;omega
def bKE(n:aG)(l:List aC):Prop:=∀ d e,d∈l->e∈l->mI n d.Row=mI n e.Row
theorem aBU(n:aG)(k:ByteArray)(l:List aC):bKE n (ofK n 0 k l):=fun d e hd he=>by have h1:=(eK.1 hd).2;have h2:=(eK.1 he).2;exact Gh (h1.trans h2.symm)
theorem Ve{t:Int}(h1:bKE n l)(ht:t<=lo-n.Size):pM fs n (l.filter (aft t)) lo hi=pM fs n l lo hi:=by
 have e:plF fs n (l.filter (aft t)) lo hi=plF fs n l lo hi:=by
  unfold plF;rw[rE]
  congr 2
  funext d;unfold inW aft;rw[Ud];simp only[dH,kW];constructor <;> intro h <;> omega
 unfold pM;rw[e];split
 ·rfl
 ·rename_i hne;have hf:l.filter (aft t)≠[]:=by intro h0;rw[<-e,h0]at hne;exact hne rfl
  have hl:l≠[]:=by grind
  have m1:(l.filter (aft t)).getD 0 default∈l:=(iB.1 (aT (gU.2 hf))).1;rw[h1 _ _ m1 (aT (gU.2 hl))]
def loP(part:List aC):Int:=(part.getD 0 default).Time
def hiP(n:aG)(part:List aC):Int:=(part.getD (part.length-1) default).Time+n.Size-1
noncomputable def wB (fs:List aI)(n:aG)(before part:List aC):List aC:=
 cons (pM fs n (cons (before++part)) (loP part) (hiP n part)++(pM fs n before (loP part) (hiP n part)).map neg)
theorem Qb(hn:lN n){before part:List aC}(hb:sW before)(hp:sW part):okD (wB fs n before part):=by
 have hc:sW (cons (before++part)):=fun d hd=>by obtain⟨z,hz,e⟩:=jD hd;have:d.Time=z.Time:=congrArg Prod.fst e;rw[this];exact(dC.1 hz).elim (hb z) (hp z)
 exact((Dr hn hc).app (aLW (Dr hn hb))).cons
theorem Uc{before part:List aC}(hb:∀ d,d∈before->d.N<=1000)(ha:∀ d,d∈cons (before++part)->d.N<=1000):(wB fs n before part).length<=(before.length+(before.length+part.length))*1000:=by have h1:=fG (pM fs n (cons (before++part)) (loP part) (hiP n part)++(pM fs n before (loP part) (hiP n part)).map neg);rw[cE,mS]at h1;have h2:=zU (fs:=fs) (n:=n) (lo:=loP part) (hi:=hiP n part) ha;have h3:=zU (fs:=fs) (n:=n) (lo:=loP part) (hi:=hiP n part) hb;have h4:=fG (before++part);rw[cE]at h4;unfold wB;omega
noncomputable def sI (fs:List aI)(n:aG)(r:List aC)(m:KP)(k:ByteArray):List aC:=wB fs n (dV m k) (ofK n 0 k r)
theorem aIQ(i:Int)(l:List aC)(fs:List aI)(n:aG)(c:Int)(m:KP)(hn:lN n)(hl:okI n 0 l)(hlen:l.length<=1000)(hm:MP m)(hB:∀ k,aWL fs n (dV m k))(hA:∀ k,aWL fs n (cons (dV m k++ofK n 0 k (cons l))))(hbl:∀ k,(dV m k).length<=1000):
  Ap i l fs n c m=some (cons ((cU (dM n 0 (cons l))).flatMap (sI fs n (cons l) m)),mP n (cons l) m):=by
 unfold Ap;refine Det.eq ?_;unfold Xo;simp only[Tr.wpT];have hkI:=hl.cons;have hkC:=eO hl.n;have hcl:=fG l;refine⟨_,sV l hl.okD.r hl.n (by omega),_,Kv (cons l) fs n c m hkI (by have:=hn.key; omega) (by omega),?_⟩;generalize cons l=r at hcl hkI hkC hA;have hg:=qH n 0 r;have hgl:=Ga n 0 r;have hsz:=hn.size;have hbig:∀ k,(sI fs n r m k).length<=3000000:=fun k=>by have h1:=Uc (fs:=fs) (n:=n) (before:=dV m k) (part:=ofK n 0 k r) (hB k).nn (hA k).nn;have h2:=hbl k;have h3:=uM n 0 k r;unfold sI; omega
 have hokO:∀ k,okD (sI fs n r m k):=fun k=>Qb hn (hB k).i.t (oJ hkI).t;refine Yx (fun s:List ByteArray×KP×KP×List aC=>s.2.1=dM n 0 r/\Ix (fun k=>cons (dV m k++ofK n 0 k r)) (cU (dM n 0 r)) m s.1 s.2.2.1/\∃ done:List ByteArray,(done++s.1).Perm (cU (dM n 0 r))/\s.2.2.2=done.flatMap (sI fs n r m)) (fun s=>s.1.length) (fun s hs=>?_)
  (s:=(cU (dM n 0 r),dM n 0 r,m,[])) ⟨rfl,.start (hg.nodup LO.bytes) hm,[],by simp,rfl⟩
 obtain⟨rem,g,m',out⟩:=s;obtain⟨e1,hW,done,h5,h6⟩:=hs;simp only at e1 hW h5 h6;subst e1 h6;have hdl:done.length+rem.length<=1000:=by have:=h5.length_eq;rw[cE,cU,mS]at this;omega
 have hdone:(done.flatMap (sI fs n r m)).length<=1000*3000000:=
  gQ (yJ hbig done) (xN (show done.length<=1000 by omega) (dL _))
 unfold Mo;simp only[Tr.wpT];refine⟨fun hr=>?_,fun k p hk hc=>?_,fun hr=>?_⟩
 ·subst hr;simp only[sel];rw[eN]at h5;have hp:(done.flatMap (sI fs n r m)).Perm ((cU (dM n 0 r)).flatMap (sI fs n r m)):=qO _ h5;have hokd:okD (done.flatMap (sI fs n r m)):=⟨fun x hx=>by
   obtain⟨a,ha,hx⟩:=lT.1 hx;exact(hokO a).r x hx,fun x hx=>by
   obtain⟨a,ha,hx⟩:=lT.1 hx;exact(hokO a).n x hx⟩
  refine⟨_,sV _ hokd.r hokd.n (by omega),?_⟩;rw[zI hp hokd.n,hW.fin hm];rfl
 ·have hlook:=mE n 0 k r;rw[hc]at hlook;have hne:ofK n 0 k r≠[]:=by simp_all
  rw[aF hne]at hlook;cases hlook;have hv:dV m' k=dV m k:=hW.old k (.inr hk);have ob:=hB k;have oa:=hA k;have okp:okI n 0 (ofK n 0 k r):=oJ hkI;have hpl:=uM n 0 k r;have hpos:=gU.2 hne;have hbk:=hbl k;have hb:=hbig k;have hp:=sN hk;have t0:=okp.t _ (aT hpos);have t1:=okp.t _ (aT (show (ofK n 0 k r).length-1<(ofK n 0 k r).length by omega));have ew:IntKind.i64.wrap (((ofK n 0 k r).length:Int)-1)=(((ofK n 0 k r).length-1:Nat):Int):=by rw[bS (by omega) (by omega)]; omega
  have eh:IntKind.i64.wrap (IntKind.i64.wrap (((ofK n 0 k r).getD (IntKind.i64.wrap (((ofK n 0 k r).length:Int)-1)).toNat default).Time+n.Size)-1)=hiP n (ofK n 0 k r):=by rw[ew,aS,bS (n:=_+n.Size) (by omega) (by omega),bS (by omega) (by omega)]; rfl
  have hlo:0<=loP (ofK n 0 k r)/\loP (ofK n 0 k r)<=4398046511104:=⟨t0.1,by unfold loP; omega⟩;have e12:=bCB (dV m k) (ofK n 0 k r) ob.i.okD okp.okD (by omega);have eA:=Ls (cons (dV m k++ofK n 0 k r)) (loP (ofK n 0 k r)) (hiP n (ofK n 0 k r)) fs n c m' hn oa hlo;have eB:=Ls (dV m k) (loP (ofK n 0 k r)) (hiP n (ofK n 0 k r)) fs n c m' hn ob hlo;have l1:=zU (fs:=fs) (n:=n) (lo:=loP (ofK n 0 k r)) (hi:=hiP n (ofK n 0 k r)) oa.nn;have l2:=zU (fs:=fs) (n:=n) (lo:=loP (ofK n 0 k r)) (hi:=hiP n (ofK n 0 k r)) ob.nn;have l3:=fG (dV m k++ofK n 0 k r);rw[cE]at l3;have e129:=aYF _ _ (Dr (fs:=fs) (n:=n) (lo:=loP (ofK n 0 k r)) (hi:=hiP n (ofK n 0 k r)) hn oa.i.t) (Dr (fs:=fs) (n:=n) (lo:=loP (ofK n 0 k r)) (hi:=hiP n (ofK n 0 k r)) hn ob.i.t) (by omega);have e339:=aII k (cons (dV m k++ofK n 0 k r)) fs n c m';have fin:(mput (dM n 0 r) k (ofK n 0 k r)=dM n 0 r/\Ix (fun k=>cons (dV m k++ofK n 0 k r)) (cU (dM n 0 r)) m (jL rem k) (Ay m' k (cons (dV m k++ofK n 0 k r))) /\
    ∃ done':List ByteArray,(done'++jL rem k).Perm (cU (dM n 0 r))/\done.flatMap (sI fs n r m)++sI fs n r m k=done'.flatMap (sI fs n r m))/\(jL rem k).length<rem.length:=
   ⟨⟨Ba LO.bytes hg hc,hW.step hk,done++[k],by refine List.Perm.trans ?_ h5;rw[cT];exact oP _ hp.symm,by simp⟩,xB hk⟩
  rw[eh];have g0:(0<=(0:Int)/\(0:Int)<((ofK n 0 k r).length:Int)):=⟨by omega,by omega⟩;have g1:(0<=IntKind.i64.wrap (((ofK n 0 k r).length:Int)-1)/\IntKind.i64.wrap (((ofK n 0 k r).length:Int)-1)<((ofK n 0 k r).length:Int)):=by omega
  cases hlk:cB m' k with
  | none=>
   have hz:dV m k=[]:=by rw[<-hv]; unfold dV; rw[hlk]; rfl
   simp only;rw[<-hz];exact⟨_,e12,g0,g1,_,eA,_,eB,_,e129,by show ((done.flatMap (sI fs n r m)).length+(sI fs n r m k).length)*40<=140737488355328; omega,_,e339,fin⟩
  | some c1=>
   have hz:dV m k=c1:=by rw[<-hv]; unfold dV; rw[hlk]; rfl
   simp only;rw[<-hz];exact⟨_,e12,g0,g1,_,eA,_,eB,_,e129,by show ((done.flatMap (sI fs n r m)).length+(sI fs n r m k).length)*40<=140737488355328; omega,_,e339,fin⟩
 ·obtain⟨k,rest,rfl⟩:=Fb hr;obtain⟨s,hs⟩:=nF.1 (hW.sub k dB);simp_all
theorem bLF:G38 8=some 8:=by rfl
theorem Mz(hn:lN n):G10 n=some (n.Size-1,0):=by
 have hz:=hn.size;unfold G10 T10 G37 T37;simp only[Tr.den];rw[hn.op,bLF];have e:bIM n=some true:=by unfold bIM bCS G96 T96;simp only[Tr.den,bCM,aH];rw[aB (bI hz)];rw[bI (by have:=hn.seq; omega)]; rfl
 have e2:bDL n=some (n.Size-1,0):=by unfold bDL bIJ;simp only[Tr.den];rw[bS (by omega) (by omega)]
 simp only[aH,Nat.reduceLT,fZ,Tr.den,e,e2,kU,cM,cI]
theorem uJ(fs:List aI)(n:aG):aKW fs n=some (fs,n,-1,[]):=rfl
theorem Zb(a:Int)(fs:List aI)(n:aG)(c:Int)(m:KP)(h:a<=c):Ab a fs n c m=some (m,c):=by unfold Ab;refine Det.eq ?_;unfold Ri;simp only[Tr.wpT];simp_all
theorem Ki(a:Int)(fs:List aI)(n:aG)(c:Int)(m:KP)(hn:lN n)(hm:MP m)(hok:∀ k,okD (dV m k)/\Can (dV m k)/\(dV m k).length<=1000000)(h:c<a)(h0:0<=a)(h1:a<=2199023255552):
  Ab a fs n c m=some (Fs (a-(n.Size-1)) m,a):=by
 have hz:=hn.size;unfold Ab;refine Det.eq ?_;unfold Ri;simp only[Tr.wpT];rw[aF (bJ (by omega))];refine⟨_,Mz hn,?_⟩;have wt:IntKind.i64.wrap (a-(n.Size-1))=a-(n.Size-1):=bS (by omega) (by omega);refine Yx (fun s:List ByteArray×KP=>Ix (fun k=>(dV m k).filter (aft (a-(n.Size-1)))) (cU m) m s.1 s.2) (fun s=>s.1.length) (fun s hs=>?_)
  (s:=(cU m,m)) (.start (hm.mc.nodup LO.bytes) hm)
 obtain⟨rem,m'⟩:=s;simp only at hs;unfold Jv;simp only[Tr.wpT];refine⟨fun hr=>?_,fun k s hk hc=>?_,fun hr=>?_⟩
 ·subst hr;simp only[sel];rw[hs.fin hm]; rfl
 ·have hv:=hs.old k (.inr hk);have e:dV m' k=s:=by unfold dV; rw[hc]; rfl
  rw[e]at hv;obtain⟨q1,q2,q3⟩:=hok k;rw[wt,hv];refine⟨_,aSV _ _ q1 q2 (by omega),_,aHY _ _ fs n a _ _,?_⟩;rw[<-hv,<-e,show mput m' k (dV m' k)=m' from Ba LO.bytes hs.mp.mc (by rw[hc,e]),e,hv];exact⟨hs.step hk,xB hk⟩
 ·obtain⟨k,rest,rfl⟩:=Fb hr;have hkm:=hs.sub k dB;obtain⟨s,hs'⟩:=nF.1 hkm;have hv:=hs.old k (.inr dB);have hne:dV m' k≠[]:=by rw[hv]; exact hm.key.1 hkm
  exact⟨k,dV m' k,dB,by rw[hs.mp.look,aF hne]⟩
theorem Jw(fs:List aI)(n:aG)(c:Int)(m:KP)(hm:MP m)(hok:∀ k,okD (dV m k))(hl:(xO m).length<=1000000):Rq fs n c m=some (cons (xO m),m):=by
 unfold Rq;refine Det.eq ?_;unfold Zt;simp only[Tr.wpT];have okA:okD (xO m):=⟨fun x hx=>by
   obtain⟨a,ha,hx⟩:=lT.1 hx;exact(hok a).r x hx,fun x hx=>by
   obtain⟨a,ha,hx⟩:=lT.1 hx;exact(hok a).n x hx⟩
 refine Yx (fun s:List ByteArray×KP×List aC=>s.2.1=m/\s.1.Nodup/\∃ done:List ByteArray,(done++s.1).Perm (cU m)/\s.2.2=done.flatMap (dV m)) (fun s=>s.1.length) (fun s hs=>?_)
  (s:=(cU m,m,[])) ⟨rfl,hm.mc.nodup LO.bytes,[],by simp,rfl⟩
 obtain⟨rem,m',out⟩:=s;obtain⟨e1,hnd,done,h5,h6⟩:=hs;simp only at e1 hnd h5 h6;subst e1 h6;unfold Ml;simp only[Tr.wpT];refine⟨fun hr=>?_,fun k s hk hc=>?_,fun hr=>?_⟩
 ·subst hr;simp only[sel];rw[eN]at h5;have hp:(done.flatMap (dV m')).Perm (xO m'):=qO _ h5;have ho:okD (done.flatMap (dV m')):=okA.sub fun x hx=>hp.mem_iff.1 hx;refine⟨_,sV _ ho.r ho.n (by rw[hp.length_eq]; omega),?_⟩;rw[zI hp ho.n]
 ·have hp:=sN hk;have e:dV m' k=s:=by unfold dV; rw[hc]; rfl
  have hle:(done.flatMap (dV m')).length+s.length<=(xO m').length:=by have h7:((done++k::jL rem k).flatMap (dV m')).Perm (xO m'):=qO _ ((oP _ hp.symm).trans h5);have:=h7.length_eq;grind
  refine⟨by omega,⟨⟨Ba LO.bytes hm.mc hc,zM hnd k,done++[k],?_,?_⟩,xB hk⟩⟩
  ·refine List.Perm.trans ?_ h5;rw[cT];exact oP _ hp.symm
  simp_all
 ·obtain⟨k,rest,rfl⟩:=Fb hr;have hk:k∈cU m':=h5.mem_iff.1 (mQ _ dB);obtain⟨s,hs'⟩:=nF.1 hk;simp_all
theorem aJQ(fs:List aI)(n:aG)(c:Int)(m:KP)(hm:MP m)(hok:∀ k,okD (dV m k))(hl:(xO m).length<=1000000):Ek fs n c m=some (W (wt fC (cons (xO m))),m):=by unfold Ek Xa;simp only[Tr.den];rw[Jw fs n c m hm hok hl];simp only[aH];have:=fG (xO m);rw[bCH _ (by omega)]; rfl
theorem aFV(fs:List aI)(n:aG)(c:Int)(m:KP):Iq fs n c m=some (decide (m=[])):=by
 unfold Iq Se;simp only[Tr.den]
 congr 1
 cases m with
 | nil=>rfl
 | cons p m=>rfl
theorem aYE(row:List aE)(cols:List Int)(hc:Pw cols row)(hl:cols.length<=1000):bCN row cols=some (cols.map fun c=>row.getD c.toNat default):=by
 unfold bCN bCV;simp only[Tr.den];have h1:=bE (bd:=fun s=>(Dw row cols s).den) (fun k=>((cols.take k).map fun c=>row.getD c.toNat default,(k:Int))) cols.length (r:=.inl (cols.map fun c=>row.getD c.toNat default)) (fun k hk=>?_) ?_
 ·refine(congrArg (fun x=>Option.bind x _) h1).trans ?_;rfl
 ·unfold Dw;simp only[Tr.den,aS];have h2:=hc _ (aT hk);rw[aB (bI (by omega)),aB (by omega),aB h2,aB (by simp; omega),aL (by omega),aQ hk,rN];rfl
 ·unfold Dw;simp only[Tr.den];rw[aF (bJ (by omega)),fW]
theorem aZZ(a b:List aE)(ha:a.length<=1073741824)(hb:b.length<=1073741824):bFQ a b=some (Ax a b==0):=by unfold bFQ bHI;simp only[Tr.den];rw[Pz a b ha hb];rfl
structure MI (o X Y T:List aC):Prop where
 can:Can o
 lt:∀ x,x∈o->∀ y,y∈X++Y->dJ x y<0
 same:gP (o++(X++Y)) T
 cx:Can X
 cy:Can Y
theorem Can.snoc(h:Can o)(h1:∀ y,y∈o->dJ y x<0)(h2:x.N≠0)(h3:fF x.N):Can (o++[x]):=by
 refine⟨Bk.2 ⟨h.lt,oT _ _,fun y hy z hz=>?_⟩,fun y hy=>?_,fun y hy=>?_⟩
 ·simp_all
 ·rcases dC.1 hy with hy | hy
  ·exact h.nz y hy
  simp_all
 ·rcases dC.1 hy with hy | hy
  ·exact h.n64 y hy
  simp_all
theorem aLC(h:Can (y::Y))(hx:dJ x y<0):∀ z,z∈y::Y->dJ x z<0:=by
 intro z hz;rcases bH.1 hz with rfl | hz
 ·exact hx
 ·exact rB hx (h.head z hz)
theorem MI.left(h:MI o (x::X) Y T)(hy:∀ z,z∈Y->dJ x z<0):MI (o++[x]) X Y T:=by
 refine⟨h.can.snoc (fun y hy'=>h.lt y hy' x (by simp)) (h.cx.nz x dB) (h.cx.n64 x dB),fun z hz w hw=>?_,?_,h.cx.tail,h.cy⟩
 ·rcases dC.1 hz with hz | hz
  ·exact h.lt z hz w (by rcases dC.1 hw with hw | hw <;> simp[hw])
  ·rw[cR.1 hz];rcases dC.1 hw with hw | hw
   ·exact h.cx.head w hw
   simp_all
 ·have:=h.same;simp_all
theorem MI.right(h:MI o X (y::Y) T)(hx:∀ z,z∈X->dJ y z<0):MI (o++[y]) X Y T:=by
 refine⟨h.can.snoc (fun z hz=>h.lt z hz y (by simp)) (h.cy.nz y dB) (h.cy.n64 y dB),fun z hz w hw=>?_,?_,h.cx,h.cy.tail⟩
 ·rcases dC.1 hz with hz | hz
  ·exact h.lt z hz w (by rcases dC.1 hw with hw | hw <;> simp[hw])
  ·rw[cR.1 hz];rcases dC.1 hw with hw | hw
   ·exact hx w hw
   ·exact h.cy.head w hw
 ·refine gP.trans (.of_perm ?_) h.same;rw[cT];refine oP _ ?_;show (y::(X++Y)).Perm (X++y::Y);exact List.perm_middle.symm
theorem aDE(hp:pl x=pl y)(p:Pl->Bool):W (wt p (o++(x::X++y::Y)))=W (wt p o+(if p (pl y)=true then W (y.N+x.N) else 0)+wt p (X++Y)):=by
 rw[eT,eT,eT];simp only[wt,hp];by_cases h:p (pl y)=true
 ·rw[aB h,aB h,aB h];have:=mG (mG (rfl:W (wt p o)=W (wt p o)) (W_W (y.N+x.N))) (rfl:W (wt p X+wt p Y)=W (wt p X+wt p Y));grind
 simp_all
theorem MI.both(h:MI o (x::X) (y::Y) T)(hp:pl x=pl y)(h0:W (y.N+x.N)≠0):MI (o++[⟨y.Time,y.Row,W (y.N+x.N)⟩]) X Y T:=by
 have e:∀ z:aC,dJ (⟨y.Time,y.Row,W (y.N+x.N)⟩:aC) z=dJ y z:=fun z=>rfl;have e':∀ z:aC,dJ z (⟨y.Time,y.Row,W (y.N+x.N)⟩:aC)=dJ z y:=fun z=>rfl;refine⟨h.can.snoc (fun z hz=>by rw[e']; exact h.lt z hz y (by simp)) h0 (aFZ _),fun z hz w hw=>?_,fun p=>?_,h.cx.tail,h.cy.tail⟩
 ·rcases dC.1 hz with hz | hz
  ·exact h.lt z hz w (by rcases dC.1 hw with hw | hw <;> simp[hw])
  ·rw[cR.1 hz,e];rcases dC.1 hw with hw | hw
   ·rw[<-xM hp rfl]; exact h.cx.head w hw
   ·exact h.cy.head w hw
 ·rw[<-h.same p,aDE hp,eT,eT];simp only[wt,Int.add_zero];rfl
theorem MI.both0(h:MI o (x::X) (y::Y) T)(hp:pl x=pl y)(h0:W (y.N+x.N)=0):MI o X Y T:=by refine⟨h.can,fun z hz w hw=>h.lt z hz w (by rcases dC.1 hw with hw | hw <;> simp[hw]),fun p=>?_,h.cx.tail,h.cy.tail⟩;rw[<-h.same p,aDE hp,eT,h0];simp
theorem Can.drop{l:List aC}(h:Can l)(k:Nat):Can (l.drop k):=⟨h.lt.drop,fun x hx=>h.nz x (tJ hx),fun x hx=>h.n64 x (tJ hx)⟩
theorem aUO(a b:aC)(ha:okR a)(hb:okR b):bCF a b=some (dJ a b):=by unfold bCF bIS;simp only[Tr.den];rw[Pz _ _ ha hb];unfold dJ fU oQ;grind
theorem aRO(a b:List aC)(ha:Can a)(hb:Can b)(oa:gV a)(ob:gV b)(hn:a.length+b.length<=1000000000000):
  Sp (cK (fun s=>(Qy a b s).den) (([]:List aC),0,0)) (sel (fun r=>Can r/\gP r (a++b)) (fun _=>False)):=by
 refine Sq.while (fun s:List aC×Int×Int=>∃ i k:Nat,s.2.1=i/\s.2.2=k/\i<=a.length/\k<=b.length/\MI s.1 (a.drop i) (b.drop k) (a++b)/\s.1.length<=i+k) (fun s=>(a.length-s.2.1).toNat+(b.length-s.2.2).toNat) (fun s hs=>?_)
  ⟨0,0,rfl,rfl,by omega,by omega,⟨.nil,by simp,by simpa using gP.refl _,ha,hb⟩,by simp⟩
 obtain⟨o,i,k⟩:=s;obtain⟨i,k,e1,e2,h1,h2,hM,hlen⟩:=hs;simp only at e1 e2 hM hlen;subst e1 e2;unfold Qy;simp only[Tr.den,aS];have w1:k<b.length->(if IntKind.i64.wrap ((b.length:Int)-1)<(k:Int) then IntKind.i64.wrap ((b.length:Int)-1) else (k:Int))=(k:Int):=by intro hk;rw[bS (by omega) (by omega),aF (by omega)]
 have left:i<a.length->(∀ z,z∈b.drop k->dJ (a.getD i default) z<0)->∀ c:Int,c<0->∀ f:Option (List aC×Int×Int),
   Sp ((if decide (c<0)=true then if 0<=(i:Int)/\(i:Int)<(a.length:Int) then if (o.length+[a.getD i default].length)*40<=140737488355328 then some (o++[a.getD i default],IntKind.i64.wrap ((i:Int)+1),(k:Int)) else none else none else f).bind fun v=>some (Sum.inl (v.1,v.2.1,v.2.2)))
    (sel (fun s':List aC×Int×Int=>(∃ i k:Nat,s'.2.1=i/\s'.2.2=k/\i<=a.length/\k<=b.length/\MI s'.1 (a.drop i) (b.drop k) (a++b)/\s'.1.length<=i+k)/\(a.length-s'.2.1).toNat+(b.length-s'.2.2).toNat<(a.length-(i:Int)).toNat+(b.length-(k:Int)).toNat) (sel (fun r:List aC=>Can r/\gP r (a++b)) (fun _:List aC=>False))):=by
  intro hi hlt c hc f;rw[aB (bI hc),aB (by omega),aB (by grind),aL (by omega)];rw[cP hi]at hM;exact aA.2 ⟨⟨i+1,k,rfl,rfl,by omega,h2,hM.left hlt,by grind⟩,by grind⟩
 have right:k<b.length->(∀ z,z∈a.drop i->dJ (b.getD k default) z<0)->∀ c:Int,0<c->∀ f:Option (List aC×Int×Int),
   Sp ((if decide (c<0)=true then f else
       if 0<=(if IntKind.i64.wrap ((b.length:Int)-1)<(k:Int) then IntKind.i64.wrap ((b.length:Int)-1) else (k:Int))/\(if IntKind.i64.wrap ((b.length:Int)-1)<(k:Int) then IntKind.i64.wrap ((b.length:Int)-1) else (k:Int))<(b.length:Int) then
        (if (c==0)=true then if 0<=(i:Int)/\(i:Int)<(a.length:Int) then some (IntKind.i64.wrap ((b.getD (if IntKind.i64.wrap ((b.length:Int)-1)<(k:Int) then IntKind.i64.wrap ((b.length:Int)-1) else (k:Int)).toNat default).N+(a.getD i default).N),o,IntKind.i64.wrap ((i:Int)+1)) else none
         else some ((b.getD (if IntKind.i64.wrap ((b.length:Int)-1)<(k:Int) then IntKind.i64.wrap ((b.length:Int)-1) else (k:Int)).toNat default).N,o,(i:Int))).bind fun v=>
         (if (v.1 != 0)=true then if (v.2.1.length+[(⟨(b.getD (if IntKind.i64.wrap ((b.length:Int)-1)<(k:Int) then IntKind.i64.wrap ((b.length:Int)-1) else (k:Int)).toNat default).Time,(b.getD (if IntKind.i64.wrap ((b.length:Int)-1)<(k:Int) then IntKind.i64.wrap ((b.length:Int)-1) else (k:Int)).toNat default).Row,v.1⟩:aC)].length)*40<=140737488355328 then
           some (v.2.1++[(⟨(b.getD (if IntKind.i64.wrap ((b.length:Int)-1)<(k:Int) then IntKind.i64.wrap ((b.length:Int)-1) else (k:Int)).toNat default).Time,(b.getD (if IntKind.i64.wrap ((b.length:Int)-1)<(k:Int) then IntKind.i64.wrap ((b.length:Int)-1) else (k:Int)).toNat default).Row,v.1⟩:aC)]) else none
          else some v.2.1).bind fun v_1=>some (v_1,v.2.2,IntKind.i64.wrap ((k:Int)+1))
       else none).bind fun v=>some (Sum.inl (v.1,v.2.1,v.2.2)))
    (sel (fun s':List aC×Int×Int=>(∃ i k:Nat,s'.2.1=i/\s'.2.2=k/\i<=a.length/\k<=b.length/\MI s'.1 (a.drop i) (b.drop k) (a++b)/\s'.1.length<=i+k)/\(a.length-s'.2.1).toNat+(b.length-s'.2.2).toNat<(a.length-(i:Int)).toNat+(b.length-(k:Int)).toNat) (sel (fun r:List aC=>Can r/\gP r (a++b)) (fun _:List aC=>False))):=by
  intro hk hlt c hc f;rw[aF (bJ (by omega)),w1 hk,aB (by omega),aF (kF (by omega))];simp only[aH,aS];rw[cP hk]at hM;rw[aB (Iv (hM.cy.nz _ dB)),aB (by grind),aL (by omega)];simp only[aH];exact aA.2 ⟨⟨i,k+1,rfl,rfl,h1,by omega,hM.right hlt,by grind⟩,by grind⟩
 by_cases hi:i<a.length
 ·rw[aB (bI (show (i:Int)<a.length by omega))];simp only[aH,fZ];rw[aF (bJ (show ¬ (i:Int)>=a.length by omega))];by_cases hk:k<b.length
  ·rw[aF (bJ (show ¬ (k:Int)>=b.length by omega)),aB (by omega),aB (by omega),aUO _ _ (oa.get i) (ob.get k)];simp only[aH];have hX:=cP hi;have hY:=cP hk;have cX:=ha.drop i;have cY:=hb.drop k;by_cases c1:dJ (a.getD i default) (b.getD k default)<0
   ·exact left hi (by rw[hY]at cY ⊢; exact aLC cY c1) _ c1 _
   ·by_cases c2:dJ (a.getD i default) (b.getD k default)=0
    ·have hp:=gZ.1 c2;rw[aF (bJ c1),w1 hk,aB (by omega),aB (wW c2),aB (by omega)];simp only[aH,aS];rw[hX,hY]at hM;by_cases h0:W ((b.getD k default).N+(a.getD i default).N)=0
     ·rw[aF (Bi h0)];simp only[aH];rw[aL (by omega),aL (by omega)];exact aA.2 ⟨⟨i+1,k+1,rfl,rfl,by omega,by omega,hM.both0 hp h0,by grind⟩,by grind⟩
     ·rw[aB (Iv h0),aB (by grind)];simp only[aH];rw[aL (by omega),aL (by omega)];exact aA.2 ⟨⟨i+1,k+1,rfl,rfl,by omega,by omega,hM.both hp h0,by grind⟩,by grind⟩
    ·have c3:0<dJ (a.getD i default) (b.getD k default):=by omega
     exact right hk (by rw[hX]at cX ⊢; exact aLC cX (uT.1 c3)) _ c3 _
  ·rw[aB (bI (show (k:Int)>=b.length by omega))];simp only[aH];exact left hi (by grind) (-1) (by omega) _
 ·rw[aF (bJ (show ¬ (i:Int)<a.length by omega))];simp only[aH];by_cases hk:k<b.length
  ·rw[aB (bI (show (k:Int)<b.length by omega)),aB (bI (show (i:Int)>=a.length by omega))];simp only[aH];exact right hk (by grind) 1 (by omega) _
  ·rw[aF (bJ (show ¬ (k:Int)<b.length by omega))];refine aA.2 ⟨hM.can,?_⟩;have:=hM.same;grind
theorem aFK(l:List aC)(ho:okD l)(hn:l.length<=1000000000000):bJT l=some (PL.cons l):=by
 refine Sp.eq ?_;refine mB (C:=fun (a:List aC) (x:Option (List aC))=>Con Proofs.Tryz.prog 37 [.t (eL aK (a))] x (fun (y:List aC)=>.t (eL aK (y)))) (fun a=>⟨bL Proofs.Tryz.func37 (by rfl),fun _ h=>nomatch h⟩) (fun rec a=>aNV rec a) (fun rec a=>aCI rec a)
  (fun l=>okD l/\l.length<=1000000000000) (fun l=>l.length) (fun l d=>d=PL.cons l) (fun b f l hl hrec=>?_) true l ⟨ho,hn⟩
 obtain⟨ho,hn⟩:=hl;unfold aNV;simp only[Tr.den];by_cases h0:l.length=0
 ·rw[aB (wW (by omega))];simp only[aH,fZ];rw[yK h0];exact aA.2 rfl
 rw[aF (kF (by omega))];by_cases hl1:l.length=1
 ·obtain⟨x,rfl⟩:=Sv.1 hl1;have e1:(([x]:List aC).length:Int)=1:=rfl;have e2:([x]:List aC).getD (0:Int).toNat default=x:=rfl;rw[aB (wW e1),aB (by omega),e2];simp only[aH];have hc:PL.cons [x]=if x.N=0 then [] else [x]:=rfl
  rw[hc];by_cases hz:x.N=0
  ·rw[aB (wW hz),aB hz]; exact aA.2 rfl
  ·have hr:x.Row.length<=1073741824:=ho.r x dB;rw[aF (kF hz),aB (wW e1),aB (by omega),aB (by omega),aB (by omega),aB (by omega),aF hz]; exact aA.2 rfl
 rw[aF (kF (by omega))];simp only[aH,cM,cI];have w1:IntKind.i64.wrap (Int.tdiv (l.length:Int) 2)=((l.length / 2:Nat):Int):=by rw[show Int.tdiv (l.length:Int) 2=((l.length / 2:Nat):Int) from rfl];rw[qM (by omega)]
 rw[aF (kF (by omega)),w1];have e1:(l.drop (0:Int).toNat).take (((l.length / 2:Nat):Int)-0).toNat=l.take (l.length / 2):=by rw[Jt,xL,Int.sub_zero,aS]
 have e2:(l.drop ((l.length / 2:Nat):Int).toNat).take ((l.length:Int)-((l.length / 2:Nat):Int)).toNat=l.drop (l.length / 2):=by rw[aS]; exact fT (by grind)
 have o1:okD (l.take (l.length / 2)):=ho.sub fun x hx=>xG hx;have o2:okD (l.drop (l.length / 2)):=ho.sub fun x hx=>tJ hx;rw[aB (by omega),e1];refine Sq.bind _ (hrec _ ⟨o1,by simp; omega⟩ (by simp; omega)) (fun r1 h1=>?_);rw[aB (by omega),e2];refine Sq.bind _ (hrec _ ⟨o2,by simp; omega⟩ (by simp; omega)) (fun r2 h2'=>?_);subst h1 h2';have l1:=fG (l.take (l.length / 2));have l2:=fG (l.drop (l.length / 2));simp only[gO,nV]at l1 l2;obtain⟨z,hz1,hz2⟩:=(aRO _ _ (eO o1.n) (eO o2.n) o1.cons.r o2.cons.r (by omega)).get;rw[hz1];cases z with
 | inr z=>exact hz2.elim
 | inl z=>refine aA.2 (oI hz2.1 ho.n ?_).symm;refine hz2.2.trans (((eY _).app (eY _)).trans ?_);rw[gG];exact gP.refl _
theorem aDZ(fs:List aI)(e:bB)(hl:okL 104 fJ fs)(h:eH e):Sp (G81 fs e) (fun _=>True):=by
 have hl1:=hl.1;unfold G81 T81;simp only[Tr.den,cD];refine cG (fun s:List Int×Int=>s.2) fs.length (by omega) (fun s=>s.1.length=s.2.toNat) (fun s k hI hk hkN=>?_) rfl rfl;obtain⟨v1,v2⟩:=s;simp only at hk hI;subst hk;simp only[aS]at hI;unfold aMG;simp only[Tr.den,aS];by_cases hc:k<fs.length
 ·rw[aB (bI (by omega)),aB (by omega)];refine Sq.bind _ (Sq.of (aCQ v1 _ (by omega) (hl.2 _ (aT hc)).2.2.2)) fun r _=>?_;rw[aB (by grind)];refine aA.2 ⟨rfl,hc,?_⟩;simp only;rw[aL (by omega)]; simp; omega
 ·rw[aF (bJ (by omega))];refine aA.2 ?_;simp only[sel,cD];exact(Sq.of (aCQ v1 e (by omega) h)).imp fun _ _=>aA.2 trivial
theorem aVP(fs:List aI)(n:aG)(hl:okL 104 fJ fs)(h:iR n):Sp (G33 fs n) (fun r=>r=true->n.Key.length<=20/\n.Seq.length<=8):=by
 obtain⟨_,_,_,_,hE,_,_,_,_,_,_,_,_,_,hS,_⟩:=h;have hE1:=hE.1;have hS1:=hS.1;have hl1:=hl.1;unfold G33 T33;simp only[Tr.den,cD];refine cG (fun s:Int=>s) fs.length (by omega) (fun _=>True) (fun s k _ hk hkN=>?_) trivial rfl;subst hk;unfold aPV;simp only[Tr.den,aS,oF,aH];by_cases hc:((k:Int)<(fs.length:Int))/\(k:Int)<6
 ·rw[aB (bI hc),aB (by omega)];refine Sq.bind _ (Zk _ (hl.2 _ (aT (show k<fs.length by omega))).2.2.2) fun r _=>?_;refine Sq.bind (fun _=>True) ?_ (fun j _=>?_)
  ·by_cases h1:r>100
   ·rw[aB (bI h1)]; exact aA.2 trivial
   ·rw[aF (bJ h1),aB (by omega)]; exact aA.2 trivial
  ·cases j with
   | true=>exact aA.2 (aA.2 fun h=>by cases h)
   | false=>exact aA.2 ⟨rfl,by omega,trivial⟩
 ·rw[aF (bJ hc)];refine aA.2 ?_;simp only[sel,cD];refine cG (fun s:Int=>s) n.Exprs.length (by omega) (fun _=>True) (fun s k _ hk hkN=>?_) trivial rfl;subst hk;unfold aNS;simp only[Tr.den,aS,oF,aH];by_cases hc:((k:Int)<(n.Exprs.length:Int))/\(k:Int)<13
  ·rw[aB (bI hc),aB (by omega)];have he:=okEs.get hE (show k<n.Exprs.length by omega);refine Sq.bind _ (Sq.of (Zk _ he)) fun r _=>?_;refine Sq.bind (fun _=>True) ?_ (fun j _=>?_)
   ·by_cases h1:r>200
    ·rw[aB (bI h1)]; exact aA.2 trivial
    ·rw[aF (bJ h1),aB (by omega)];refine Sq.bind _ (Sq.of (aQN _ he)) fun r _=>?_;by_cases h2:r>12
     ·rw[aB (bI h2)]; exact aA.2 trivial
     ·rw[aF (bJ h2),aB (by omega)];refine Sq.bind _ (Sq.of (aDZ fs _ hl he)) fun r _=>aA.2 trivial
   ·cases j with
    | true=>exact aA.2 (aA.2 fun h=>by cases h)
    | false=>exact aA.2 ⟨rfl,by omega,trivial⟩
  ·rw[aF (bJ hc)];refine aA.2 ?_;simp only[sel,cD];refine cG (fun s:Int=>s) n.Seq.length (by omega) (fun _=>True) (fun s k _ hk hkN=>?_) trivial rfl;subst hk;unfold aRG;simp only[Tr.den,aS,oF,aH];by_cases hc:((k:Int)<(n.Seq.length:Int))/\(k:Int)<9
   ·rw[aB (bI hc),aB (by omega)];have he:=(hS.2 _ (aT (show k<n.Seq.length by omega))).1;refine Sq.bind _ (Sq.of (Zk _ he)) fun r _=>?_;refine Sq.bind (fun _=>True) ?_ (fun j _=>?_)
    ·by_cases h1:r>200
     ·rw[aB (bI h1)]; exact aA.2 trivial
     ·rw[aF (bJ h1),aB (by omega)];refine Sq.bind _ (Sq.of (aQN _ he)) fun r _=>?_;by_cases h2:r>12
      ·rw[aB (bI h2)]; exact aA.2 trivial
      ·rw[aF (bJ h2),aB (by omega)];refine Sq.bind _ (Sq.of (aDZ fs _ hl he)) fun r _=>aA.2 trivial
    ·cases j with
     | true=>exact aA.2 (aA.2 fun h=>by cases h)
     | false=>exact aA.2 ⟨rfl,by omega,trivial⟩
   ·rw[aF (bJ hc)];refine aA.2 ?_;simp only[sel];exact aA.2 fun h=>by grind
theorem Qg(fs:List aI)(hl:okL 104 fJ fs):Sp (G82 fs) (fun _=>True):=(aMH fs (Dt hl).1 (Dt hl).2).imp fun _ _=>trivial
theorem bGO(fs:List aI)(cs ps:List Int)(e:bB)(hl:okL 104 fJ fs)(he:eH e):Sp (G86 fs cs ps e) (fun r=>r.2=true->De fs cs ps e=some (r.1,true)):=by
 unfold G86 T86;simp only[Tr.den];refine Sq.bind _ (Qg fs hl) fun r _=>?_;split
 ·exact aA.2 fun h=>by cases h
 ·obtain⟨y,hy,_⟩:=(Hi fs cs ps e he.bnd).get;rw[hy];simp only[aH];exact aA.2 fun h=>by rw[show (y.1,true)=y from Prod.ext rfl h.symm]
theorem bCU(fs:List aI)(e:bB)(cs:List Int)(hl:okL 104 fJ fs)(he:eH e):Sp (G85 fs e cs) (fun r=>r=true->De fs cs [] e=some (2,true)):=by
 unfold G85 T85;simp only[Tr.den];refine Sq.bind _ (bGO fs cs [] e hl he) fun r hr=>?_;refine Sq.bind (fun j:Bool=>j=true->r.2=true/\r.1=2) (aO (fun h=>aA.2 fun h2=>⟨h,jI.1 h2⟩) (fun _=>aA.2 fun h=>by cases h)) fun j hj=>aA.2 fun h=>by
  have h1:=hr (hj h).1
  rwa [(hj h).2]at h1
theorem bAA(n:aG)(hop:n.Op=8):Sp (G83 n) (fun r=>r=true->(1<=n.Size/\n.Size<=10000)/\1<=n.Seq.length/\n.Seq.length<=8):=by
 unfold G83 T83;simp only[Tr.den,aEF,aH];rw[aF (kF (by omega)),aF (kF (by omega)),aF (kF (by omega)),aF (kF (by omega)),aB (wW hop)];by_cases h1:1<=n.Size/\n.Size<=10000
 ·rw[aB (bI h1)];exact aA.2 fun h2=>⟨h1,by grind⟩
 ·rw[aF (bJ h1)];exact aA.2 fun h=>by cases h
theorem aTE(n:aG)(hop:n.Op=8):G84 n=some 1:=by unfold G84 T84;simp only[Tr.den];simp[hop]
structure rL (fs:List aI)(n:aG)(ta:List Int):Prop where
 pn:lN n
 key:∀ c,c∈n.Key->0<=c/\c<ta.length
 la:ta.length<=12
 fr:G82 fs=some true
 ty:∀ i,i<n.Seq.length->De fs ta [] (n.Seq.getD i default).Pred=some (2,true)
theorem aVX(fs:List aI)(n:aG)(ta:List Int)(hl:okL 104 fJ fs)(hn:iR n)(hop:n.Op=8)(ha:ta.length<=1048576):Sp (G34 fs n [ta]) (fun r=>r=true->rL fs n ta):=by
 obtain⟨_,_,_,_,_,_,_,_,hK,_,_,_,_,_,hS,_⟩:=hn;have hK1:=hK.1;have hS1:=hS.1;unfold G34 T34;simp only[Tr.den];obtain⟨y,hy,_⟩:=(Qg fs hl).get;rw[hy];simp only[aH];refine Sq.bind (fun j:Bool=>j=false->y=true/\(1<=n.Size/\n.Size<=10000)/\1<=n.Seq.length/\n.Seq.length<=8) ?_ (fun j hj=>?_)
 ·cases y with
  | false=>exact aA.2 fun h=>by cases h
  | true=>
   simp only[kU,cM,cI];refine Sq.bind _ (bAA n hop) fun r hr=>?_;cases r with
   | false=>exact aA.2 fun h=>by cases h
   | true=>simp only[kU,cM,cI];rw[aTE n hop];simp only[aH];rw[aF (Bi (by rfl))];exact aA.2 fun _=>⟨trivial,hr rfl⟩
 ·cases j with
  | true=>exact aA.2 fun h=>by cases h
  | false=>
   obtain⟨hyt,hz,hsq⟩:=hj rfl;subst hyt;simp only[cM,cI];have w:IntKind.i64.wrap ((([ta]:List (List Int)).length:Int)-1)=0:=by show IntKind.i64.wrap (1-1)=0;rw[bS] <;> omega
   have e0:([ta]:List (List Int)).getD (0:Int).toNat default=ta:=rfl;rw[aB (by simp),w,aB (by simp),e0];refine Sq.bind (fun j:Bool=>j=false->ta.length<=12) ?_ (fun j hj=>?_)
   ·refine aO (fun _=>aA.2 fun h=>by cases h) fun _=>aO (fun _=>aA.2 fun h=>by cases h) fun q1=>aO (fun _=>aA.2 fun h=>by cases h) fun _=>aA.2 fun q2=>?_;grind
   ·cases j with
    | true=>exact aA.2 fun h=>by cases h
    | false=>
     have hlen:=hj rfl;simp only[cM,cI];rw[aF (kF (by omega)),aF (kF (by omega)),aF (kF (by omega)),aF (kF (by omega)),aF (kF (by omega))];have hor:((if (n.Op==6)=true then some (n.Op==6) else some (n.Op==7)):Option Bool)=some false:=by simp_all
     rw[hor];simp only[aH,cM,cI];rw[aB (wW hop)];refine cD.2 (cG (fun s:Int=>s) n.Seq.length (by omega) (fun s=>∀ i:Nat,(i:Int)<s->De fs ta [] (n.Seq.getD i default).Pred=some (2,true)) (fun s k hI hk hkN=>?_) (fun i hi=>absurd hi (by omega)) rfl);subst hk;unfold aLK;simp only[Tr.den,aS];by_cases hc:k<n.Seq.length
     ·rw[aB (bI (by omega)),aB (by omega)];refine Sq.bind _ (Sq.of (bCU fs _ ta hl (hS.2 _ (aT hc)).1)) fun r hr=>?_;refine Sq.bind (fun j:Bool=>j=false->r=true) ?_ (fun j hj=>?_)
      ·cases r with
       | false=>exact aA.2 fun h=>by cases h
       | true=>simp only[kU,cM,cI];rw[aB (by omega)];refine aO (fun _=>aA.2 fun h=>by cases h) fun _=>?_;rw[aB (by omega)];exact aA.2 fun _=>trivial
      ·cases j with
       | true=>exact aA.2 (aA.2 fun h=>by cases h)
       | false=>refine aA.2 ⟨rfl,hc,fun i hi=>?_⟩;rw[aL (by omega)]at hi;grind
     ·rw[aF (bJ (by omega))];refine aA.2 ?_;simp only[sel];refine Sq.bind _ (Sq.of (bGS n.Key ta hK1)) fun r hr=>?_;cases r with
      | false=>exact aA.2 fun h=>by cases h
      | true=>simp only[fZ];refine aA.2 fun h=>?_;have h10:=lO h;exact⟨⟨hop,hsq,hz,by omega⟩,hr rfl,hlen,hy,fun i hi=>hI i (by omega)⟩
theorem rL.ev{ta:List Int}(h:rL fs n ta)(hl:okL 104 fJ fs)(hn:iR n)(hr:∀ d,d∈l->d.Row.length=ta.length/\∀ v,v∈d.Row->Sm v):Dh fs n l:=by obtain⟨_,_,_,_,_,_,_,_,_,_,_,_,_,_,hS,_⟩:=hn;intro d hd i hi;have ht:=h.ty i hi;exact(aXJ hl h.fr (hS.2 _ (aT hi)).1 ht d.Time (hr d hd).1 (hr d hd).2).2 rfl
end Go.PL
