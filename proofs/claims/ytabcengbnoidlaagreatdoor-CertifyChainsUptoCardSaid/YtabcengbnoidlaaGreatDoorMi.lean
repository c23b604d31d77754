/-
  Parts: From the reading of arguments to plain data; the frame of a law's row. Own work. What reads as data of the argument types reads as plain data of ours. Printed by a program of our own. What these texts lean on of our older plain laws, turned to this seat (gather.py). Own work. Plans, nodes, lists: the program and the reference compare them by equality. Own work. The comparing functions come to equality (printed by gen_ia.py, and by hand). Own work. errataref22.Same is equality. Own work. What the functions on expressions come to: levels, steps, the time, the columns that are read. Own work. Steps of expressions over functions; whether the time is read; which columns are read. Own work. Copies are what was copied (printed by gen_if.py, and by hand). Own work. Copies of expressions, functions, nodes and plans are what was copied. Own work. What the two ways of replacing a node in a plan come to: one list. Own work. Lists that hold a number; columns that may be read; columns that are put in, or get new numbers. Own work. Plans whose parts fit together, as far as the rules need it; what replacing keeps. Own work. The rules for filters over filters, maps and unions: both programs do the same. Own work. The rules that push filters: what they lay; maps and unions. Own work. Filters over windows, tops and matches. Own work. Filters over joins. Own work. Windows as panes; joins whose sides are swapped. Own work. Joins whose sides are swapped; nodes that are dropped. Own work.
-/
import Derived.Test.YtabcengbnoidlaaGreatDoorMh
import Derived.Test.YtabcengbnoidlaaGreatDoorRows
import Derived.JoinedCond
import Derived.ProofKit
import Derived.OpenShut
import Derived.Carry
import Derived.DataReads
import Derived.ChangeAnyMap
import Derived.Lib.Bytealg
import Derived.Sort.LotA
set_option maxHeartbeats 4000000
namespace Go.PL
open Go Go.RowKit
open Go.Proofs.YtabcengbnoidlaaGreatDoor.Rows (uptoBulk uptoBulkAll)
variable {X:Type} {fuel:Nat} {ps:List MemPlace} {t:TypeId} {v:Value}
def RdL(F:Nat->Prop)(W:World)(l:List T)(cs:List Value):Prop:=cs.length=l.length/\∀ (j:Nat) x v,l[j]? = some x->cs[j]? = some v->Rd F W x v
theorem RdL.append{F:Nat->Prop}{W:World}{l l':List T}{cs cs':List Value}(h:RdL F W l cs)(h':RdL F W l' cs'):RdL F W (l++l') (cs++cs'):=by
 refine⟨by simp[h.1,h'.1],fun j x v hx hv=>?_⟩;by_cases hj:j<l.length
 ·rw[eT hj]at hx;rw[eT (by rw[h.1]; exact hj)]at hv;exact h.2 j x v hx hv
 ·rw[eH (by omega)]at hx;rw[eH (by rw[h.1]; omega),h.1]at hv;exact h'.2 _ x v hx hv
def gI(n:Int):Prop:=-9223372036854775808<=n/\n<=9223372036854775807
section
variable {H:Type} {enc:TypeId×Value->H} {P:Program} {W:World}
def fM(enc:TypeId×Value->H)(P:Program)(W:World)(t:TypeId)(c:X->List T)(ok:X->Prop)(fuel:Nat):Prop:=
 ∀ cs d ps,DataW.trod enc P W 0 (fun _=>true) true fuel t cs=some (d,ps)->uptoBulk d<=1048576->∃ x,RdL (fun b=>b<W.heap.size) W (c x) cs/\ok x
theorem dA{c:X->List T}{ok:X->Prop}:fM enc P W t c ok 0:=fun cs d ps h=>by simp[DataW.trod]at h
theorem RdL.one{F:Nat->Prop}{W:World}{x:T}(h:Rd F W x v):RdL F W [x] [v]:=by
 refine⟨rfl,fun j y u hy hu=>?_⟩;cases j with
 | zero=>simp at hy hu; subst hy; subst hu; exact h
 | succ j=>simp at hy
theorem dN(ht:P.underlying t=some (.int .i64))(fuel:Nat):fM enc P W t aG gI fuel:=by
 cases fuel with
 | zero=>exact dA
 | succ fuel=>
  intro cs d ps h _;unfold DataW.trod at h;rw[ht]at h;split at h <;> try (simp_all; done)
  rename_i k k' n hk;split at h
  ·rename_i hk2;cases hk;obtain⟨rfl,hwf⟩:=hk2;refine⟨n,RdL.one (.int _ _),?_⟩;simp[Lit.wf,IntKind.min,IntKind.max,IntKind.signed,IntKind.bits]at hwf;exact⟨by omega,by omega⟩
  ·cases h
def uO(s:ByteArray):Prop:=s.size<=1048576
theorem iJ(ht:P.underlying t=some .string)(fuel:Nat):fM enc P W t Iw uO fuel:=by
 cases fuel with
 | zero=>exact dA
 | succ fuel=>
  intro cs d ps h hw;unfold DataW.trod at h;rw[ht]at h;split at h <;> try (simp_all; done)
  rename_i s hk;split at h
  ·cases h;refine⟨s,RdL.one (.str _),?_⟩;have:s.data.toList.length+1<=1048576:=hw;have:s.size=s.data.toList.length:=rfl;unfold uO;omega
  ·cases h
theorem tZ{α β:Type}{f:α->Option β}:∀ {l:List α} {r:List β},l.mapM f=some r->r.length=l.length/\∀ (i:Nat) a b,l[i]? = some a->r[i]? = some b->f a=some b
 | [],r,h=>by simp at h; subst h; simp
 | x::l,r,h=>by
  rw[sK]at h;simp only[Option.bind_eq_bind,oN]at h;obtain⟨y,hy,ys,hys,hr⟩:=h;simp at hr; subst hr;obtain⟨h1,h2⟩:=tZ hys;refine⟨by simp[h1],fun i a b ha hb=>?_⟩;cases i with
  | zero=>simp at ha hb; subst ha; subst hb; exact hy
  | succ i=>exact h2 i a b (by simpa using ha) (by simpa using hb)
theorem Er:∀ d:DataW H,1<=uptoBulk d
 | .lit l=>by unfold uptoBulk; split <;> omega
 | .nil=>by simp[uptoBulk]
 | .ptr d=>by simp[uptoBulk]
 | .slice e s=>by simp[uptoBulk]
 | .agg p=>by simp[uptoBulk]
 | .iface t d=>by simp[uptoBulk]
 | .map e=>by simp[uptoBulk]
 | .held h=>by simp[uptoBulk]
theorem xE:∀ l:List (DataW H),l.length<=uptoBulkAll l
 | []=>by simp
 | d::l=>by simp only[uptoBulkAll,qZ]; have:=Er d; have:=xE l; omega
theorem xV:∀ {l:List (DataW H)} {d:DataW H},d∈l->uptoBulk d<=uptoBulkAll l
 | x::l,d,h=>by
  simp only[uptoBulkAll];rcases aX.1 h with rfl | h
  ·omega
  ·have:=xV h; omega
def okL(_b:Nat)(ok:X->Prop)(xs:List X):Prop:=xs.length<=1048576/\∀ x,x∈xs->ok x
theorem gH{t e b:Nat}(ht:P.underlying t=some (.slice e))(hn:Nat.blt 0 (P.cellsOf e)=true)(hb:P.bytesOf e=b){X:Type}[Inhabited X]{c:X->List T}{ok:X->Prop}{fuel:Nat}(he:fM enc P W e c ok fuel)(mk:List X->T)
  (hmk:∀ xs,(mk xs).view=some (xs.length,fun i=>c (xs.getD i default))):fM enc P W t (fun xs=>[mk xs]) (okL b ok) (fuel+1):=by
 have hz:0<P.cellsOf e:=by simpa[fE] using hn
 clear hn;subst hb;intro cs d ps h hw;unfold DataW.trod at h;rw[ht]at h;split at h <;> try (simp_all; done)
 ·
  rename_i hk;cases hk;refine⟨[],RdL.one (.nil (hmk [])),by simp,by simp⟩
 ·rename_i e' a len cap hk;cases hk;simp only at h;split at h
  ·rename_i hcap;simp only[oN,gB]at h;obtain⟨elems,hel,rest,hrest,hd⟩:=h;simp only[gQ]at hd;obtain⟨rfl,rfl⟩:=hd;obtain⟨hlen,hget⟩:=tZ hel;simp only[lI]at hlen;have hwt:uptoBulkAll (elems.map (·.1))<=1048576:=by have hw2:uptoBulkAll (elems.map (·.1))+uptoBulkAll (rest.map (·.1))+1<=1048576:=hw;omega
   have hl:len<=1048576:=by have:=xE (elems.map (·.1));simp only[iG,hlen]at this;omega
   have each:∀ i,i<len->∃ x vs,W.cells? 0 (a.add (i*P.cellsOf e)) (P.cellsOf e)=some vs/\RdL (fun b=>b<W.heap.size) W (c x) vs/\ok x:=by
    intro i hi;have hi':i<elems.length:=by omega
    have:=hget i i elems[i] (by simp[hi]) (by simp[hi']);simp only[oN]at this;obtain⟨vs,hvs,htr⟩:=this;obtain⟨x,h1,h2⟩:=he vs elems[i].1 elems[i].2 htr (gV (xV (Ax (xD hi'))) hwt);exact⟨x,vs,hvs,h1,h2⟩
   have all:∃ xs:List X,xs.length=len/\∀ i,i<len->∃ vs,W.cells? 0 (a.add (i*P.cellsOf e)) (P.cellsOf e)=some vs/\RdL (fun b=>b<W.heap.size) W (c (xs.getD i default)) vs/\ok (xs.getD i default):=by
    clear hel hrest hget hw hwt hl hlen hcap
    induction len with
    | zero=>exact⟨[],rfl,fun i hi=>absurd hi (jQ _)⟩
    | succ len ih=>
     obtain⟨xs,h1,h2⟩:=ih fun i hi=>each i (by omega);obtain⟨x,vs,h3,h4,h5⟩:=each len (by omega);refine⟨xs++[x],by simp[h1],fun i hi=>?_⟩;by_cases hil:i<len
     ·have:(xs++[x]).getD i default=xs.getD i default:=by simp[eT (show i<xs.length by omega)]
      rw[this]; exact h2 i hil
     ·have hil:i=len:=by omega
      subst hil;have:(xs++[x]).getD i default=x:=by simp[<-h1]
      rw[this]; exact⟨vs,h3,h4,h5⟩
   obtain⟨xs,hxl,hxs⟩:=all;refine⟨xs,RdL.one ?_,by rw[hxl]; exact hl,fun x hx=>?_⟩
   ·have hsz:∀ i,i<len->(c (xs.getD i default)).length=P.cellsOf e:=by intro i hi;obtain⟨vs,h1,h2,_⟩:=hxs i hi;rw[<-h2.1];unfold World.cells? at h1;rw[aA (Ar _)]at h1;have:=(tZ h1).1; simpa using this
    have hcell:∀ i j,i<len->j<P.cellsOf e->∃ u,W.cell? (a.add (i*P.cellsOf e+j))=some u/\∀ x,(c (xs.getD i default))[j]? = some x->Rd (fun b=>b<W.heap.size) W x u:=by intro i j hi hj;obtain⟨vs,h1,h2,_⟩:=hxs i hi;unfold World.cells? at h1;rw[aA (Ar _)]at h1;obtain⟨h3,h4⟩:=tZ h1;simp only[lI]at h3;have:=h4 j j vs[j] (by simp[hj]) (by simp[h3,hj]);rw[Addr.add_add]at this;exact⟨vs[j],this,fun x hx=>h2.2 j x vs[j] hx (by simp[h3,hj])⟩
    let vsf:Nat->Nat->Value:=fun i j=>(W.cell? (a.add (i*P.cellsOf e+j))).getD undef;refine .sl a cap (P.cellsOf e) vsf (n:=len) (f:=fun i=>c (xs.getD i default)) (by rw[hmk,hxl]) hcap.2.1 (fun hn=>?_) hsz (fun i j hi hj=>?_) (fun i j x hi hx=>?_)
    ·obtain⟨u,hu,_⟩:=hcell 0 0 hn hz;have hb:=World.block_lt_of_cell? W _ hu;have:(a.add (0*P.cellsOf e+0)).block=a.block:=by unfold Addr.add; split <;> rfl
     rw[this]at hb;exact hb
    ·obtain⟨u,hu,_⟩:=hcell i j hi hj;simp[vsf,hu]
    ·have hj:j<P.cellsOf e:=by rw[<-hsz i hi]; exact(eK.1 hx).1
     obtain⟨u,hu,hr⟩:=hcell i j hi hj;simp only[vsf,hu,Db];exact hr x hx
   ·obtain⟨i,hi,rfl⟩:=Bc hx;obtain⟨_,_,_,h⟩:=hxs i (by omega);simpa[cI,hi] using h
  ·cases h
def Gi(enc:TypeId×Value->H)(P:Program)(W:World)(off:Nat)(fs:List Field)(c:X->List T)(ok:X->Prop)(fuel:Nat):Prop:=
 ∀ (cs:List Value) xs,fs.mapM (fun f=>DataW.trod enc P W 0 (fun _=>true) true fuel f.type ((cs.drop f.offset).take (P.cellsOf f.type)))=some xs ->
  uptoBulkAll (xs.map (·.1))<=1048576->cs.length=off+(fs.map fun f=>P.cellsOf f.type).sum->∃ x,RdL (fun b=>b<W.heap.size) W (c x) (cs.drop off)/\ok x
theorem hJ{off:Nat}:Gi enc P W off [] (fun (_:Unit)=>[]) (fun _=>True) fuel:=by intro cs xs _ _ hl;simp at hl;exact⟨(),⟨by simp[hl],by simp⟩,trivial⟩
theorem bC{off:Nat}{f:Field}{fs:List Field}{Y:Type}{c:X->List T}{c':Y->List T}{ok:X->Prop}{ok':Y->Prop}(ho:f.offset=off)(h:fM enc P W f.type c ok fuel)
  (h':Gi enc P W (off+P.cellsOf f.type) fs c' ok' fuel):Gi enc P W off (f::fs) (fun (x:X×Y)=>c x.1++c' x.2) (fun x=>ok x.1/\ok' x.2) fuel:=by
 intro cs xs hx hw hl;rw[sK]at hx;simp only[Option.bind_eq_bind,oN]at hx;obtain⟨y,hy,ys,hys,hr⟩:=hx;simp at hr; subst hr;simp only[kY,uptoBulkAll]at hw;obtain⟨x,h1,h2⟩:=h _ _ _ hy (by omega);simp only[kY,List.sum_cons]at hl;obtain⟨x',h3,h4⟩:=h' cs ys hys (by omega) (by omega);refine⟨(x,x'),?_,h2,h4⟩;have:cs.drop off=(cs.drop f.offset).take (P.cellsOf f.type)++cs.drop (off+P.cellsOf f.type):=by rw[ho,<-List.drop_drop,Ah]
 rw[this];exact h1.append h3
theorem fO{fs:Array Field}(ht:P.underlying t=some (.struct fs)){c:X->List T}{ok:X->Prop}(h:Gi enc P W 0 fs.toList c ok fuel)
  (hs:P.cellsOf t=(fs.toList.map fun f=>P.cellsOf f.type).sum):fM enc P W t c ok (fuel+1):=by
 intro cs d ps hd hw;unfold DataW.trod at hd;rw[ht]at hd;split at hd <;> try (simp_all; done)
 rename_i cs0 _ _ fs' hk;cases hk;split at hd
 ·rename_i hl;simp only[gB]at hd;obtain⟨xs,hxs,hd⟩:=hd;simp only[gQ]at hd;obtain⟨rfl,_⟩:=hd;have hw2:uptoBulkAll (xs.map (·.1))+1<=1048576:=hw;have:=h _ xs hxs (by omega) (by rw[hl,hs]; simp);simpa using this
 ·cases hd
theorem fM.map{Y:Type}{c:X->List T}{ok:X->Prop}{c':Y->List T}{ok':Y->Prop}(h:fM enc P W t c ok fuel)(g:X->Y)(hc:∀ x,c' (g x)=c x)(ho:∀ x,ok x->ok' (g x)):
  fM enc P W t c' ok' fuel:=by
 intro cs d ps hd hw;obtain⟨x,h1,h2⟩:=h cs d ps hd hw;exact⟨g x,by rw[hc]; exact h1,ho x h2⟩
end
theorem RdL.agg{F:Nat->Prop}{W:World}{l:List T}{v:Value}(h:RdL F W l v.cells.toList)(hv:∃ vs,v = .agg vs):Rd F W (.agg l) v:=by obtain⟨vs,rfl⟩:=hv;simp only[Value.cells]at h;exact .agg (by simpa using h.1) fun j x v hx hv=>h.2 j x v hx (by simpa using hv)
section
variable {H:Type} {enc:TypeId×Value->H} {P:Program} {W:World} {r:Reach} {base:Nat}
theorem Ai{fs:Array Field}(ht:P.underlying t=some (.struct fs)){c:X->List T}{ok:X->Prop}(hO:∀ fuel,fM enc P W t c ok fuel){d:DataW H} 
  (hv:Value.okWide P W r base t v)(h:DataW.Trod enc P W 0 (fun _=>true) true t v d ps)(hw:uptoBulk d<=1048576):∃ x,Rd (fun b=>b<W.heap.size) W (.agg (c x)) v/\ok x:=by
 obtain⟨cs,rfl,_⟩:=Go.WideShapes.okWide_struct ht hv;obtain⟨fuel,hf⟩:=h;obtain⟨x,h1,h2⟩:=hO fuel _ _ _ hf hw;exact⟨x,h1.agg ⟨cs,rfl⟩,h2⟩
theorem aNH{c:X->T}{ok:X->Prop}(hO:∀ fuel,fM enc P W t (fun x=>[c x]) ok fuel){d:DataW H} 
  (hv:v.cells=#[v])(h:DataW.Trod enc P W 0 (fun _=>true) true t v d ps)(hw:uptoBulk d<=1048576):∃ x,Rd (fun b=>b<W.heap.size) W (c x) v/\ok x:=by
 obtain⟨fuel,hf⟩:=h;obtain⟨x,h1,h2⟩:=hO fuel _ _ _ hf hw;exact⟨x,h1.2 0 _ _ (by simp) (by simp[hv]),h2⟩
theorem Dk{e:TypeId}(ht:P.underlying t=some (.slice e)){c:X->T}{ok:X->Prop}(hO:∀ fuel,fM enc P W t (fun x=>[c x]) ok fuel){d:DataW H} 
  (hv:Value.okWide P W r base t v)(h:DataW.Trod enc P W 0 (fun _=>true) true t v d ps)(hw:uptoBulk d<=1048576):∃ x,Rd (fun b=>b<W.heap.size) W (c x) v/\ok x:=by
 obtain⟨a,l,q,rfl⟩:=Go.WideShapes.okWide_slice ht hv;exact aNH hO rfl h hw
end
theorem Bz{W W':World}(h:Below W.heap.size W W')(may:MemPlace->Prop):W.keptBut W' may:=by
 refine⟨h.os,h.output,fun i hi=>?_⟩;rw[h.block i hi];cases W.heap[i]? with
 | none=>trivial
 | some o=>cases o <;> simp
section
variable {H:Type} {enc:TypeId×Value->H} {P:Program}
theorem sG(hl:laidOutB P=true){W W':World}(hb:Below W.heap.size W W'):∀ {ts:List TypeId} {vs:List Value} {ds:List (DataW H)} {ps:List MemPlace},
  (∀ t,t∈ts->P.readableRec t=true/\t<P.types.size)->DataW.TrodAll enc P W 0 (fun _=>true) true ts vs ds ps->(∀ x,x∈ps->x.block<W.heap.size) ->
  DataW.TrodAll enc P W' 0 (fun b=>decide (b<W.heap.size)) true ts vs ds ps
 | [],[],[],ps,_,h,_=>h
 | t::ts,v::vs,d::ds,ps,hr,h,hp=>by obtain⟨p,q,h1,h2,rfl⟩:=h;obtain⟨r1,r2⟩:=hr t (by simp);exact⟨p,q,Go.RowKit.Below.trod hl r1 r2 h1 hb (fun x hx=>hp x (uB _ hx)),sG hl hb (fun t ht=>hr t (cV _ ht)) h2 (fun x hx=>hp x (pP _ hx)),rfl⟩
 | [],_::_,_,_,_,h,_=>by simp[DataW.TrodAll]at h
 | [],[],_::_,_,_,h,_=>by simp[DataW.TrodAll]at h
 | _::_,[],_,_,_,h,_=>by simp[DataW.TrodAll]at h
 | _::_,_::_,[],_,_,h,_=>by simp[DataW.TrodAll]at h
theorem aCY(hlay:laidOutB P=true){f:Func}{s:ChangeSpec}{W W':World}{args:Array Value}{ds gs:List (DataW H)}{before:List MemPlace}{tb:TypeId}(hvars:s.vars=[])
  (hW:DataW.Whole enc P f.params.toList s.vars false W args.toList ds gs before)(hb:Below W.heap.size W W')(hres:f.resultTypes=#[tb])(htb:P.underlying tb=some .bool)
  (hread:∀ t,t∈f.params.toList->P.readableRec t=true/\t<P.types.size)(hfn:s.fn H (ds++gs)={ results:=[.lit (.bool true)],args:=ds }):
  s.post enc P f false true false false W args (.bool true) W':=by
 have hW':=hW;obtain⟨p,q,hA,hV,rfl,_⟩:=hW;rw[hvars]at hV;cases gs with
 | cons g gs=>simp[DataW.TrodVars]at hV
 | nil=>
  simp only[DataW.TrodVars]at hV;subst hV;have hlt:∀ x,x∈p->x.block<W.heap.size:=fun x hx=>by simpa using hW'.lt x (by simp[hx])
  refine⟨ds,[],p++[],[],p,[],hW',?_,?_,?_,Bz hb _,fun h=>by cases h⟩
  ·rw[hfn,hres];exact⟨[],[],⟨1,by simp[DataW.trod,htb,Value.cells]⟩,rfl,rfl⟩
  ·rw[hfn];exact sG hlay hb hread hA hlt
  ·rw[hvars,hfn]; exact rfl
theorem fV.law{P:Program}{k:FuncId}{args:List PV}(h:fV P k args [] [] (Ret (.t (.bool true)))){W:World}{vs:Array Value}(hs:vs.size=args.length)
  (hv:∀ (j:Nat) x v,args[j]? = some x->vs[j]? = some v->VR (fun b=>b<W.heap.size) (fun _=>undef) W x v)(hg:GLP P (fun b=>b<W.heap.size) W):
  Calls P k vs W fun e W'=>e = .returned (.bool true)/\Below W.heap.size W W':=by
 refine(h (fun b=>b<W.heap.size) (fun _=>undef) W vs hs hv ⟨by simp,by simp,by simp⟩ (fun _ h=>h) hg).mono ?_;rintro e w' ⟨v,r,H',F',g',rfl,hr,hvr,hW⟩;unfold Ret at hr;subst hr;have:=hvr.inv_bool;subst this;exact⟨rfl,⟨hW.ext.os,hW.ext.tape,hW.ext.output,hW.ext.size,fun b hb=>hW.ext.block b hb (by rintro⟨o,x,hx,_⟩; simp at hx)⟩⟩
end
set_option maxRecDepth 20000
theorem o47{H:Type}{enc:TypeId×Value->H}{W:World}(fuel:Nat):fM enc Proofs.Tryz.prog W 47 (fun xs=>[eL aG (xs)]) (okL 8 gI) fuel:=by
 cases fuel with
 | zero=>exact dA
 | succ fuel=>exact gH Proofs.Tryz.underlying47 (by kernel_rfl) (by kernel_rfl) (dN Proofs.Tryz.underlying3 fuel) (fun xs=>eL aG (xs)) (fun _=>rfl)
inductive eU:aE->Prop
 | mk0 {a b:Int} {s:ByteArray} {l:List aE} (ha:gI a) (hb:gI b) (hs:uO s) (hn:l.length<=1048576) (hl:∀ x,x∈l->eU x):eU (.mk a b s l)
theorem eU.mk{a b:Int}{s:ByteArray}{l:List aE}(ha:gI a)(hb:gI b)(hs:uO s)(hl:okL 56 eU l):eU (.mk a b s l):=.mk0 ha hb hs hl.1 hl.2
theorem Sm{H:Type}{enc:TypeId×Value->H}{W:World}:∀ fuel,fM enc Proofs.Tryz.prog W 54 aH eU fuel/\fM enc Proofs.Tryz.prog W 48 (fun xs=>[.lz (.exprs xs)]) (okL 56 eU) fuel
 | 0=>⟨dA,dA⟩
 | fuel+1=>by have ih:=Sm (enc:=enc) (W:=W) fuel;exact⟨(fO Proofs.Tryz.underlying54 (bC (by kernel_rfl) (dN Proofs.Tryz.underlying3 fuel) (bC (by kernel_rfl) (dN Proofs.Tryz.underlying3 fuel) (bC (by kernel_rfl) (iJ Proofs.Tryz.underlying9 fuel) (bC (by kernel_rfl) ih.2 hJ)))) (by kernel_rfl)).map (fun x=>aE.mk x.1 x.2.1 x.2.2.1 x.2.2.2.1) (fun _=>rfl) (fun x h=>.mk h.1 h.2.1 h.2.2.1 h.2.2.2.1),gH Proofs.Tryz.underlying48 (by kernel_rfl) (by kernel_rfl) ih.1 (fun xs=>.lz (.exprs xs)) (fun _=>rfl)⟩
def uA(x:aS):Prop:=uO x.Name/\okL 8 gI x.Params/\gI x.Result/\eU x.Body
theorem o74{H:Type}{enc:TypeId×Value->H}{W:World}(fuel:Nat):fM enc Proofs.Tryz.prog W 74 aV uA fuel:=by
 cases fuel with
 | zero=>exact dA
 | succ fuel=>exact(fO Proofs.Tryz.underlying74 (bC (by kernel_rfl) (iJ Proofs.Tryz.underlying9 fuel) (bC (by kernel_rfl) (o47 fuel) (bC (by kernel_rfl) (dN Proofs.Tryz.underlying3 fuel) (bC (by kernel_rfl) (Sm fuel).1 hJ)))) (by kernel_rfl)).map (fun x=>aS.mk x.1 x.2.1 x.2.2.1 x.2.2.2.1) (fun _=>rfl) (fun x h=>⟨h.1,h.2.1,h.2.2.1,h.2.2.2.1⟩)
theorem o22{H:Type}{enc:TypeId×Value->H}{W:World}(fuel:Nat):fM enc Proofs.Tryz.prog W 22 (fun xs=>[eL aV (xs)]) (okL 104 uA) fuel:=by
 cases fuel with
 | zero=>exact dA
 | succ fuel=>exact gH Proofs.Tryz.underlying22 (by kernel_rfl) (by kernel_rfl) (o74 fuel) (fun xs=>eL aV (xs)) (fun _=>rfl)
def Li(x:cF):Prop:=gI x.Kind/\gI x.Col/\uO x.Name
theorem bCB{H:Type}{enc:TypeId×Value->H}{W:World}(fuel:Nat):fM enc Proofs.Tryz.prog W 121 bE Li fuel:=by
 cases fuel with
 | zero=>exact dA
 | succ fuel=>exact(fO Proofs.Tryz.underlying121 (bC (by kernel_rfl) (dN Proofs.Tryz.underlying3 fuel) (bC (by kernel_rfl) (dN Proofs.Tryz.underlying3 fuel) (bC (by kernel_rfl) (iJ Proofs.Tryz.underlying9 fuel) hJ))) (by kernel_rfl)).map (fun x=>cF.mk x.1 x.2.1 x.2.2.1) (fun _=>rfl) (fun x h=>⟨h.1,h.2.1,h.2.2.1⟩)
theorem o49{H:Type}{enc:TypeId×Value->H}{W:World}(fuel:Nat):fM enc Proofs.Tryz.prog W 49 (fun xs=>[eL bE (xs)]) (okL 32 Li) fuel:=by
 cases fuel with
 | zero=>exact dA
 | succ fuel=>exact gH Proofs.Tryz.underlying49 (by kernel_rfl) (by kernel_rfl) (bCB fuel) (fun xs=>eL bE (xs)) (fun _=>rfl)
def Mp(x:cC):Prop:=eU x.Pred/\gI x.Rep
theorem o98{H:Type}{enc:TypeId×Value->H}{W:World}(fuel:Nat):fM enc Proofs.Tryz.prog W 98 bJ Mp fuel:=by
 cases fuel with
 | zero=>exact dA
 | succ fuel=>exact(fO Proofs.Tryz.underlying98 (bC (by kernel_rfl) (Sm fuel).1 (bC (by kernel_rfl) (dN Proofs.Tryz.underlying3 fuel) hJ)) (by kernel_rfl)).map (fun x=>cC.mk x.1 x.2.1) (fun _=>rfl) (fun x h=>⟨h.1,h.2.1⟩)
theorem o50{H:Type}{enc:TypeId×Value->H}{W:World}(fuel:Nat):fM enc Proofs.Tryz.prog W 50 (fun xs=>[eL bJ (xs)]) (okL 64 Mp) fuel:=by
 cases fuel with
 | zero=>exact dA
 | succ fuel=>exact gH Proofs.Tryz.underlying50 (by kernel_rfl) (by kernel_rfl) (o98 fuel) (fun xs=>eL bJ (xs)) (fun _=>rfl)
def Pn(x:aT):Prop:=uO x.Name/\gI x.Type_/\uO x.Unit
theorem o45{H:Type}{enc:TypeId×Value->H}{W:World}(fuel:Nat):fM enc Proofs.Tryz.prog W 45 aR Pn fuel:=by
 cases fuel with
 | zero=>exact dA
 | succ fuel=>exact(fO Proofs.Tryz.underlying45 (bC (by kernel_rfl) (iJ Proofs.Tryz.underlying9 fuel) (bC (by kernel_rfl) (dN Proofs.Tryz.underlying3 fuel) (bC (by kernel_rfl) (iJ Proofs.Tryz.underlying9 fuel) hJ))) (by kernel_rfl)).map (fun x=>aT.mk x.1 x.2.1 x.2.2.1) (fun _=>rfl) (fun x h=>⟨h.1,h.2.1,h.2.2.1⟩)
theorem o46{H:Type}{enc:TypeId×Value->H}{W:World}(fuel:Nat):fM enc Proofs.Tryz.prog W 46 (fun xs=>[eL aR (xs)]) (okL 40 Pn) fuel:=by
 cases fuel with
 | zero=>exact dA
 | succ fuel=>exact gH Proofs.Tryz.underlying46 (by kernel_rfl) (by kernel_rfl) (o45 fuel) (fun xs=>eL aR (xs)) (fun _=>rfl)
def yK(x:aC):Prop:=gI x.Op/\okL 8 gI x.In/\uO x.Source/\gI x.Schema/\okL 56 eU x.Exprs/\gI x.Kind/\gI x.Size/\gI x.Step/\okL 8 gI x.Key/\okL 8 gI x.Key2/\gI x.Before/\gI x.After/\gI x.Keep/\okL 32 Li x.Aggs/\okL 64 Mp x.Seq/\okL 40 Pn x.Cols
theorem o52{H:Type}{enc:TypeId×Value->H}{W:World}(fuel:Nat):fM enc Proofs.Tryz.prog W 52 aI yK fuel:=by
 cases fuel with
 | zero=>exact dA
 | succ fuel=>exact(fO Proofs.Tryz.underlying52 (bC (by kernel_rfl) (dN Proofs.Tryz.underlying3 fuel) (bC (by kernel_rfl) (o47 fuel) (bC (by kernel_rfl) (iJ Proofs.Tryz.underlying9 fuel) (bC (by kernel_rfl) (dN Proofs.Tryz.underlying3 fuel) (bC (by kernel_rfl) (Sm fuel).2 (bC (by kernel_rfl) (dN Proofs.Tryz.underlying3 fuel) (bC (by kernel_rfl) (dN Proofs.Tryz.underlying3 fuel) (bC (by kernel_rfl) (dN Proofs.Tryz.underlying3 fuel) (bC (by kernel_rfl) (o47 fuel) (bC (by kernel_rfl) (o47 fuel) (bC (by kernel_rfl) (dN Proofs.Tryz.underlying3 fuel) (bC (by kernel_rfl) (dN Proofs.Tryz.underlying3 fuel) (bC (by kernel_rfl) (dN Proofs.Tryz.underlying3 fuel) (bC (by kernel_rfl) (o49 fuel) (bC (by kernel_rfl) (o50 fuel) (bC (by kernel_rfl) (o46 fuel) hJ)))))))))))))))) (by kernel_rfl)).map (fun x=>aC.mk x.1 x.2.1 x.2.2.1 x.2.2.2.1 x.2.2.2.2.1 x.2.2.2.2.2.1 x.2.2.2.2.2.2.1 x.2.2.2.2.2.2.2.1 x.2.2.2.2.2.2.2.2.1 x.2.2.2.2.2.2.2.2.2.1 x.2.2.2.2.2.2.2.2.2.2.1 x.2.2.2.2.2.2.2.2.2.2.2.1 x.2.2.2.2.2.2.2.2.2.2.2.2.1 x.2.2.2.2.2.2.2.2.2.2.2.2.2.1 x.2.2.2.2.2.2.2.2.2.2.2.2.2.2.1 x.2.2.2.2.2.2.2.2.2.2.2.2.2.2.2.1) (fun _=>rfl) (fun x h=>⟨h.1,h.2.1,h.2.2.1,h.2.2.2.1,h.2.2.2.2.1,h.2.2.2.2.2.1,h.2.2.2.2.2.2.1,h.2.2.2.2.2.2.2.1,h.2.2.2.2.2.2.2.2.1,h.2.2.2.2.2.2.2.2.2.1,h.2.2.2.2.2.2.2.2.2.2.1,h.2.2.2.2.2.2.2.2.2.2.2.1,h.2.2.2.2.2.2.2.2.2.2.2.2.1,h.2.2.2.2.2.2.2.2.2.2.2.2.2.1,h.2.2.2.2.2.2.2.2.2.2.2.2.2.2.1,h.2.2.2.2.2.2.2.2.2.2.2.2.2.2.2.1⟩)
theorem o23{H:Type}{enc:TypeId×Value->H}{W:World}(fuel:Nat):fM enc Proofs.Tryz.prog W 23 (fun xs=>[eL aI (xs)]) (okL 248 yK) fuel:=by
 cases fuel with
 | zero=>exact dA
 | succ fuel=>exact gH Proofs.Tryz.underlying23 (by kernel_rfl) (by kernel_rfl) (o52 fuel) (fun xs=>eL aI (xs)) (fun _=>rfl)
def eX(x:aB):Prop:=okL 104 uA x.Funcs/\okL 248 yK x.Nodes
theorem o25{H:Type}{enc:TypeId×Value->H}{W:World}(fuel:Nat):fM enc Proofs.Tryz.prog W 25 aY eX fuel:=by
 cases fuel with
 | zero=>exact dA
 | succ fuel=>exact(fO Proofs.Tryz.underlying25 (bC (by kernel_rfl) (o22 fuel) (bC (by kernel_rfl) (o23 fuel) hJ)) (by kernel_rfl)).map (fun x=>aB.mk x.1 x.2.1) (fun _=>rfl) (fun x h=>⟨h.1,h.2.1⟩)
def fT(x:aW):Prop:=gI x.Node/\gI x.Rule/\gI x.N
theorem o27{H:Type}{enc:TypeId×Value->H}{W:World}(fuel:Nat):fM enc Proofs.Tryz.prog W 27 cH fT fuel:=by
 cases fuel with
 | zero=>exact dA
 | succ fuel=>exact(fO Proofs.Tryz.underlying27 (bC (by kernel_rfl) (dN Proofs.Tryz.underlying3 fuel) (bC (by kernel_rfl) (dN Proofs.Tryz.underlying3 fuel) (bC (by kernel_rfl) (dN Proofs.Tryz.underlying3 fuel) hJ))) (by kernel_rfl)).map (fun x=>aW.mk x.1 x.2.1 x.2.2.1) (fun _=>rfl) (fun x h=>⟨h.1,h.2.1,h.2.2.1⟩)
theorem o38{H:Type}{enc:TypeId×Value->H}{W:World}(fuel:Nat):fM enc Proofs.Tryz.prog W 38 (fun xs=>[eL cH (xs)]) (okL 24 fT) fuel:=by
 cases fuel with
 | zero=>exact dA
 | succ fuel=>exact gH Proofs.Tryz.underlying38 (by kernel_rfl) (by kernel_rfl) (o27 fuel) (fun xs=>eL cH (xs)) (fun _=>rfl)
end Go.PL
namespace Go.PL
open Go
set_option maxRecDepth 20000
variable {a j m:Int} {bb c:Bool} {fs:List aS} {i:Nat} {l ns:List aC} {n n0:aC} {r:List Int}
section
def Sq{α:Type}(b:Bool)(x:Option α)(Q:α->Prop):Prop:=(∀ y,x=some y->Q y)/\(b=true->x.isSome=true)
abbrev Sp {α:Type}(x:Option α)(Q:α->Prop):Prop:=Sq true x Q
section
variable {α β:Type} {b:Bool}
theorem aD{y:α}{Q:α->Prop}:Sq b (some y) Q↔Q y:=⟨fun h=>h.1 y rfl,fun h=>⟨fun z hz=>by cases hz; exact h,fun _=>rfl⟩⟩
theorem rT{Q:α->Prop}:Sq b (none:Option α) Q↔b=false:=⟨fun h=>by cases b with | false=>rfl | true=>exact absurd (h.2 rfl) (by simp),fun h=>⟨fun _ hz=>(by cases hz),fun hb=>(by rw[h]at hb; cases hb)⟩⟩
theorem iH{x:Option α}{f:α->Option β}{Q:β->Prop}:Sq b (x.bind f) Q↔Sq b x (fun r=>Sq b (f r) Q):=by
 cases x with
 | none=>exact rT.trans rT.symm
 | some r=>exact(aD (Q:=fun r=>Sq b (f r) Q)).symm
theorem Sq.imp{x:Option α}{P Q:α->Prop}(h:Sq b x P)(hq:∀ y,P y->Q y):Sq b x Q:=⟨fun y hy=>hq y (h.1 y hy),h.2⟩
theorem Sq.of_eq{x:Option α}{y:α}{Q:α->Prop}(h:x=some y)(hq:Q y):Sq b x Q:=by rw[h]; exact aD.2 hq
theorem Sp.get{x:Option α}{Q:α->Prop}(h:Sp x Q):∃ y,x=some y/\Q y:=by obtain⟨y,hy⟩:=vJ.1 (h.2 rfl);exact⟨y,hy,h.1 y hy⟩
theorem Sp.eq{x:Option α}{y:α}(h:Sp x (fun z=>z=y)):x=some y:=by obtain⟨z,h1,rfl⟩:=h.get; exact h1
theorem Sq.bind{x:Option α}{f:α->Option β}{Q:β->Prop}(P:α->Prop)(h:Sq b x P)(h':∀ y,P y->Sq b (f y) Q):Sq b (x.bind f) Q:=iH.2 (h.imp h')
theorem bI{x y:Option α}{Q:α->Prop}(h:c=true->Sq b x Q)(h':c=false->Sq b y Q):Sq b (if c=true then x else y) Q:=by
 cases c with
 | true=>exact h rfl
 | false=>exact h' rfl
end
theorem eE{b:Int}(h:a≠b):¬ ((a==b)=true):=by simpa using h
theorem dB{b:Int}(h:a=b):(a==b)=true:=by simpa using h
theorem bQ{p:Prop}[Decidable p](h:¬ p):¬ (decide p=true):=by simpa using h
theorem bS{p:Prop}[Decidable p](h:p):decide p=true:=by simpa using h
section
variable {S R:Type} {b:Bool} {bd:S->Option (S⊕R)}
theorem Sq.while(I:S->Prop)(μ:S->Nat){Q:R->Prop}(h:∀ s,I s->Sq b (bd s) (sel (fun s'=>I s'/\μ s' < μ s) Q)){s:S}(hs:I s):Sq b (cB bd s) Q:=by
 have:∀ (k:Nat) (s:S),μ s<=k->I s->Sq b (cB bd s) Q:=by
  intro k
  induction k with
  | zero=>
   intro s hk hs;have h1:=h s hs;rw[rO];cases hb:bd s with
   | none=>rw[hb]at h1; exact rT.2 (rT.1 h1)
   | some z=>
    rw[hb]at h1;have h2:=aD.1 h1;cases z with
    | inl s'=>exact absurd h2.2 (by omega)
    | inr r=>exact aD.2 h2
  | succ k ih=>
   intro s hk hs;have h1:=h s hs;rw[rO];cases hb:bd s with
   | none=>rw[hb]at h1; exact rT.2 (rT.1 h1)
   | some z=>
    rw[hb]at h1;have h2:=aD.1 h1;cases z with
    | inl s'=>exact ih s' (by have:=h2.2; omega) h2.1
    | inr r=>exact aD.2 h2
 exact this (μ s) s (fK _) hs
theorem mQ(f:Nat->S)(n:Nat){r:R}(h:∀ i,i<n->bd (f i)=some (.inl (f (i+1))))(h':bd (f n)=some (.inr r)):cB bd (f 0)=some r:=by
 have:∀ k,k<=n->cB bd (f (n-k))=some r:=by
  intro k
  induction k with
  | zero=>intro _; exact gZ h'
  | succ k ih=>intro hk;rw[lZ (h (n-(k+1)) (by omega)),show n-(k+1)+1=n-k by omega];exact ih (by omega)
 simpa using this n (fK n)
end
section
variable {P:Program} {A R:Type}
theorem aPM{C:A->Option R->Prop}(c0:∀ a,C a none)(B:{f:A->Option R // ∀ a,C a (f a)}->A->Tr P R)(ok:∀ f a,C a (B f a).den)(I:A->Prop)(μ:A->Nat)(Q:A->R->Prop)
  (h:∀ b f a,I a->(∀ a',I a'->μ a' < μ a->Sq b (f.1 a') (Q a'))->Sq b (B f a).den (Q a)):∀ n a,I a->Sq (decide (μ a<n)) ((Jc c0 B ok n).1 a) (Q a):=by
 intro n
 induction n with
 | zero=>intro a ha; exact⟨fun y hy=>(by cases hy),fun hb=>by simp at hb⟩
 | succ n ih=>intro a ha;refine h _ _ a ha fun a' ha' hm=>?_;have h1:=ih a' ha';exact⟨h1.1,fun hb=>h1.2 (by simp at hb ⊢; omega)⟩
theorem fX{C:A->Option R->Prop}(c0:∀ a,C a none)(B:{f:A->Option R // ∀ a,C a (f a)}->A->Tr P R)(ok:∀ f a,C a (B f a).den)(I:A->Prop)(μ:A->Nat)(Q:A->R->Prop)
  (h:∀ b f a,I a->(∀ a',I a'->μ a' < μ a->Sq b (f.1 a') (Q a'))->Sq b (B f a).den (Q a))(b:Bool)(a:A)(ha:I a):Sq b (lA c0 B ok a) (Q a):=by
 have h1:=aPM c0 B ok I μ Q h;unfold lA;rcases Lim.or (fun n=>(Jc c0 B ok n).1 a) with⟨y,n,hn,hl⟩ | ⟨hl,hh⟩
 ·rw[hl];exact aD.2 ((h1 n a ha).1 _ hn)
 ·exfalso;have h2:=h1 (μ a+1) a ha;obtain⟨y,hy⟩:=vJ.1 (h2.2 (by simp));exact hh y _ hy
end
end
section
theorem aCD(n:Int):IntKind.i64.wrap n=(n+9223372036854775808) % 18446744073709551616-9223372036854775808:=by simp only[IntKind.wrap,IntKind.bits,IntKind.signed];simp;omega
theorem cR{n:Int}(h1:-9223372036854775808<=n)(h2:n<=9223372036854775807):IntKind.i64.wrap n=n:=by rw[aCD]; omega
theorem bO{n:Nat}(h:n<9223372036854775807):IntKind.i64.wrap ((n:Int)+1)=((n+1:Nat):Int):=by rw[cR] <;> omega
section
variable {α:Type} [Inhabited α]
theorem eJ{l:List α}{k:Nat}(h:k<l.length):l.getD k default=l[k]:=by simp[h]
theorem aQ{l:List α}{k:Nat}(h:k<l.length):l.getD k default∈l:=by rw[eJ h]; exact xD h
theorem Jk{l r:List α}(h:l.length=r.length)(h':∀ k,k<l.length->l.getD k default=r.getD k default):l=r:=by
 apply List.ext_getElem h;intro k h1 h2;have:=h' k h1
 rwa [eJ h1,eJ h2]at this
theorem dU{l:List α}{k:Nat}(h:k<l.length):l.take (k+1)=l.take k++[l.getD k default]:=by rw[eJ h,List.take_succ_eq_append_getElem h]
theorem Xa{l:List α}{k:Nat}(h:k<l.length):l.drop k=l.getD k default::l.drop (k+1):=by rw[eJ h,tY h]
end
end
section
theorem uR(p q:Prop)[Decidable p][Decidable q]:(if decide p=true then some (decide q) else some false)=some (decide (p/\q)):=by by_cases hp:p <;> simp[hp]
end
section
theorem jV{S R:Type}{b:Bool}{bd:S->Option (S⊕R)}(idx:S->Int)(N:Nat)(hN:N<=1000000000000000)(I:S->Prop){Q:R->Prop}
  (h:∀ s (k:Nat),I s->idx s=k->k<=N->Sq b (bd s) (sel (fun s'=>idx s'=IntKind.i64.wrap ((k:Int)+1)/\k<N/\I s') Q)){s:S}(hs:I s)(h0:idx s=0):Sq b (cB bd s) Q:=by
 refine Sq.while (fun s=>I s/\∃ k:Nat,idx s=k/\k<=N) (fun s=>N-(idx s).toNat) (fun s hs=>?_) ⟨hs,0,h0,by omega⟩;obtain⟨hI,k,hk,hkN⟩:=hs;refine(h s k hI hk hkN).imp fun z hz=>?_;cases z with
 | inr r=>exact hz
 | inl s'=>obtain⟨q1,q2,q3⟩:=hz;rw[bO (by omega)]at q1;exact⟨⟨q3,k+1,q1,by omega⟩,by rw[q1,hk]; omega⟩
theorem eU.len{e:aE}(h:eU e):e.Args.length<=1048576:=by cases h; assumption
theorem eU.arg{e:aE}(h:eU e):∀ x,x∈e.Args->eU x:=by cases h; assumption
theorem sW{e x:aE}(h:x∈e.Args):SizeOf.sizeOf x<SizeOf.sizeOf e:=by
 cases e with
 | mk a b s l=>have:=List.sizeOf_lt_of_mem h;simp only[aE.Args]at this;simp only[aE.mk.sizeOf_spec];omega
theorem Ow(e:aE)(h:eU e):Sp (G79 e) (fun _=>True):=by
 refine fX (C:=fun (a:aE) (x:Option Int)=>Con Proofs.Tryz.prog 51 [.t (aL a)] x (fun (y:Int)=>.t (.int .i64 (y)))) (fun a=>⟨bL Proofs.Tryz.func51 (by kernel_rfl),fun _ h=>nomatch h⟩) (fun rec a=>T79 rec a) (fun rec a=>aDD rec a)
  eU (fun e=>SizeOf.sizeOf e) (fun _ _=>True) (fun b f e he hrec=>?_) true e h
 have hl:=he.len;unfold T79;simp only[Tr.den,iH];refine jV (fun s:Int×Int=>s.2) e.Args.length (by omega) (fun _=>True) (fun s k _ hk hkN=>?_) trivial rfl;obtain⟨v1,v2⟩:=s;simp only at hk;subst hk;unfold aER;simp only[Tr.den,aJ];by_cases hc:k<e.Args.length
 ·rw[aA (bS (by omega)),aA (by omega)];refine Sq.bind _ (hrec _ (he.arg _ (aQ hc)) (sW (aQ hc))) fun r _=>aD.2 ⟨rfl,hc,trivial⟩
 ·rw[aF (bQ (by omega))];exact aD.2 (aD.2 trivial)
theorem aDW(e:aE)(h:eU e):Sp (G80 e) (fun _=>True):=by
 refine fX (C:=fun (a:aE) (x:Option Int)=>Con Proofs.Tryz.prog 52 [.t (aL a)] x (fun (y:Int)=>.t (.int .i64 (y)))) (fun a=>⟨bL Proofs.Tryz.func52 (by kernel_rfl),fun _ h=>nomatch h⟩) (fun rec a=>T80 rec a) (fun rec a=>Qt rec a)
  eU (fun e=>SizeOf.sizeOf e) (fun _ _=>True) (fun b f e he hrec=>?_) true e h
 have hl:=he.len;unfold T80;simp only[Tr.den,iH];refine jV (fun s:Int×Int=>s.2) e.Args.length (by omega) (fun _=>True) (fun s k _ hk hkN=>?_) trivial rfl;obtain⟨v1,v2⟩:=s;simp only at hk;subst hk;unfold nI;simp only[Tr.den,aJ];by_cases hc:k<e.Args.length
 ·rw[aA (bS (by omega)),aA (by omega)];refine Sq.bind _ (hrec _ (he.arg _ (aQ hc)) (sW (aQ hc))) fun r _=>aD.2 ⟨rfl,hc,trivial⟩
 ·rw[aF (bQ (by omega))];exact aD.2 (aD.2 trivial)
theorem Tc(fs:List Int)(e:aE)(hf:fs.length<=1100000)(h:eU e):Sp (bBL fs e) (fun _=>True):=by
 refine fX (C:=fun (a:(List Int)×aE) (x:Option Int)=>Con Proofs.Tryz.prog 100 [.t (eL aG (a.1)),.t (aL a.2)] x (fun (y:Int)=>.t (.int .i64 (y)))) (fun a=>⟨bL Proofs.Tryz.func100 (by kernel_rfl),fun _ h=>nomatch h⟩) (fun rec a=>aIL rec a.1 a.2) (fun rec a=>Wc rec a.1 a.2)
  (fun a=>a.1.length<=1100000/\eU a.2) (fun a=>SizeOf.sizeOf a.2) (fun _ _=>True) (fun b f a ha hrec=>?_) true (fs,e) ⟨hf,h⟩
 obtain⟨fs,e⟩:=a;obtain⟨hf,he⟩:=ha;simp only at hf he hrec ⊢;have hl:=he.len;unfold aIL;simp only[Tr.den,iH];refine jV (fun s:List Int×Int=>s.2) e.Args.length (by omega) (fun s=>s.1.length=s.2.toNat) (fun s k hI hk hkN=>?_) rfl rfl;obtain⟨v1,v2⟩:=s;simp only at hk hI;subst hk;unfold Sz;simp only[Tr.den,aJ]at hI ⊢;by_cases hc:k<e.Args.length
 ·rw[aA (bS (by omega)),aA (by omega)];refine Sq.bind _ (hrec (fs,e.Args.getD k default) ⟨hf,he.arg _ (aQ hc)⟩ (sW (aQ hc))) fun r _=>?_;rw[aA (by simp only[qZ,nT]; omega)];refine aD.2 ⟨rfl,hc,?_⟩;rw[bO (by omega)]; simp; omega
 ·rw[aF (bQ (by omega))];refine aD.2 ?_;simp only[sel];have hv:v1.length=e.Args.length:=by omega
  have rest:Sq b ((cB (fun s=>(Gk s).den) (1,v1,0)).bind (sel (fun b10=>((if (e.Op==22)=true then (if decide (e.N>=0)=true then some (decide (e.N<(fs.length:Int))) else some false) else some false)).bind fun j11=>
    ((if j11=true then (if 0<=e.N/\e.N<(fs.length:Int) then some (if (1099511627776:Int)<IntKind.i64.wrap (b10+fs.getD e.N.toNat default) then (1099511627776:Int) else IntKind.i64.wrap (b10+fs.getD e.N.toNat default)) else none) else some b10)).bind fun j12=>some j12) some)) (fun _=>True):=by
   rw[iH];refine jV (fun s:Int×List Int×Int=>s.2.2) v1.length (by omega) (fun s=>s.2.1=v1) (fun s k hI hk hkN=>?_) rfl rfl;obtain⟨w1,w2,w3⟩:=s;simp only at hk hI;subst hk hI;unfold Gk;simp only[Tr.den,aJ];by_cases hc:k<w2.length
   ·rw[aA (bS (by omega)),aA (by omega),aA hc];exact aD.2 ⟨rfl,hc,rfl⟩
   ·rw[aF (bQ (by omega))];refine aD.2 ?_;simp only[sel,uR];by_cases h22:(e.Op==22)=true
    ·rw[aA h22];simp only[aK];by_cases hr:e.N>=0/\e.N<(fs.length:Int)
     ·rw[aA (bS hr),aA hr]; exact aD.2 trivial
     ·rw[aF (bQ hr)]; exact aD.2 trivial
    ·rw[aF h22]; exact aD.2 trivial
  by_cases h21:(e.Op==21)=true
  ·rw[aA h21];simp only[aK];by_cases h3:((v1.length:Int)==3)=true
   ·rw[aA h3];have h3':v1.length=3:=by have:=qM.1 h3; omega
    rw[aA (by omega),aA (by simp; omega),aA (by omega),aA (by simp; omega),aA (by omega),aA (by simp; omega)];exact aD.2 trivial
   ·rw[aF h3]; exact rest
  ·rw[aF h21];simp only[aK,cK,bY];exact rest
theorem okEs.get{l:List aE}(h:okL 56 eU l){k:Nat}(hk:k<l.length):eU (l.getD k default):=h.2 _ (aQ hk)
end
section
def bl(b:ByteArray):List UInt8:=b.data.toList
theorem aYS{a b:ByteArray}(h:bl a=bl b):a=b:=by cases a; cases b; simp[bl]at h; simp[h]
end
section
theorem yX{P:Program}{A R:Type}{C C':A->Option R->Prop}(c0:∀ a,C a none)(c0':∀ a,C' a none)
  (B:{f:A->Option R // ∀ a,C a (f a)}->A->Tr P R)(B':{f:A->Option R // ∀ a,C' a (f a)}->A->Tr P R)(ok:∀ f a,C a (B f a).den)(ok':∀ f a,C' a (B' f a).den)
  (h:∀ f g,f.1=g.1->∀ a,(B f a).den=(B' g a).den):∀ n,(Jc c0 B ok n).1=(Jc c0' B' ok' n).1
 | 0=>rfl
 | n+1=>funext fun a=>h _ _ (yX c0 c0' B B' ok ok' h n) a
theorem sR{P:Program}{A R:Type}{C C':A->Option R->Prop}(c0:∀ a,C a none)(c0':∀ a,C' a none)
  (B:{f:A->Option R // ∀ a,C a (f a)}->A->Tr P R)(B':{f:A->Option R // ∀ a,C' a (f a)}->A->Tr P R)(ok:∀ f a,C a (B f a).den)(ok':∀ f a,C' a (B' f a).den)
  (h:∀ f g,f.1=g.1->∀ a,(B f a).den=(B' g a).den)(a:A):lA c0 B ok a=lA c0' B' ok' a:=by
 unfold lA;simp only[yX c0 c0' B B' ok ok' h]
end
section
theorem dO{S R:Type}{b:Bool}{bd:S->Option (S⊕R)}(idx:S->Int)(N:Nat)(hN:N<=1000000000000000)(I:S->Prop){Q:R->Prop}
  (h:∀ s (k:Nat),I s->idx s=k->k<=N->Sq b (bd s) (sel (fun s'=>idx s'=IntKind.i64.wrap ((k:Int)+1)/\k<N/\I s') Q)){s:S}(hs:I s)(h0:idx s=0):Sq b (cB bd s) Q:=by
 refine Sq.while (fun s=>I s/\∃ k:Nat,idx s=k/\k<=N) (fun s=>N-(idx s).toNat) (fun s hs=>?_) ⟨hs,0,h0,by omega⟩;obtain⟨hI,k,hk,hkN⟩:=hs;refine(h s k hI hk hkN).imp fun z hz=>?_;cases z with
 | inr r=>exact hz
 | inl s'=>obtain⟨q1,q2,q3⟩:=hz;rw[bO (by omega)]at q1;exact⟨⟨q3,k+1,q1,by omega⟩,by rw[q1,hk]; omega⟩
end
section
theorem Sq.of{α:Type}{b:Bool}{x:Option α}{Q:α->Prop}(h:Sp x Q):Sq b x Q:=⟨h.1,fun _=>h.2 rfl⟩
inductive cE:aE->Prop
 | mk {e:aE} (hs:e.S.size<=1048576) (hl:e.Args.length<=1048576) (hA:∀ i,i<e.Args.length->cE (e.Args.getD i default)):cE e
theorem dR{e x:aE}(h:x∈e.Args):SizeOf.sizeOf x<SizeOf.sizeOf e:=by
 cases e with
 | mk a b s l=>have:=List.sizeOf_lt_of_mem h;simp only[aE.Args]at this;simp only[aE.mk.sizeOf_spec];omega
end
section
theorem aKE(e:aE)(h:cE e):Sp (G80 e) (fun _=>True):=by
 refine fX (C:=fun (a:aE) (x:Option (Int))=>Con Proofs.Tryz.prog 52 [.t (aL a)] x (fun (y:Int)=>.t (.int .i64 (y)))) (fun a=>⟨bL Proofs.Tryz.func52 (by kernel_rfl),fun _ h=>nomatch h⟩) (fun rec a=>T80 rec a) (fun rec a=>Qt rec a)
  cE (fun e=>SizeOf.sizeOf e) (fun _ _=>True) (fun b f e he hrec=>?_) true e h
 cases he with
 | mk hs hl hA=>
 unfold T80;simp only[Tr.den,iH];refine dO (fun s:Int×Int=>s.2) e.Args.length (by omega) (fun _=>True) (fun s k _ hk hkN=>?_) trivial rfl;obtain⟨v1,v2⟩:=s;simp only at hk;subst hk;unfold nI;simp only[Tr.den,aJ];by_cases hc:k<e.Args.length
 ·rw[aA (bS (by omega)),aA (by omega)];refine Sq.bind _ (hrec _ (hA k hc) (dR (aQ hc))) fun r _=>aD.2 ⟨rfl,hc,trivial⟩
 ·rw[aF (bQ (by omega))];exact aD.2 (aD.2 trivial)
end
section
theorem eU.bnd{e:aE}(h:eU e):cE e:=by
 induction h with
 | mk0 ha hb hs hn hl ih=>exact .mk hs hn (fun i hi=>ih _ (aQ hi))
end
section
theorem Uu(fs:List aS)(e:aE)(hl:okL 104 uA fs)(h:eU e):Sp (G81 fs e) (fun _=>True):=by
 have hl1:=hl.1;unfold G81 T81;simp only[Tr.den,iH];refine jV (fun s:List Int×Int=>s.2) fs.length (by omega) (fun s=>s.1.length=s.2.toNat) (fun s k hI hk hkN=>?_) rfl rfl;obtain⟨v1,v2⟩:=s;simp only at hk hI;subst hk;simp only[aJ]at hI;unfold aIY;simp only[Tr.den,aJ];by_cases hc:k<fs.length
 ·rw[aA (bS (by omega)),aA (by omega)];refine Sq.bind _ (Sq.of (Tc v1 _ (by omega) (hl.2 _ (aQ hc)).2.2.2)) fun r _=>?_;rw[aA (by simp only[qZ,nT]; omega)];refine aD.2 ⟨rfl,hc,?_⟩;simp only;rw[bO (by omega)]; simp; omega
 ·rw[aF (bQ (by omega))];refine aD.2 ?_;simp only[sel,iH];exact(Sq.of (Tc v1 e (by omega) h)).imp fun _ _=>aD.2 trivial
theorem aMK(fs:List aS)(n:aC)(hl:okL 104 uA fs)(h:yK n):Sp (G33 fs n) (fun r=>r=true->n.Key.length<=20/\n.Seq.length<=8):=by
 obtain⟨_,_,_,_,hE,_,_,_,_,_,_,_,_,_,hS,_⟩:=h;have hE1:=hE.1;have hS1:=hS.1;have hl1:=hl.1;unfold G33 T33;simp only[Tr.den,iH];refine jV (fun s:Int=>s) fs.length (by omega) (fun _=>True) (fun s k _ hk hkN=>?_) trivial rfl;subst hk;unfold aFD;simp only[Tr.den,aJ,uR,aK];by_cases hc:((k:Int)<(fs.length:Int))/\(k:Int)<6
 ·rw[aA (bS hc),aA (by omega)];refine Sq.bind _ (Ow _ (hl.2 _ (aQ (show k<fs.length by omega))).2.2.2) fun r _=>?_;refine Sq.bind (fun _=>True) ?_ (fun j _=>?_)
  ·by_cases h1:r>100
   ·rw[aA (bS h1)]; exact aD.2 trivial
   ·rw[aF (bQ h1),aA (by omega)]; exact aD.2 trivial
  ·cases j with
   | true=>exact aD.2 (aD.2 fun h=>by cases h)
   | false=>exact aD.2 ⟨rfl,by omega,trivial⟩
 ·rw[aF (bQ hc)];refine aD.2 ?_;simp only[sel,iH];refine jV (fun s:Int=>s) n.Exprs.length (by omega) (fun _=>True) (fun s k _ hk hkN=>?_) trivial rfl;subst hk;unfold aFP;simp only[Tr.den,aJ,uR,aK];by_cases hc:((k:Int)<(n.Exprs.length:Int))/\(k:Int)<13
  ·rw[aA (bS hc),aA (by omega)];have he:=okEs.get hE (show k<n.Exprs.length by omega);refine Sq.bind _ (Sq.of (Ow _ he)) fun r _=>?_;refine Sq.bind (fun _=>True) ?_ (fun j _=>?_)
   ·by_cases h1:r>200
    ·rw[aA (bS h1)]; exact aD.2 trivial
    ·rw[aF (bQ h1),aA (by omega)];refine Sq.bind _ (Sq.of (aDW _ he)) fun r _=>?_;by_cases h2:r>12
     ·rw[aA (bS h2)]; exact aD.2 trivial
     ·rw[aF (bQ h2),aA (by omega)];refine Sq.bind _ (Sq.of (Uu fs _ hl he)) fun r _=>aD.2 trivial
   ·cases j with
    | true=>exact aD.2 (aD.2 fun h=>by cases h)
    | false=>exact aD.2 ⟨rfl,by omega,trivial⟩
  ·rw[aF (bQ hc)];refine aD.2 ?_;simp only[sel,iH];refine jV (fun s:Int=>s) n.Seq.length (by omega) (fun _=>True) (fun s k _ hk hkN=>?_) trivial rfl;subst hk;unfold aGY;simp only[Tr.den,aJ,uR,aK];by_cases hc:((k:Int)<(n.Seq.length:Int))/\(k:Int)<9
   ·rw[aA (bS hc),aA (by omega)];have he:=(hS.2 _ (aQ (show k<n.Seq.length by omega))).1;refine Sq.bind _ (Sq.of (Ow _ he)) fun r _=>?_;refine Sq.bind (fun _=>True) ?_ (fun j _=>?_)
    ·by_cases h1:r>200
     ·rw[aA (bS h1)]; exact aD.2 trivial
     ·rw[aF (bQ h1),aA (by omega)];refine Sq.bind _ (Sq.of (aDW _ he)) fun r _=>?_;by_cases h2:r>12
      ·rw[aA (bS h2)]; exact aD.2 trivial
      ·rw[aF (bQ h2),aA (by omega)];refine Sq.bind _ (Sq.of (Uu fs _ hl he)) fun r _=>aD.2 trivial
    ·cases j with
     | true=>exact aD.2 (aD.2 fun h=>by cases h)
     | false=>exact aD.2 ⟨rfl,by omega,trivial⟩
   ·rw[aF (bQ hc)];refine aD.2 ?_;simp only[sel];exact aD.2 fun h=>by have:=wI h; omega
end
section
theorem aZY{a b:ByteArray}(h:(a.toList==b.toList)=true):bl a=bl b:=by have h:=qM.1 h;rw[ByteArray.toList_eq,ByteArray.toList_eq]at h;exact h
end
section
end
section
section
variable {α β:Type} {b:Bool}
end
def Fj{A B:Type}[Inhabited A][Inhabited B](p:A->B->Bool)(l:List A)(r:List B):Bool:=decide (l.length=r.length)&&(List.range l.length).all fun i=>p (l.getD i default) (r.getD i default)
theorem vI{A B:Type}[Inhabited A][Inhabited B]{p:A->B->Bool}{l:List A}{r:List B}:Fj p l r=true↔l.length=r.length/\∀ i,i<l.length->p (l.getD i default) (r.getD i default)=true:=by unfold Fj;simp only[cP,pQ,dQ,sF]
end
section
theorem aE.eta(e:aE):aE.mk e.Op e.N e.S e.Args=e:=by cases e; rfl
def aE.zero:aE:=.mk 0 0 ⟨#[]⟩ []
theorem cE.get{e:aE}(h:cE e):e.S.size<=1048576/\e.Args.length<=1048576/\∀ i,i<e.Args.length->cE (e.Args.getD i default):=by cases h with | mk a b c=>exact⟨a,b,c⟩
theorem cE.mem{e x:aE}(h:cE e)(hx:x∈e.Args):cE x:=by
 obtain⟨i,hi,rfl⟩:=Bc hx;have:=h.get.2.2 i hi
 rwa [eJ hi]at this
theorem cE.of{e:aE}(hs:e.S.size<=1048576)(hl:e.Args.length<=1048576)(hA:∀ x,x∈e.Args->cE x):cE e:=.mk hs hl fun _i hi=>hA _ (aQ hi)
theorem cE.ind{M:aE->Prop}(h:∀ e,cE e->(∀ x,x∈e.Args->cE x/\M x)->M e){e:aE}(he:cE e):M e:=by
 induction he with
 | @mk e hs hl hA ih=>refine h e (.mk hs hl hA) fun x hx=>?_;obtain⟨i,hi,rfl⟩:=Bc hx;have h1:=ih i hi;have h2:=hA i hi;rw[eJ hi]at h1 h2;exact⟨h2,h1⟩
theorem Yv{A B:Type}[Inhabited A]{f:A->Option B}{l:List A}{k:Nat}(h:k<l.length)(hf:f (l.getD k default)=none):l.mapM f=none:=by
 have e:l=l.take k++l.getD k default::l.drop (k+1):=by rw[<-Xa h,Ah]
 rw[e,List.mapM_append,sK,hf];cases List.mapM f (l.take k) <;> rfl
theorem aBV{A B:Type}[Inhabited A]{f:A->Option B}{l:List A}{k:Nat}(h:k<l.length){acc:List B}{y:B}(h1:(l.take k).mapM f=some acc)(h2:f (l.getD k default)=some y):(l.take (k+1)).mapM f=some (acc++[y]):=by rw[dU h,List.mapM_append,h1,sK,h2];rfl
theorem tS{A B:Type}{f:A->Option B}:∀ {l:List A} {r:List B},l.mapM f=some r->r.length=l.length/\∀ y,y∈r->∃ x,x∈l/\f x=some y
 | [],r,h=>by simp at h; subst h; simp
 | x::l,r,h=>by
  rw[sK]at h;simp only[Option.bind_eq_bind,oN]at h;obtain⟨y,hy,ys,hys,hr⟩:=h;simp at hr; subst hr;obtain⟨h1,h2⟩:=tS hys;refine⟨by simp[h1],fun z hz=>?_⟩;rcases aX.1 hz with rfl | hz
  ·exact⟨x,by simp,hy⟩
  ·obtain⟨x',h3,h4⟩:=h2 z hz; exact⟨x',cV _ h3,h4⟩
def bCC{B R:Type}(r:R)(x:Option (List B)):List B⊕R:=match x with | some ys=>.inl ys | none=>.inr r
theorem aMN{A B R:Type}[Inhabited A]{b:Bool}(l:List A){bd:List B×Int->Option ((List B×Int)⊕(List B⊕R))}(f:A->Option B)(r:R)(hN:l.length<=1000000000000)
  (h:∀ (acc:List B) (k:Nat),k<l.length->acc.length=k->Sq b (bd (acc,(k:Int))) (fun z=>z=match f (l.getD k default) with | some y=>.inl (acc++[y],IntKind.i64.wrap ((k:Int)+1)) | none=>.inr (.inr r)))
  (hf:∀ acc:List B,acc.length=l.length->Sq b (bd (acc,(l.length:Int))) (fun z=>z = .inr (.inl acc))):Sq b (cB bd ([],0)) (fun z=>z=bCC r (l.mapM f)):=by
 refine dO (fun s=>s.2) l.length (by omega) (fun s=>(l.take s.2.toNat).mapM f=some s.1) (fun s k hI hk hkN=>?_) rfl rfl;obtain⟨acc,v⟩:=s;simp only at hk hI;subst hk;simp only[aJ]at hI;have hal:acc.length=k:=by rw[(tS hI).1,dM]; omega
 by_cases hc:k<l.length
 ·refine(h acc k hc hal).imp fun z hz=>?_;subst hz;cases hx:f (l.getD k default) with
  | none=>simp only[sel]; rw[Yv hc hx]; rfl
  | some y=>simp only[sel];refine⟨trivial,hc,?_⟩;rw[bO (by omega),aJ];exact aBV hc hI hx
 ·have:k=l.length:=by omega
  subst this;refine(hf acc hal).imp fun z hz=>?_;subst hz;simp only[sel];rw[fS (fK _)]at hI;rw[hI]; rfl
theorem aKY(b:Bool)(e:aE)(h:cE e):Sq b (aXL e) (fun y=>y=e):=by
 unfold aXL aYG;refine fX _ _ _ cE (fun e=>SizeOf.sizeOf e) (fun e y=>y=e) (fun b f e he hrec=>?_) b e h;obtain⟨hs,hl,hA⟩:=he.get;unfold aPA;simp only[Tr.den];refine iH.2 ((dO (fun s=>s.2) e.Args.length (by omega) (fun s=>s.1=e.Args.take s.2.toNat) (fun s k hI hk hkN=>?_) rfl rfl:Sq b _ (fun z:List aE⊕aE=>z = .inl e.Args)).imp fun z hz=>?_)
 ·obtain⟨v1,v2⟩:=s;simp only at hk hI;subst hk;simp only[aJ]at hI;subst hI;unfold Vv;simp only[Tr.den,aJ];by_cases hc:k<e.Args.length
  ·rw[aA (bS (by omega)),aA (by omega)];refine Sq.bind _ (hrec _ (hA k hc) (dR (aQ hc))) fun r hr=>?_;subst hr;rw[aA (by rw[dM]; omega)];refine aD.2 ⟨rfl,hc,?_⟩;simp only;rw[bO (by omega),aJ,dU hc]
  ·rw[aF (bQ (by omega))];refine aD.2 ?_;simp only[sel];rw[fS (by omega)]
 ·subst hz;exact aD.2 (aE.eta e)
def lQ(op:Int)(l:List aE):aE->Option aE
 | .mk o n s xs=>match o==op with
  | true=>match decide (n<0) || decide (n>=(l.length:Int)) with
   | true=>none
   | false=>some (l.getD n.toNat default)
  | false=>(go xs).map (aE.mk o n s)
where go:List aE->Option (List aE)
 | []=>some []
 | x::xs=>match lQ op l x with
  | none=>none
  | some y=>(go xs).map (y::·)
theorem Te(op:Int)(l:List aE):∀ xs,lQ.go op l xs=xs.mapM (lQ op l)
 | []=>rfl
 | x::xs=>by simp only[lQ.go,sK,Te op l xs];cases lQ op l x <;> simp <;> cases List.mapM (lQ op l) xs <;> rfl
theorem tP(op:Int)(l:List aE)(e:aE):lQ op l e=match e.Op==op with
  | true=>match decide (e.N<0) || decide (e.N>=(l.length:Int)) with
   | true=>none
   | false=>some (l.getD e.N.toNat default)
  | false=>(e.Args.mapM (lQ op l)).map (aE.mk e.Op e.N e.S):=by
 cases e with | mk a b s xs=>simp only[lQ,aE.Op,aE.N,aE.S,aE.Args,Te]; rfl
theorem Ki{op:Int}{l:List aE}(hl:∀ x,x∈l->cE x){e:aE}(h:cE e):∀ r,lQ op l e=some r->cE r:=by
 refine cE.ind (M:=fun e=>∀ r,lQ op l e=some r->cE r) (fun e he ih r hr=>?_) h;rw[tP]at hr;split at hr
 ·split at hr
  ·cases hr
  ·rename_i h2;cases hr;simp only[Bool.or_eq_false_iff,decide_eq_false_iff_not]at h2;exact hl _ (aQ (by omega))
 ·simp only[gB]at hr;obtain⟨ys,hys,rfl⟩:=hr;obtain⟨h1,h2⟩:=tS hys;refine .of he.get.1 (by show ys.length<=_; rw[h1]; exact he.get.2.1) (fun y hy=>?_);obtain⟨x,hx,hxy⟩:=h2 y hy;exact(ih x hx).2 y hxy
def ofM(x:Option aE):aE×Bool:=match x with | some e=>(e,true) | none=>(.zero,false)
theorem aMP(b:Bool)(e:aE)(op:Int)(l:List aE)(h:cE e)(hl:∀ x,x∈l->cE x):Sq b (aOP e op l) (fun y=>y=ofM (lQ op l e)):=by
 unfold aOP aVI;refine fX _ _ _ (fun a=>cE a.1/\∀ x,x∈a.2.2->cE x) (fun a=>SizeOf.sizeOf a.1) (fun a y=>y=ofM (lQ a.2.1 a.2.2 a.1)) (fun b f a ha hrec=>?_) b (e,op,l) ⟨h,hl⟩;clear h hl e op l;obtain⟨e,op,l⟩:=a;obtain⟨he,hl⟩:=ha;simp only at he hl hrec;obtain⟨hs,hlen,hA⟩:=he.get;have hr:∀ i,i<e.Args.length->Sq b (f.1 (e.Args.getD i default,op,l)) (fun y=>y=ofM (lQ op l (e.Args.getD i default))):=fun i hi=>hrec (_,op,l) ⟨hA i hi,hl⟩ (dR (aQ hi));unfold aON;simp only[Tr.den];rw[tP];cases ho:(e.Op==op) with
 | true=>
  simp only[bU];by_cases h1:e.N<0
  ·simp only[h1,decide_true,bU,aK,Bool.true_or];exact aD.2 rfl
  ·by_cases h2:e.N>=(l.length:Int)
   ·simp only[h1,h2,decide_false,decide_true,cK,bY,bU,aK,Bool.or_true];exact aD.2 rfl
   ·simp only[h1,h2,decide_false,Bool.or_false,cK,bY,aK];rw[aA (by constructor <;> omega)];exact Sq.bind _ (aKY b _ (hl _ (aQ (by omega)))) fun r hr=>aD.2 (by rw[hr]; rfl)
 | false=>
  simp only[cK,bY];refine Sq.bind _ (aMN e.Args (lQ op l) (aE.zero,false) (by omega) (fun acc k hk hal=>?_) (fun acc hal=>?_)) fun z hz=>?_
  ·unfold Fb;simp only[Tr.den,aJ];rw[aA (bS (by omega)),aA (by omega)];refine Sq.bind _ (hr k hk) fun r hr=>?_;subst hr;cases lQ op l (e.Args.getD k default) with
   | none=>exact aD.2 rfl
   | some y=>simp only[ofM,iP,cK,bY];rw[aA (by simp only[nO]; omega)];exact aD.2 rfl
  ·unfold Fb;simp only[Tr.den];rw[aF (bQ (by omega))];exact aD.2 rfl
  ·subst hz;cases e.Args.mapM (lQ op l) with
   | none=>exact aD.2 rfl
   | some ys=>exact aD.2 rfl
end
section
theorem aNU(e:aE):aMC e=G80 e:=by
 unfold aMC aUT G80 H80;refine sR _ _ _ _ _ _ (fun f g hfg a=>?_) _;have:∀ s,(Fi f a s).den=(nI g a s).den:=fun s=>by obtain⟨v1,v2⟩:=s;unfold Fi nI;simp only[Tr.den,hfg]
 unfold aOF T80;simp only[Tr.den,this]
noncomputable def jW (e:aE):Int:=(G80 e).getD 0
theorem aXT(b:Bool){e:aE}(h:cE e):Sq b (G80 e) (fun y=>y=jW e):=by obtain⟨y,hy,_⟩:=(aKE e h).get;unfold jW;rw[hy]; exact aD.2 rfl
end
section
def eqR(t:Bool):Unit⊕Bool:=match t with | true=>.inl () | false=>.inr false
theorem Kd{A B:Type}[Inhabited A][Inhabited B]{b:Bool}{l:List A}{r:List B}{bd:Int->Option (Int⊕(Unit⊕Bool))}(p:A->B->Bool)(hN:l.length<=1000000000000)(hl:l.length=r.length)
  (h:∀ k:Nat,k<l.length->Sq b (bd (k:Int)) (fun z=>z=match p (l.getD k default) (r.getD k default) with | true=>.inl (IntKind.i64.wrap ((k:Int)+1)) | false=>.inr (.inr false)))
  (hf:Sq b (bd (l.length:Int)) (fun z=>z = .inr (.inl ()))):Sq b (cB bd 0) (fun z=>z=eqR (Fj p l r)):=by
 refine dO (fun s:Int=>s) l.length (by omega) (fun s=>∀ i:Nat,(i:Int)<s->p (l.getD i default) (r.getD i default)=true) (fun s k hI hk hkN=>?_) (fun i hi=>by omega) rfl;subst hk;by_cases hc:k<l.length
 ·refine(h k hc).imp fun z hz=>?_;subst hz;cases hx:p (l.getD k default) (r.getD k default) with
  | false=>
   simp only[sel];have:Fj p l r=false:=by
    cases ha:Fj p l r with
    | false=>rfl
    | true=>have:=(vI.1 ha).2 k hc;rw[hx]at this; cases this
   rw[this]; rfl
  | true=>
   simp only[sel];refine⟨trivial,hc,fun i hi=>?_⟩;rw[bO (by omega)]at hi;by_cases hik:i=k
   ·subst hik; exact hx
   ·exact hI i (by omega)
 ·have:k=l.length:=by omega
  subst this;refine hf.imp fun z hz=>?_;subst hz;simp only[sel];rw[vI.2 ⟨hl,fun i hi=>hI i (by omega)⟩]; rfl
theorem Xg{A B:Type}[Inhabited A][Inhabited B]{b:Bool}{l:List A}{r:List B}{bd:Int->Option (Int⊕(Unit⊕Bool))}(p:A->B->Bool)(hN:l.length<=1000000000000)
  (h:l.length=r.length->∀ k:Nat,k<l.length->Sq b (bd (k:Int)) (fun z=>z=match p (l.getD k default) (r.getD k default) with | true=>.inl (IntKind.i64.wrap ((k:Int)+1)) | false=>.inr (.inr false)))
  (hf:Sq b (bd (l.length:Int)) (fun z=>z = .inr (.inl ()))):
  Sq b (if ((l.length:Int) != (r.length:Int))=true then some false else (cB bd 0).bind (sel (fun _=>some true) some)) (fun z=>z=Fj p l r):=by
 by_cases hl:l.length=r.length
 ·rw[aF (by simp[hl])];refine Sq.bind _ (Kd p hN hl (h hl) hf) fun z hz=>?_;subst hz;cases Fj p l r <;> exact aD.2 rfl
 ·rw[aA (by simp; omega)];refine aD.2 ?_;unfold Fj;simp[hl]
theorem yU{a b:ByteArray}:(a.toList==b.toList)=true↔a=b:=by
 constructor
 ·intro h;exact aYS (aZY h)
 ·rintro rfl; simp
end
set_option linter.unusedVariables false
open Classical in
noncomputable def eqD {A:Type}(x y:A):Bool:=decide (x=y)
theorem eS{A:Type}{x y:A}:eqD x y=true↔x=y:=by simp[eqD]
theorem qT{A:Type}(x:A):eqD x x=true:=eS.2 rfl
theorem Hx{A:Type}[Inhabited A](l r:List A):Fj eqD l r=eqD l r:=by
 rw[kV,vI,eS];constructor
 ·rintro⟨h1,h2⟩; exact Jk h1 fun k hk=>eS.1 (h2 k hk)
 ·rintro rfl; exact⟨rfl,fun i _=>qT _⟩
theorem pJ(a b:ByteArray):(a.toList==b.toList)=eqD a b:=by rw[kV,yU,eS]
theorem jA(a b:Int):(a==b)=eqD a b:=by rw[kV,qM,eS]
theorem Bb{A:Type}{l r:List A}(h:¬ l.length=r.length):eqD l r=false:=by
 cases hx:eqD l r with
 | false=>rfl
 | true=>exact absurd (congrArg List.length (eS.1 hx)) h
theorem aSN{A:Type}[Inhabited A]{b:Bool}{l r:List A}{bd:Int->Option (Int⊕(Unit⊕Bool))}(hN:l.length<=1000000000000)(hl:l.length=r.length)
  (h:∀ k:Nat,k<l.length->Sq b (bd (k:Int)) (fun z=>z=match eqD (l.getD k default) (r.getD k default) with | true=>.inl (IntKind.i64.wrap ((k:Int)+1)) | false=>.inr (.inr false)))
  (hf:Sq b (bd (l.length:Int)) (fun z=>z = .inr (.inl ()))):Sq b (cB bd 0) (fun z=>z=eqR (eqD l r)):=by
 have:=Kd eqD hN hl h hf
 rwa [Hx]at this
theorem lR{A:Type}[Inhabited A]{b:Bool}{l r:List A}{bd:Int->Option (Int⊕(Unit⊕Bool))}(hN:l.length<=1000000000000)
  (h:l.length=r.length->∀ k:Nat,k<l.length->Sq b (bd (k:Int)) (fun z=>z=match eqD (l.getD k default) (r.getD k default) with | true=>.inl (IntKind.i64.wrap ((k:Int)+1)) | false=>.inr (.inr false)))
  (hf:Sq b (bd (l.length:Int)) (fun z=>z = .inr (.inl ()))):
  Sq b (if ((l.length:Int) != (r.length:Int))=true then some false else (cB bd 0).bind (sel (fun _=>some true) some)) (fun z=>z=eqD l r):=by
 have:=Xg eqD hN h hf
 rwa [Hx]at this
theorem vF{A:Type}{b:Bool}{x:Option Bool}{u v:A}{k:Int}(h:Sq b x (fun z=>z=eqD u v)):
  Sq b (x.bind fun r=>if (!r)=true then some (.inr (.inr false)) else some (.inl k):Option (Int⊕(Unit⊕Bool))) (fun z=>z=match eqD u v with | true=>.inl k | false=>.inr (.inr false)):=by
 refine Sq.bind _ h fun z hz=>?_;subst hz;cases eqD u v <;> exact aD.2 rfl
theorem Lk{A:Type}{b:Bool}{u v:A}{k:Int}(h:c=eqD u v):
  Sq b (if (!c)=true then some (.inr (.inr false)) else some (.inl k):Option (Int⊕(Unit⊕Bool))) (fun z=>z=match eqD u v with | true=>.inl k | false=>.inr (.inr false)):=by
 subst h;cases eqD u v <;> exact aD.2 rfl
theorem aCQ{b:Bool}{u v k:Int}:
  Sq b (if (u != v)=true then some (.inr (.inr false)) else some (.inl k):Option (Int⊕(Unit⊕Bool))) (fun z=>z=match eqD u v with | true=>.inl k | false=>.inr (.inr false)):=by
 have e:(u != v) = !(eqD u v):=by rw[<-jA]; rfl
 rw[e];cases eqD u v <;> exact aD.2 rfl
theorem So(a b:cF):((a.Kind==b.Kind)&&((a.Col==b.Col)&&((a.Name.toList==b.Name.toList)&&true)))=eqD a b:=by rw[jA,jA,pJ,kV,eS];simp only[cP,eS,and_true];cases a; cases b;simp
theorem Tt(a b:aT):((a.Name.toList==b.Name.toList)&&((a.Type_==b.Type_)&&((a.Unit.toList==b.Unit.toList)&&true)))=eqD a b:=by rw[jA,pJ,pJ,kV,eS];simp only[cP,eS,and_true];cases a; cases b;simp
theorem aQO(b:Bool)(l r:List Int)(hN:l.length<=1000000000000):Sq b (aOJ l r) (fun z=>z=eqD l r):=by
 unfold aOJ aVG;simp only[Tr.den];refine lR hN (fun hl k hk=>?_) ?_
 ·unfold Fu;simp only[Tr.den,aJ];rw[aA (bS (by omega)),aA (by omega),aA (by omega)];exact aCQ
 ·unfold Fu;simp only[Tr.den];rw[aF (bQ (by omega))];exact aD.2 rfl
theorem aPJ(b:Bool)(l r:List cF)(hN:l.length<=1000000000000):Sq b (aJW l r) (fun z=>z=eqD l r):=by
 unfold aJW aXZ;simp only[Tr.den];refine lR hN (fun hl k hk=>?_) ?_
 ·unfold Gw;simp only[Tr.den,aJ];rw[aA (bS (by omega)),aA (by omega),aA (by omega)];exact Lk (So _ _)
 ·unfold Gw;simp only[Tr.den];rw[aF (bQ (by omega))];exact aD.2 rfl
theorem oW{d:Bool}:(if c=true then some d else some false)=some (c&&d):=by cases c <;> rfl
theorem Hc{d:Bool}:(if c=true then some true else some d)=some (c || d):=by cases c <;> rfl
theorem aKA(b:Bool)(l r:List Int)(hN:l.length<=1000000000000):Sq b (aFC l r) (fun z=>z=eqD l r):=by
 unfold aFC aTD;simp only[Tr.den];refine lR hN (fun hl k hk=>?_) ?_
 ·unfold Ez;simp only[Tr.den,aJ];rw[aA (bS (by omega)),aA (by omega),aA (by omega)];exact aCQ
 ·unfold Ez;simp only[Tr.den];rw[aF (bQ (by omega))];exact aD.2 rfl
theorem aOQ(b:Bool)(l r:List aT)(hN:l.length<=1000000000000):Sq b (aLW l r) (fun z=>z=eqD l r):=by
 unfold aLW aSU;simp only[Tr.den];refine lR hN (fun hl k hk=>?_) ?_
 ·unfold Ha;simp only[Tr.den,aJ];rw[aA (bS (by omega)),aA (by omega),aA (by omega)];exact Lk (Tt _ _)
 ·unfold Ha;simp only[Tr.den];rw[aF (bQ (by omega))];exact aD.2 rfl
theorem aOK(b:Bool)(l r:List aT)(hN:l.length<=1000000000000):Sq b (aOO l r) (fun z=>z=eqD l r):=by
 unfold aOO aYX;simp only[Tr.den];refine lR hN (fun hl k hk=>?_) ?_
 ·unfold Gx;simp only[Tr.den,aJ];rw[aA (bS (by omega)),aA (by omega),aA (by omega)];exact Lk (Tt _ _)
 ·unfold Gx;simp only[Tr.den];rw[aF (bQ (by omega))];exact aD.2 rfl
theorem Ch(b:Bool)(f:Rb)(l r:List aE)(hN:l.length<=1000000000000)(h:∀ x,x∈l->∀ y,Sq b (f.1 (x,y)) (fun z=>z=eqD x y)):Sq b (Ek f l r) (fun z=>z=eqD l r):=by
 unfold Ek Lq;simp only[Tr.den];refine lR hN (fun hl k hk=>?_) ?_
 ·unfold vH;simp only[Tr.den,aJ];rw[aA (bS (by omega)),aA (by omega),aA (by omega)];exact vF (h _ (aQ hk) _)
 ·unfold vH;simp only[Tr.den];rw[aF (bQ (by omega))];exact aD.2 rfl
theorem Kl(e e':aE):eqD e e'=(e.Op==e'.Op&&(e.N==e'.N&&((e.S:ByteArray).toList==(e'.S:ByteArray).toList&&eqD e.Args e'.Args))):=by
 rw[jA,jA,pJ,kV];simp only[cP,eS];constructor
 ·rintro rfl; exact⟨rfl,rfl,rfl,rfl⟩
 ·rintro⟨h1,h2,h3,h4⟩;rw[<-aE.eta e,<-aE.eta e',h1,h2,h3,h4]
theorem Vl(b:Bool)(a:aE×aE)(h:cE a.1):Sq b (aLC a) (fun y=>y=eqD a.1 a.2):=by
 unfold aLC;refine fX _ _ _ (fun a=>cE a.1) (fun a=>SizeOf.sizeOf a.1) (fun a y=>y=eqD a.1 a.2) (fun b f a ha hrec=>?_) b a h;obtain⟨e,e'⟩:=a;simp only at ha hrec;obtain⟨hs,hl,hA⟩:=ha.get;have hin:=(Ch b f e.Args e'.Args (by omega) fun x hx y=>hrec (x,y) (ha.mem hx) (dR hx));unfold aNA;simp only[Tr.den];rw[Kl];generalize (e.Op==e'.Op)=c1;generalize (e.N==e'.N)=c2;generalize ((e.S:ByteArray).toList==(e'.S:ByteArray).toList)=c3;refine Sq.bind (fun z=>z=(c1&&(c2&&(c3&&eqD e.Args e'.Args)))) ?_ fun z hz=>aD.2 hz;cases c1
 ·exact aD.2 rfl
 cases c2
 ·exact aD.2 rfl
 cases c3
 ·exact aD.2 rfl
 exact Sq.bind _ hin fun z hz=>aD.2 (by rw[hz]; rfl)
theorem aQR(b:Bool)(e e':aE)(h:cE e):Sq b (aSF e e') (fun y=>y=eqD e e'):=Vl b (e,e') h
theorem aMM(b:Bool)(e e':aE)(h:cE e):Sq b (aLY e e') (fun y=>y=eqD e e'):=by
 unfold aLY aXJ;refine fX _ _ _ (fun a=>cE a.1) (fun a=>SizeOf.sizeOf a.1) (fun a y=>y=eqD a.1 a.2) (fun b f a ha hrec=>?_) b (e,e') h;clear h e e';obtain⟨e,e'⟩:=a;simp only at ha hrec;obtain⟨hs,hl,hA⟩:=ha.get;unfold aPG;simp only[Tr.den];rw[Kl];have n1:(e.Op != e'.Op) = !(e.Op==e'.Op):=rfl;have n2:(e.N != e'.N) = !(e.N==e'.N):=rfl;rw[n1,n2];generalize (e.Op==e'.Op)=c1;generalize (e.N==e'.N)=c2;generalize ((e.S:ByteArray).toList==(e'.S:ByteArray).toList)=c3;refine Sq.bind (fun z=>z=(!c1 || (!c2 || (!c3 || ((e.Args.length:Int) != (e'.Args.length:Int)))))) ?_ fun z hz=>?_
 ·simp only[Hc]; exact aD.2 rfl
 subst hz;cases c1
 ·exact aD.2 rfl
 cases c2
 ·exact aD.2 rfl
 cases c3
 ·exact aD.2 rfl
 simp only[iP,Bool.false_or,Ec];refine lR (by omega) (fun hl k hk=>?_) ?_
 ·unfold Ej;simp only[Tr.den,aJ];rw[aA (bS (by omega)),aA (by omega),aA (by omega)];exact vF (hrec (_,_) (ha.mem (aQ hk)) (dR (aQ hk)))
 ·unfold Ej;simp only[Tr.den];rw[aF (bQ (by omega))];exact aD.2 rfl
theorem Fg{l:List Int}(h:l.length<=1000000000000):aOJ l r=some (eqD l r):=Sp.eq (aQO true l r h)
theorem aYC{l r:List aT}(h:l.length<=1000000000000):aOO l r=some (eqD l r):=Sp.eq (aOK true l r h)
theorem lG{l:List Int}(h:l.length<=1000000000000):aFC l r=some (eqD l r):=Sp.eq (aKA true l r h)
theorem aEW{l r:List cF}(h:l.length<=1000000000000):aJW l r=some (eqD l r):=Sp.eq (aPJ true l r h)
theorem aEY{l r:List aT}(h:l.length<=1000000000000):aLW l r=some (eqD l r):=Sp.eq (aOQ true l r h)
theorem Rn{e e':aE}(h:cE e):aSF e e'=some (eqD e e'):=Sp.eq (aQR true e e' h)
theorem Ll{e e':aE}(h:cE e):aLY e e'=some (eqD e e'):=Sp.eq (aMM true e e' h)
theorem aDB{l r:List aE}(h:l.length<=1000000000000)(hl:∀ x,x∈l->cE x):Ek ⟨_,uV⟩ l r=some (eqD l r):=Sp.eq (Ch true ⟨_,uV⟩ l r h fun x hx y=>Vl true (x,y) (hl x hx))
structure BF (f:aS):Prop where
 b:cE f.Body
 p:f.Params.length<=1000000000
structure BN (n:aC):Prop where
 i:n.In.length<=1000000000
 e:n.Exprs.length<=1000000000
 eB:∀ x,x∈n.Exprs->cE x
 k:n.Key.length<=1000000000
 k2:n.Key2.length<=1000000000
 a:n.Aggs.length<=1000000000
 s:n.Seq.length<=1000000000
 sB:∀ x,x∈n.Seq->cE x.Pred
 c:n.Cols.length<=1000000000
structure BP (p:aB):Prop where
 f:p.Funcs.length<=1000000000
 fB:∀ x,x∈p.Funcs->BF x
 n:p.Nodes.length<=1000000000
 nB:∀ x,x∈p.Nodes->BN x
theorem Hz(f g:aS):eqD f g=(eqD f.Name g.Name&&(eqD f.Result g.Result&&(eqD f.Params g.Params&&eqD f.Body g.Body))):=by rw[kV];simp only[cP,eS];cases f; cases g;simp;grind
theorem Gd(f g:cC):eqD f g=(eqD f.Rep g.Rep&&eqD f.Pred g.Pred):=by rw[kV];simp only[cP,eS];cases f; cases g;simp;grind
theorem aYN{f g:aS}(h:BF f):aSC f g=some (eqD f g):=by unfold aSC aWU;simp only[Tr.den,lG (gV h.p (by omega)),Rn h.b,aK,oW,pJ,jA,Hz]
theorem aXB{f g:cC}(h:cE f.Pred):aTE f g=some (eqD f g):=by unfold aTE aUO;simp only[Tr.den,Rn h,aK,oW,jA,Gd]
theorem aVO{f g:cC}(h:cE f.Pred):aVL f g=some (eqD f g):=by unfold aVL aZH;simp only[Tr.den,Rn h,aK,oW,jA,Gd]
theorem aBI(b:Bool)(l r:List aS)(hN:l.length<=1000000000000)(hl1:∀ x,x∈l->BF x):Sq b (Ho l r) (fun z=>z=eqD l r):=by
 unfold Ho Nt;simp only[Tr.den];refine lR hN (fun hl k hk=>?_) ?_
 ·unfold vO;simp only[Tr.den,aJ];rw[aA (bS (by omega)),aA (by omega),aA (by omega)];exact vF (.of_eq (aYN (hl1 _ (aQ hk))) rfl)
 ·unfold vO;simp only[Tr.den];rw[aF (bQ (by omega))];exact aD.2 rfl
theorem aAW(b:Bool)(l r:List cC)(hN:l.length<=1000000000000)(hl1:∀ x,x∈l->cE x.Pred):Sq b (Gt l r) (fun z=>z=eqD l r):=by
 unfold Gt Rx;simp only[Tr.den];refine lR hN (fun hl k hk=>?_) ?_
 ·unfold vK;simp only[Tr.den,aJ];rw[aA (bS (by omega)),aA (by omega),aA (by omega)];exact vF (.of_eq (aXB (hl1 _ (aQ hk))) rfl)
 ·unfold vK;simp only[Tr.den];rw[aF (bQ (by omega))];exact aD.2 rfl
theorem Wq(b:Bool)(l r:List cC)(hN:l.length<=1000000000000)(hl1:∀ x,x∈l->cE x.Pred):Sq b (Hg l r) (fun z=>z=eqD l r):=by
 unfold Hg Ph;simp only[Tr.den];refine lR hN (fun hl k hk=>?_) ?_
 ·unfold xC;simp only[Tr.den,aJ];rw[aA (bS (by omega)),aA (by omega),aA (by omega)];exact vF (.of_eq (aVO (hl1 _ (aQ hk))) rfl)
 ·unfold xC;simp only[Tr.den];rw[aF (bQ (by omega))];exact aD.2 rfl
theorem aDI{l r:List cC}(h:l.length<=1000000000000)(hB:∀ x,x∈l->cE x.Pred):Gt l r=some (eqD l r):=Sp.eq (aAW true l r h hB)
theorem aGB{l r:List cC}(h:l.length<=1000000000000)(hB:∀ x,x∈l->cE x.Pred):Hg l r=some (eqD l r):=Sp.eq (Wq true l r h hB)
theorem aIA{l r:List aS}(h:l.length<=1000000000000)(hB:∀ x,x∈l->BF x):Ho l r=some (eqD l r):=Sp.eq (aBI true l r h hB)
theorem Iq(a b:aC):eqD a b=(eqD [a.Op,a.Schema,a.Kind,a.Size,a.Step,a.Before,a.After,a.Keep] [b.Op,b.Schema,b.Kind,b.Size,b.Step,b.Before,b.After,b.Keep] &&
  ((eqD a.In b.In&&(eqD a.Key b.Key&&(eqD a.Key2 b.Key2&&(eqD a.Aggs b.Aggs&&eqD a.Cols b.Cols))))&&(eqD a.Seq b.Seq&&(eqD a.Source b.Source&&eqD a.Exprs b.Exprs)))):=by
 rw[kV];simp only[cP,eS];cases a; cases b;simp;grind
theorem aGX(a b:List Int):(a==b)=eqD a b:=by rw[kV,qM,eS]
theorem Mu{a b:aC}(h:BN a):aDG a b=some (eqD a b):=by
 have h1:=h.i; have h2:=h.k; have h3:=h.k2; have h4:=h.a; have h5:=h.c; have h6:=h.s; have h7:=h.e;unfold aDG aSB;simp only[Tr.den,lG (show a.In.length<=_ by omega),lG (show a.Key.length<=_ by omega),lG (show a.Key2.length<=_ by omega),aEW (show a.Aggs.length<=_ by omega),aEY (show a.Cols.length<=_ by omega),
  aDI (show a.Seq.length<=_ by omega) h.sB,aDB (show a.Exprs.length<=_ by omega) h.eB,aK,oW,pJ,aGX,Iq]
theorem aJK{a b:aC}(h:BN a):aEH a b=some (eqD a b):=by
 have h1:=h.i; have h2:=h.k; have h3:=h.k2; have h4:=h.a; have h5:=h.c; have h6:=h.s; have h7:=h.e;unfold aEH aUZ bAQ aTF aZT aSK;simp only[Tr.den,lG (show a.In.length<=_ by omega),lG (show a.Key.length<=_ by omega),lG (show a.Key2.length<=_ by omega),aEW (show a.Aggs.length<=_ by omega),aEY (show a.Cols.length<=_ by omega),
  aGB (show a.Seq.length<=_ by omega) h.sB,aDB (show a.Exprs.length<=_ by omega) h.eB,aK,oW,pJ,aGX,Iq]
 generalize eqD [a.Op,a.Schema,a.Kind,a.Size,a.Step,a.Before,a.After,a.Keep] _=c1;generalize (eqD a.In b.In&&_)=c2;generalize eqD a.Seq b.Seq=c3;generalize eqD a.Source b.Source=c4;generalize eqD a.Exprs b.Exprs=c5;cases c1 <;> cases c2 <;> cases c3 <;> cases c4 <;> cases c5 <;> rfl
theorem aAE(b:Bool)(l r:List aC)(hN:l.length<=1000000000000)(hl1:∀ x,x∈l->BN x):Sq b (Fs l r) (fun z=>z=eqD l r):=by
 unfold Fs Oe;simp only[Tr.den];refine lR hN (fun hl k hk=>?_) ?_
 ·unfold wB;simp only[Tr.den,aJ];rw[aA (bS (by omega)),aA (by omega),aA (by omega)];exact vF (.of_eq (Mu (hl1 _ (aQ hk))) rfl)
 ·unfold wB;simp only[Tr.den];rw[aF (bQ (by omega))];exact aD.2 rfl
theorem aHJ{r:List aC}(h:l.length<=1000000000000)(hB:∀ x,x∈l->BN x):Fs l r=some (eqD l r):=Sp.eq (aAE true l r h hB)
theorem Ka(p q:aB):eqD p q=(eqD p.Funcs q.Funcs&&eqD p.Nodes q.Nodes):=by rw[kV];simp only[cP,eS];cases p; cases q;simp
theorem aVN{p q:aB}(h:BP p):aFE p q=some (eqD p q):=by have h1:=h.f; have h2:=h.n;unfold aFE aSJ;simp only[Tr.den,aIA (show p.Funcs.length<=_ by omega) h.fB,aHJ (show p.Nodes.length<=_ by omega) h.nB,aK,oW,Ka]
theorem Zk(a b:aC):eqD a b=((eqD a.Op b.Op&&(eqD a.Source b.Source&&(eqD a.Schema b.Schema&&(eqD a.Kind b.Kind&&(eqD a.Size b.Size&&(eqD a.Step b.Step&&(eqD a.Before b.Before&&(eqD a.After b.After&&eqD a.Keep b.Keep)))))))) &&
  (eqD a.In b.In&&(eqD a.Key b.Key&&(eqD a.Key2 b.Key2&&(eqD a.Cols b.Cols&&(eqD a.Exprs b.Exprs&&(eqD a.Aggs b.Aggs&&eqD a.Seq b.Seq))))))):=by
 rw[kV];simp only[cP,eS];cases a; cases b;simp;grind
theorem lpL{A:Type}[Inhabited A]{l r:List A}{bd:Int->Option (Int⊕(Unit⊕Bool))}(hN:l.length<=1000000000000)(hl:l.length=r.length)
  (h:∀ k:Nat,k<l.length->bd (k:Int)=some (match eqD (l.getD k default) (r.getD k default) with | true=>.inl (IntKind.i64.wrap ((k:Int)+1)) | false=>.inr (.inr false)))
  (hf:bd (l.length:Int)=some (.inr (.inl ()))):cB bd 0=some (eqR (eqD l r)):=
 Sp.eq (aSN (b:=true) hN hl (fun k hk=>.of_eq (h k hk) rfl) (.of_eq hf rfl))
theorem ltK{k n:Nat}(h:k<n):(decide ((k:Int)<(n:Int)))=true:=cY (by omega)
theorem aUG{a b:aC}(h:BN a):aSI a b=some (eqD a b):=by
 have h1:=h.i; have h2:=h.k; have h3:=h.k2; have h4:=h.a; have h5:=h.c; have h6:=h.s; have h7:=h.e;unfold aSI aZI;simp only[Tr.den,Fg (show a.In.length<=_ by omega),Fg (show a.Key.length<=_ by omega),Fg (show a.Key2.length<=_ by omega),aYC (show a.Cols.length<=_ by omega),aK,oW,Hc,pJ,jA];rw[Zk];generalize (eqD a.Op b.Op&&_)=c1;generalize eqD a.In b.In=c2;generalize eqD a.Key b.Key=c3;generalize eqD a.Key2 b.Key2=c4;generalize eqD a.Cols b.Cols=c5;cases c1
 ·rfl
 cases c2
 ·rfl
 cases c3
 ·rfl
 cases c4
 ·rfl
 cases c5
 ·rfl
 simp only[iP,Bool.false_or,Ec];by_cases e1:a.Exprs.length=b.Exprs.length
 case neg=>rw[Bb e1,aA (by simp; omega)]; rfl
 by_cases e2:a.Aggs.length=b.Aggs.length
 case neg=>rw[Bb e2,aA (by simp; omega)]; simp
 by_cases e3:a.Seq.length=b.Seq.length
 case neg=>rw[Bb e3,aA (by simp; omega)]; simp
 rw[aF (by simp; omega)];rw[lpL (l:=a.Exprs) (r:=b.Exprs) (by omega) e1 (fun k hk=>by
   unfold Hr;simp only[Tr.den,aJ,ltK hk,bU];rw[aA (by omega),aA (by omega),Ll (h.eB _ (aQ hk))];simp only[aK];cases eqD (a.Exprs.getD k default) (b.Exprs.getD k default) <;> rfl) (by
   unfold Hr;simp only[Tr.den];rw[aF (bQ (by omega))])]
 rw[lpL (l:=a.Aggs) (r:=b.Aggs) (by omega) e2 (fun k hk=>by
   unfold Hk;simp only[Tr.den,aJ,ltK hk,bU];rw[aA (by omega),aA (by omega)];simp only[So];cases eqD (a.Aggs.getD k default) (b.Aggs.getD k default) <;> rfl) (by
   unfold Hk;simp only[Tr.den];rw[aF (bQ (by omega))])]
 rw[lpL (l:=a.Seq) (r:=b.Seq) (by omega) e3 (fun k hk=>by
   unfold He;simp only[Tr.den,aJ,ltK hk,bU];rw[aA (by omega),aA (by omega),Ll (h.sB _ (aQ hk)),Gd];have e:((a.Seq.getD k default).Rep != (b.Seq.getD k default).Rep) = !(eqD (a.Seq.getD k default).Rep (b.Seq.getD k default).Rep):=by rw[<-jA]; rfl
   have i1:0<=(k:Int)/\(k:Int)<(a.Seq.length:Int):=by omega
   have i2:0<=(k:Int)/\(k:Int)<(b.Seq.length:Int):=by omega
   simp only[e,aK,aA i1,aA i2];cases eqD (a.Seq.getD k default).Rep (b.Seq.getD k default).Rep <;> cases eqD (a.Seq.getD k default).Pred (b.Seq.getD k default).Pred <;> rfl) (by
   unfold He;simp only[Tr.den];rw[aF (bQ (by omega))])]
 cases eqD a.Exprs b.Exprs <;> cases eqD a.Aggs b.Aggs <;> cases eqD a.Seq b.Seq <;> rfl
theorem aSL{p q:aB}(h:BP p):aUB p q=some (eqD p q):=by
 have h1:=h.f; have h2:=h.n;unfold aUB aYT;simp only[Tr.den,aK,Hc];rw[Ka];by_cases e1:p.Funcs.length=q.Funcs.length
 case neg=>rw[Bb e1,aA (by simp; omega)]; rfl
 by_cases e2:p.Nodes.length=q.Nodes.length
 case neg=>rw[Bb e2,aA (by simp; omega)]; simp
 rw[aF (by simp; omega)];rw[lpL (l:=p.Funcs) (r:=q.Funcs) (by omega) e1 (fun k hk=>by
   have hb:=h.fB _ (aQ hk);have hp:=hb.p;unfold Fh;simp only[Tr.den,aJ,ltK hk,bU];rw[aA (by omega),aA (by omega)];have e:((p.Funcs.getD k default).Result != (q.Funcs.getD k default).Result) = !(eqD (p.Funcs.getD k default).Result (q.Funcs.getD k default).Result):=by rw[<-jA]; rfl
   simp only[Fg (show (p.Funcs.getD k default).Params.length<=_ by omega),Ll hb.b,aK,Hc,pJ,e,Hz];cases eqD (p.Funcs.getD k default).Name (q.Funcs.getD k default).Name <;> cases eqD (p.Funcs.getD k default).Result (q.Funcs.getD k default).Result <;>
    cases eqD (p.Funcs.getD k default).Params (q.Funcs.getD k default).Params <;> cases eqD (p.Funcs.getD k default).Body (q.Funcs.getD k default).Body <;> rfl) (by
   unfold Fh;simp only[Tr.den];rw[aF (bQ (by omega))])]
 rw[lpL (l:=p.Nodes) (r:=q.Nodes) (by omega) e2 (fun k hk=>by
   unfold Ew;simp only[Tr.den,aJ,ltK hk,bU];rw[aA (by omega),aA (by omega),aUG (h.nB _ (aQ hk))];simp only[aK];cases eqD (p.Nodes.getD k default) (q.Nodes.getD k default) <;> rfl) (by
   unfold Ew;simp only[Tr.den];rw[aF (bQ (by omega))])]
 cases eqD p.Funcs q.Funcs <;> cases eqD p.Nodes q.Nodes <;> rfl
theorem aLF(e:aE):aKN e=G80 e:=by
 unfold aKN aVU G80 H80;refine sR _ _ _ _ _ _ (fun f g hfg a=>?_) _;have:∀ s,(Gq f a s).den=(nI g a s).den:=fun s=>by obtain⟨v1,v2⟩:=s;unfold Gq nI;simp only[Tr.den,hfg]
 unfold aMI T80;simp only[Tr.den,this]
theorem aKB(e:aE):aPV e=G80 e:=by
 unfold aPV aZB G80 H80;refine sR _ _ _ _ _ _ (fun f g hfg a=>?_) _;have:∀ s,(Fe f a s).den=(nI g a s).den:=fun s=>by obtain⟨v1,v2⟩:=s;unfold Fe nI;simp only[Tr.den,hfg]
 unfold aPI T80;simp only[Tr.den,this]
theorem aCP{e:aE}(h:cE e):G80 e=some (jW e):=Sp.eq (aXT true h)
theorem aTP{e:aE}(h:cE e):aKN e=some (jW e):=(aLF e).trans (aCP h)
theorem aTC{e:aE}(h:cE e):aPV e=some (jW e):=(aKB e).trans (aCP h)
theorem aHO{e:aE}(h:cE e):aMC e=some (jW e):=(aNU e).trans (aCP h)
inductive wfE (nf nc:Nat):aE->Prop
 | mk {e:aE} (h1:e.Op=21->3<=e.Args.length) (h2:e.Op=22->0<=e.N/\e.N<(nf:Int)) (h3:e.Op=3->0<=e.N/\e.N<(nc:Int)/\e.S=⟨#[]⟩/\e.Args=[]) (hA:∀ x,x∈e.Args->wfE nf nc x):wfE nf nc e
theorem wfE.get{nf nc:Nat}{e:aE}(h:wfE nf nc e):(e.Op=21->3<=e.Args.length)/\(e.Op=22->0<=e.N/\e.N<(nf:Int))/\(e.Op=3->0<=e.N/\e.N<(nc:Int)/\e.S=⟨#[]⟩/\e.Args=[])/\∀ x,x∈e.Args->wfE nf nc x:=by cases h with | mk a b c d=>exact⟨a,b,c,d⟩
def FW(fs:List aS):Prop:=∀ i,i<fs.length->wfE i 0 (fs.getD i default).Body/\cE (fs.getD i default).Body
theorem Nd(a b:Int):bBQ a b=some (if (1099511627776:Int)<IntKind.i64.wrap (a+b) then 1099511627776 else IntKind.i64.wrap (a+b)):=rfl
theorem Uj(bs:List Int)(nc:Nat)(e:aE)(h:cE e/\wfE bs.length nc e):Sp (aWA bs e) (fun _=>True):=by
 unfold aWA aTR;refine fX _ _ _ (fun a=>cE a.2/\wfE a.1.length nc a.2) (fun a=>SizeOf.sizeOf a.2) (fun _ _=>True) (fun b f a ha hrec=>?_) true (bs,e) h;clear h bs e;obtain⟨bs,e⟩:=a;obtain⟨he,hw⟩:=ha;simp only at he hw hrec;obtain⟨hs,hl,hA⟩:=he.get;obtain⟨w1,w2,w3,wA⟩:=hw.get;have hr:∀ i,i<e.Args.length->Sq b (f.1 (bs,e.Args.getD i default)) (fun _=>True):=fun i hi=>hrec (bs,_) ⟨hA i hi,wA _ (aQ hi)⟩ (dR (aQ hi));unfold aKH;simp only[Tr.den];refine Sq.bind (fun z=>∃ l:List Int,z = .inl l/\l.length=e.Args.length) ?_ fun z hz=>?_
 ·refine dO (fun s=>s.2) e.Args.length (by omega) (fun s=>s.1.length=s.2.toNat) (fun s k hI hk hkN=>?_) rfl rfl;obtain⟨acc,v⟩:=s;simp only at hk hI;subst hk;simp only[aJ]at hI;unfold Wi;simp only[Tr.den,aJ];by_cases hc:k<e.Args.length
  ·rw[aA (bS (by omega)),aA (by omega)];refine Sq.bind _ (hr k hc) fun r _=>?_;rw[aA (by simp only[nO]; omega)];refine aD.2 ⟨rfl,hc,?_⟩;simp only[cZ,nO];rw[bO (by omega),aJ,hI]
  ·rw[aF (bQ (by omega))];refine aD.2 ?_;simp only[sel];exact⟨acc,rfl,by omega⟩
 obtain⟨l,rfl,hlen⟩:=hz;simp only[sel];by_cases h21:e.Op=21
 ·have:=w1 h21;rw[aA (dB h21),aA (by omega),aA (by simp; omega),aA (by omega),aA (by simp; omega),aA (by omega),aA (by simp; omega)];simp only[Nd,aK];exact aD.2 trivial
 ·rw[aF (eE h21)];have key:∀ n0:Int,Sq b ((cB (fun s=>(Ft l s).den) (n0,l,0)).bind (sel (fun b12=>some b12) some)) (fun _=>True):=by
   intro n0;refine Sq.bind (fun z=>True) ?_ fun z _=>by cases z <;> exact aD.2 trivial
   refine dO (fun s=>s.2.2) l.length (by omega) (fun s=>s.2.1=l) (fun s k hI hk hkN=>?_) rfl rfl;obtain⟨a,l',v⟩:=s;simp only at hk hI;subst hk hI;unfold Ft;simp only[Tr.den,aJ,Nd,aK];by_cases hc:k<l'.length
   ·rw[aA (bS (by omega)),aA (by omega),aA hc];exact aD.2 ⟨rfl,hc,rfl⟩
   ·rw[aF (bQ (by omega))];exact aD.2 trivial
  by_cases h22:e.Op=22
  ·have:=w2 h22;rw[aA (dB h22),aA (by omega)];simp only[Nd,aK];exact key _
  ·rw[aF (eE h22)];simp only[aK];exact key _
theorem aPR(fs:List aS)(nc:Nat)(e:aE)(hf:fs.length<=1000000000)(hW:FW fs)(h:cE e)(hw:wfE fs.length nc e):Sp (Id fs e) (fun _=>True):=by
 unfold Id aXR;simp only[Tr.den];refine Sq.bind (fun z=>∃ l:List Int,z = .inl l/\l.length=fs.length) ?_ fun z hz=>?_
 ·refine dO (fun s=>s.2) fs.length (by omega) (fun s=>s.1.length=s.2.toNat) (fun s k hI hk hkN=>?_) rfl rfl;obtain⟨acc,v⟩:=s;simp only at hk hI;subst hk;simp only[aJ]at hI;unfold Sn;simp only[Tr.den,aJ];by_cases hc:k<fs.length
  ·rw[aA (bS (by omega)),aA (by omega)];refine Sq.bind _ (Uj acc 0 _ ⟨(hW k hc).2,by rw[hI]; exact(hW k hc).1⟩) fun r _=>?_;rw[aA (by simp only[nO]; omega)];refine aD.2 ⟨rfl,hc,?_⟩;simp only[cZ,nO];rw[bO (by omega),aJ,hI]
  ·rw[aF (bQ (by omega))];refine aD.2 ?_;simp only[sel];exact⟨acc,rfl,by omega⟩
 obtain⟨l,rfl,hlen⟩:=hz;simp only[sel];refine Sq.bind _ (Uj l nc e ⟨h,by rw[hlen]; exact hw⟩) fun r _=>aD.2 trivial
theorem Xk(m:List Bool)(nc:Nat)(e:aE)(t:Bool)(hw:wfE m.length nc e):Sq bb (Qn e m t) (fun _=>True):=by obtain⟨w1,w2,w3,wA⟩:=hw.get;unfold Qn Mo;simp only[Tr.den];refine Sq.bind (fun _=>True) ?_ fun _ _=>aD.2 trivial;refine bI (fun _=>aD.2 trivial) fun _=>bI (fun _=>aD.2 trivial) fun _=>bI (fun hc=>?_) fun _=>aD.2 trivial;have:=w2 (by simpa using hc);rw[aA (by omega),aA (by omega)];exact aD.2 trivial
theorem aBH(a:aE×List Bool×Bool)(nc:Nat)(h:cE a.1/\wfE a.2.1.length nc a.1):Sq bb (Gb a) (fun _=>True):=by
 unfold Gb;refine fX _ _ _ (fun a=>cE a.1/\wfE a.2.1.length nc a.1) (fun a=>SizeOf.sizeOf a.1) (fun _ _=>True) (fun b f a ha hrec=>?_) bb a h;obtain⟨e,m,t⟩:=a;obtain⟨he,hw⟩:=ha;simp only at he hw hrec;obtain⟨hs,hl,hA⟩:=he.get;obtain⟨w1,w2,w3,wA⟩:=hw.get;unfold Gn;simp only[Tr.den];refine Sq.bind _ (Xk m nc e t hw) fun r _=>?_;refine Sq.bind (fun z=>True) ?_ fun z _=>by cases z <;> exact aD.2 trivial
 refine dO (fun s=>s.2) e.Args.length (by omega) (fun s=>True) (fun s k hI hk hkN=>?_) trivial rfl;obtain⟨v1,v2⟩:=s;simp only at hk;subst hk;unfold Ck;simp only[Tr.den,aJ];by_cases hc:k<e.Args.length
 ·rw[aA (bS (by omega)),aA (by omega)];refine Sq.bind _ (hrec (_,m,v1) ⟨hA k hc,wA _ (aQ hc)⟩ (dR (aQ hc))) fun r _=>aD.2 ⟨rfl,hc,trivial⟩
 ·rw[aF (bQ (by omega))];exact aD.2 trivial
theorem Cb(m:List Bool)(nc:Nat)(e:aE)(h:cE e)(hw:wfE m.length nc e):Sp (Rf e m) (fun _=>True):=by unfold Rf Ni;simp only[Tr.den];exact Sq.bind _ (aBH (e,m,false) nc ⟨h,hw⟩) fun r _=>aD.2 trivial
theorem aPZ(fs:List aS)(nc:Nat)(e:aE)(hf:fs.length<=1000000000)(hW:FW fs)(h:cE e)(hw:wfE fs.length nc e):Sp (aGL fs e) (fun _=>True):=by
 unfold aGL aWP;simp only[Tr.den];refine Sq.bind (fun z=>∃ l:List Bool,z = .inl l/\l.length=fs.length) ?_ fun z hz=>?_
 ·refine dO (fun s=>s.2) fs.length (by omega) (fun s=>s.1.length=s.2.toNat) (fun s k hI hk hkN=>?_) rfl rfl;obtain⟨acc,v⟩:=s;simp only at hk hI;subst hk;simp only[aJ]at hI;unfold Vh;simp only[Tr.den,aJ];by_cases hc:k<fs.length
  ·rw[aA (bS (by omega)),aA (by omega)];refine Sq.bind _ (Cb acc 0 _ (hW k hc).2 (by rw[hI]; exact(hW k hc).1)) fun r _=>?_;rw[aA (by omega)];refine aD.2 ⟨rfl,hc,?_⟩;simp only[cZ,nO];rw[bO (by omega),aJ,hI]
  ·rw[aF (bQ (by omega))];refine aD.2 ?_;simp only[sel];exact⟨acc,rfl,by omega⟩
 obtain⟨l,rfl,hlen⟩:=hz;simp only[sel];exact Sq.bind _ (Cb l nc e h (by rw[hlen]; exact hw)) fun r _=>aD.2 trivial
def cS:aE->List Int
 | .mk o n _ xs=>(if o=3 then [n] else [])++go xs
where go:List aE->List Int
 | []=>[]
 | x::xs=>cS x++go xs
theorem Js:∀ xs,cS.go xs=xs.flatMap cS
 | []=>rfl
 | x::xs=>by simp only[cS.go,sU,Js xs]
theorem iX(e:aE):cS e=(if e.Op=3 then [e.N] else [])++e.Args.flatMap cS:=by cases e with | mk a b s l=>rw[cS,Js]; rfl
theorem kK{nf nc:Nat}{e:aE}(h:wfE nf nc e):∀ c,c∈cS e->0<=c/\c<(nc:Int):=by
 induction h with
 | @mk e h1 h2 h3 hA ih=>
  intro c hc;rw[iX,dZ]at hc;rcases hc with hc | hc
  ·split at hc
   ·rename_i h0;have:=h3 h0;rw[cG.1 hc];exact⟨this.1,this.2.1⟩
   ·cases hc
  ·obtain⟨x,hx,hc⟩:=zO.1 hc;exact ih x hx c hc
structure sC (m:List (Int×Bool))(S:Int->Prop):Prop where
 nd:(dI m).Nodup
 mem:∀ c,c∈dI m↔S c
theorem aBL(m:List (Int×Bool))(n:Int):dI (lB m n)=(dI m).filter (fun c=>decide (c≠n)):=by unfold dI lB;rw[List.filter_map];rfl
theorem sC.put{m:List (Int×Bool)}{S:Int->Prop}(h:sC m S)(n:Int):sC (Pj m n true) (fun c=>S c\/c=n):=by
 have hp:(dI (Pj m n true)).Perm (n::dI (lB m n)):=by have h:=List.Perm.map (fun p:Int×Bool=>p.1) (Cz m n true);exact h
 rw[aBL]at hp;refine⟨hp.nodup_iff.2 (wK.2 ⟨by simp,h.nd.filter _⟩),fun c=>?_⟩;rw[hp.mem_iff,aX,uD,h.mem];by_cases hc:c=n
 ·simp[hc]
 ·simp[hc]
theorem sC.imp{m:List (Int×Bool)}{S S':Int->Prop}(h:sC m S)(hs:∀ c,S c↔S' c):sC m S':=⟨h.nd,fun c=>(h.mem c).trans (hs c)⟩
theorem Bw{l:List aE}{k:Nat}(h:k<l.length)(c:Int):c∈(l.take (k+1)).flatMap cS↔c∈(l.take k).flatMap cS\/c∈cS (l.getD k default):=by rw[dU h,List.flatMap_append,dZ];simp
theorem aAX(a:aE×List (Int×Bool))(h:cE a.1):Sq bb (Hb a) (fun r=>∀ S,sC a.2 S->sC r (fun c=>S c\/c∈cS a.1)):=by
 unfold Hb;refine fX _ _ _ (fun a=>cE a.1) (fun a=>SizeOf.sizeOf a.1) (fun a r=>∀ S,sC a.2 S->sC r (fun c=>S c\/c∈cS a.1)) (fun b f a ha hrec=>?_) bb a h;obtain⟨e,m⟩:=a;simp only at ha hrec;obtain⟨hs,hl,hA⟩:=ha.get;unfold Fo;simp only[Tr.den];refine Sq.bind (fun r=>∀ S,sC m S->sC r (fun c=>S c\/c∈(if e.Op=3 then [e.N] else []))) ?_ fun r hr=>?_
 ·unfold aJG Rl;simp only[Tr.den];by_cases h3:e.Op=3
  ·rw[aA (dB h3)];refine aD.2 fun S h=>(h.put e.N).imp fun c=>?_;rw[aA h3,cG]
  ·rw[aF (eE h3)];refine aD.2 fun S h=>h.imp fun c=>?_;rw[aF h3]; simp
 refine Sq.bind (fun z=>∃ r2,z = .inl r2/\∀ S,sC m S->sC r2 (fun c=>S c\/c∈cS e)) ?_ fun z hz=>?_
 ·refine dO (fun s=>s.2) e.Args.length (by omega) (fun s=>∀ S,sC m S->sC s.1 (fun c=>(S c\/c∈(if e.Op=3 then [e.N] else []))\/c∈(e.Args.take s.2.toNat).flatMap cS)) (fun s k hI hk hkN=>?_) (fun S hS=>(hr S hS).imp fun c=>by simp) rfl;obtain⟨v1,v2⟩:=s;simp only at hk hI;subst hk;simp only[aJ]at hI;unfold Dl;simp only[Tr.den,aJ];by_cases hc:k<e.Args.length
  ·rw[aA (bS (by omega)),aA (by omega)];refine Sq.bind _ (hrec (_,v1) (hA k hc) (dR (aQ hc))) fun r3 hr3=>aD.2 ⟨rfl,hc,fun S hS=>?_⟩;simp only;rw[bO (by omega),aJ];refine(hr3 _ (hI S hS)).imp fun c=>?_;rw[Bw hc];grind
  ·rw[aF (bQ (by omega))];refine aD.2 ?_;simp only[sel];refine⟨v1,rfl,fun S hS=>(hI S hS).imp fun c=>?_⟩;rw[fS (by omega),iX,dZ];grind
 obtain⟨r2,rfl,h2⟩:=hz;exact aD.2 h2
theorem zE:∀ (n:Nat) (l:List Nat),l.Nodup->(∀ x,x∈l->x<n)->l.length<=n
 | 0,l,_,h=>by
  cases l with
  | nil=>exact fK _
  | cons x l=>exact absurd (h x dJ) (jQ _)
 | n+1,l,hn,h=>by
  by_cases hm:n∈l
  ·have h1:=zE n (l.erase n) (hn.erase n) fun x hx=>by
    have h2:=h x (List.mem_of_mem_erase hx);have:x≠n:=fun e=>by rw[e]at hx; exact(hn.not_mem_erase) hx
    omega
   rw[List.length_erase_of_mem hm]at h1;omega
  ·have:=zE n l hn fun x hx=>by have h2:=h x hx;have:x≠n:=fun e=>hm (e▸hx);omega
   omega
theorem Yy{n:Nat}{l:List Int}(hn:l.Nodup)(h:∀ x,x∈l->0<=x/\x<(n:Int)):l.length<=n:=by
 have:=zE n (l.map Int.toNat) ?_ ?_
 ·simpa using this
 ·refine List.Pairwise.map _ (fun _ _ h=>h) (List.Pairwise.imp_of_mem (fun {a b} ha hb hab=>?_) hn);have:=h a ha; have:=h b hb;omega
 ·intro x hx;obtain⟨y,hy,rfl⟩:=dW.1 hx;have:=h y hy;omega
theorem Ao(l:List Int):(kJ l).Perm l:=List.mergeSort_perm _ _
theorem tR{nf nc:Nat}(e:aE)(h:cE e)(hw:wfE nf nc e)(hn:nc<=1000000000):Sp (aUD e) (fun r=>r.length<=nc/\∀ c,c∈r↔c∈cS e):=by
 unfold aUD aTH;simp only[Tr.den];refine Sq.bind _ (aAX (e,[]) h) fun r hr=>?_;have hS:=hr (fun _=>False) ⟨List.nodup_nil,fun c=>by simp[dI]⟩;simp only[false_or]at hS;have hc:=kK hw;have hlen:(dI r).length<=nc:=Yy hS.nd fun x hx=>hc x ((hS.mem x).1 hx);have hok:aFL (dI r)=true:=by unfold aFL;rw[cP,pQ,dQ];refine⟨by omega,fun k hk=>?_⟩;have:=hc k ((hS.mem k).1 hk);exact cY (by omega)
 simp only[aK];rw[aA hok];refine aD.2 ⟨?_,fun c=>?_⟩
 ·rw[(Ao _).length_eq]; exact hlen
 ·rw[(Ao _).mem_iff,hS.mem]
theorem aZN(l:List Int)(h:l.length<=100000000000):G36 l=some l:=by
 unfold G36;refine Det.eq ?_;unfold T36;simp only[Tr.wpT];refine⟨fun h0=>?_,?_⟩
 ·rw[aA trivial]; exact(lW h0).symm
 ·rw[aF (by simp)];refine⟨by simp only[nT]; omega,rfl⟩
theorem rH(l:List Int)(h:l.length<=100000000000):Vj l=some l:=by
 unfold Vj;refine Det.eq ?_;unfold aHM;simp only[Tr.wpT];refine⟨fun h0=>?_,?_⟩
 ·rw[aA trivial]; exact(lW h0).symm
 ·rw[aF (by simp)];refine⟨by simp only[nT]; omega,rfl⟩
theorem aYJ(l:List aS)(h:l.length<=100000000000):aCS l=some l:=by
 unfold aCS;refine Det.eq ?_;unfold aRP;simp only[Tr.wpT];refine⟨fun h0=>?_,?_⟩
 ·rw[aA trivial]; exact(lW h0).symm
 ·rw[aF (by simp)];refine⟨by simp only[nT]; omega,rfl⟩
theorem aIS(l:List aS)(h:l.length<=100000000000):Ok l=some l:=by
 unfold Ok;refine Det.eq ?_;unfold Ov;simp only[Tr.wpT];refine⟨fun h0=>?_,?_⟩
 ·rw[aA trivial]; exact(lW h0).symm
 ·rw[aF (by simp)];refine⟨by simp only[nT]; omega,rfl⟩
theorem aEU(l:List aC)(h:l.length<=100000000000):No l=some l:=by
 unfold No;refine Det.eq ?_;unfold Mq;simp only[Tr.wpT];refine⟨fun h0=>?_,?_⟩
 ·rw[aA trivial]; exact(lW h0).symm
 ·rw[aF (by simp)];refine⟨by simp only[nT]; omega,rfl⟩
theorem aED(l:List cF)(h:l.length<=100000000000):Qw l=some l:=by
 unfold Qw;refine Det.eq ?_;unfold Ku;simp only[Tr.wpT];refine⟨fun h0=>?_,?_⟩
 ·rw[aA trivial]; exact(lW h0).symm
 ·rw[aF (by simp)];refine⟨by simp only[nT]; omega,rfl⟩
theorem aHN(l:List aT)(h:l.length<=100000000000):Lj l=some l:=by
 unfold Lj;refine Det.eq ?_;unfold Ng;simp only[Tr.wpT];refine⟨fun h0=>?_,?_⟩
 ·rw[aA trivial]; exact(lW h0).symm
 ·rw[aF (by simp)];refine⟨by simp only[nT]; omega,rfl⟩
theorem If(l:List aE)(h:l.length<=100000000000):Lb l=some l:=by
 unfold Lb;refine Det.eq ?_;unfold Mr;simp only[Tr.wpT];refine⟨fun h0=>?_,?_⟩
 ·rw[aA trivial]; exact(lW h0).symm
 ·rw[aF (by simp)];refine⟨by simp only[nT]; omega,rfl⟩
theorem aCT(l:List cC)(h:l.length<=100000000000):Nn l=some l:=by
 unfold Nn;refine Det.eq ?_;unfold Lc;simp only[Tr.wpT];refine⟨fun h0=>?_,?_⟩
 ·rw[aA trivial]; exact(lW h0).symm
 ·rw[aF (by simp)];refine⟨by simp only[nT]; omega,rfl⟩
theorem Ja(n:Int)(h:0<=n)(h2:n<=100000000000):Qk n=some []:=by
 unfold Qk Md;simp only[Tr.den];rw[aF (bQ (by omega))];have e:IntKind.i64.wrap (n-0)=n:=by rw[cR] <;> omega
 rw[e];by_cases hp:n>0
 ·rw[aA (bS hp)];rw[aA (show 0<=n/\n.toNat*40<=140737488355328 by omega)];simp;omega
 ·rw[aF (bQ hp)];rfl
theorem aGW(n:Int)(h:0<=n)(h2:n<=100000000000):Rc n=some []:=by
 unfold Rc Mz;simp only[Tr.den];rw[aF (bQ (by omega))];have e:IntKind.i64.wrap (n-0)=n:=by rw[cR] <;> omega
 rw[e];by_cases hp:n>0
 ·rw[aA (bS hp)];rw[aA (show 0<=n/\n.toNat*8<=140737488355328 by omega)];simp;omega
 ·rw[aF (bQ hp)];rfl
theorem Ii(n:Int)(h:0<=n)(h2:n<=100000000000):Rq n=some []:=by
 unfold Rq Rw;simp only[Tr.den];rw[aF (bQ (by omega))];have e:IntKind.i64.wrap (n-0)=n:=by rw[cR] <;> omega
 rw[e];by_cases hp:n>0
 ·rw[aA (bS hp)];rw[aA (show 0<=n/\n.toNat*248<=140737488355328 by omega)];simp;omega
 ·rw[aF (bQ hp)];rfl
theorem nL{A:Type}[Inhabited A]{b:Bool}(ls:List (List A))(M:Nat)(hM:M<=10000000000)(hl:ls.length<=1000)(hs:∀ x,x∈ls->x.length<=M):
  (ls.flatMap id).length<=ls.length*M/\∀ k,k<=ls.length->((ls.take k).flatMap id).length<=ls.length*M:=by
 have key:∀ (l:List (List A)),(∀ x,x∈l->x.length<=M)->(l.flatMap id).length<=l.length*M:=by
  intro l
  induction l with
  | nil=>intro _; simp
  | cons x l ih=>intro h;have h1:=h x dJ;have h2:=ih fun y hy=>h y (cV _ hy);rw[sU,cZ,qZ,Nat.succ_mul,show id x=x from rfl];omega
 refine⟨key ls hs,fun k hk=>?_⟩;have:=key (ls.take k) fun x hx=>hs x (zU hx);rw[dM]at this;exact gV this (iN _ (Nat.min_le_right _ _))
theorem cM{A:Type}{ls:List (List A)}{k:Nat}(h:k<ls.length):(ls.take (k+1)).flatMap id=(ls.take k).flatMap id++ls.getD k default:=by rw[dU h,List.flatMap_append];simp
theorem aYA(ls:List (List aT))(hl:ls.length<=10)(hs:∀ x,x∈ls->x.length<=1000000000):aKO ls=some (ls.flatMap id):=by
 obtain⟨c1,c2⟩:=nL (b:=true) ls 1000000000 (by omega) (by omega) hs;unfold aKO aYW;simp only[Tr.den];refine Sp.eq ?_;refine Sq.bind (fun z=>z = .inl (((ls.flatMap id).length:Nat):Int)) ?_ fun z hz=>?_
 ·refine dO (fun s=>s.2) ls.length (by omega) (fun s=>s.1=((((ls.take s.2.toNat).flatMap id).length:Nat):Int)) (fun s k hI hk hkN=>?_) rfl rfl;obtain⟨v1,v2⟩:=s;simp only at hk hI;subst hk;simp only[aJ]at hI;subst hI;unfold Ua;simp only[Tr.den,aJ];by_cases hc:k<ls.length
  ·have h3:=c2 (k+1) (by omega);rw[cM hc,cZ]at h3;have e:IntKind.i64.wrap (((((ls.take k).flatMap id).length:Nat):Int)+((ls.getD k default).length:Int))=((((ls.take (k+1)).flatMap id).length:Nat):Int):=by rw[cM hc,cZ,cR] <;> omega
   rw[aA (bS (by omega)),aA (by omega),aF (bQ (by rw[e]; omega)),e];refine aD.2 ⟨rfl,hc,?_⟩;simp only;rw[bO (by omega),aJ]
  ·rw[aF (bQ (by omega))];refine aD.2 ?_;simp only[sel];rw[fS (by omega)]
 subst hz;simp only[sel];rw[Ja _ (by omega) (by omega)];simp only[aK];refine Sq.bind (fun z=>z = .inl (ls.flatMap id)) ?_ fun z hz=>by subst hz; exact aD.2 rfl
 refine dO (fun s=>s.2) ls.length (by omega) (fun s=>s.1=(ls.take s.2.toNat).flatMap id) (fun s k hI hk hkN=>?_) rfl rfl;obtain⟨v1,v2⟩:=s;simp only at hk hI;subst hk;simp only[aJ]at hI;subst hI;unfold Tl;simp only[Tr.den,aJ];by_cases hc:k<ls.length
 ·have h3:=c2 (k+1) (by omega);rw[cM hc,cZ]at h3;rw[aA (bS (by omega)),aA (by omega),aA (by omega)];refine aD.2 ⟨rfl,hc,?_⟩;simp only;rw[bO (by omega),aJ,cM hc]
 ·rw[aF (bQ (by omega))];refine aD.2 ?_;simp only[sel];rw[fS (by omega)]
theorem aCW(ls:List (List aT))(hl:ls.length<=10)(hs:∀ x,x∈ls->x.length<=1000000000):Hd ls=some (ls.flatMap id):=by
 obtain⟨c1,c2⟩:=nL (b:=true) ls 1000000000 (by omega) (by omega) hs;unfold Hd Pb;simp only[Tr.den];refine Sp.eq ?_;refine Sq.bind (fun z=>z = .inl (((ls.flatMap id).length:Nat):Int)) ?_ fun z hz=>?_
 ·refine dO (fun s=>s.2) ls.length (by omega) (fun s=>s.1=((((ls.take s.2.toNat).flatMap id).length:Nat):Int)) (fun s k hI hk hkN=>?_) rfl rfl;obtain⟨v1,v2⟩:=s;simp only at hk hI;subst hk;simp only[aJ]at hI;subst hI;unfold Dr;simp only[Tr.den,aJ];by_cases hc:k<ls.length
  ·have h3:=c2 (k+1) (by omega);rw[cM hc,cZ]at h3;have e:IntKind.i64.wrap (((((ls.take k).flatMap id).length:Nat):Int)+((ls.getD k default).length:Int))=((((ls.take (k+1)).flatMap id).length:Nat):Int):=by rw[cM hc,cZ,cR] <;> omega
   rw[aA (bS (by omega)),aA (by omega),aF (bQ (by rw[e]; omega)),e];refine aD.2 ⟨rfl,hc,?_⟩;simp only;rw[bO (by omega),aJ]
  ·rw[aF (bQ (by omega))];refine aD.2 ?_;simp only[sel];rw[fS (by omega)]
 subst hz;simp only[sel];rw[Ja _ (by omega) (by omega)];simp only[aK];refine Sq.bind (fun z=>z = .inl (ls.flatMap id)) ?_ fun z hz=>by subst hz; exact aD.2 rfl
 refine dO (fun s=>s.2) ls.length (by omega) (fun s=>s.1=(ls.take s.2.toNat).flatMap id) (fun s k hI hk hkN=>?_) rfl rfl;obtain⟨v1,v2⟩:=s;simp only at hk hI;subst hk;simp only[aJ]at hI;subst hI;unfold Cg;simp only[Tr.den,aJ];by_cases hc:k<ls.length
 ·have h3:=c2 (k+1) (by omega);rw[cM hc,cZ]at h3;rw[aA (bS (by omega)),aA (by omega),aA (by omega)];refine aD.2 ⟨rfl,hc,?_⟩;simp only;rw[bO (by omega),aJ,cM hc]
 ·rw[aF (bQ (by omega))];refine aD.2 ?_;simp only[sel];rw[fS (by omega)]
theorem aIB(ls:List (List aC))(hl:ls.length<=10)(hs:∀ x,x∈ls->x.length<=1000000000):Rv ls=some (ls.flatMap id):=by
 obtain⟨c1,c2⟩:=nL (b:=true) ls 1000000000 (by omega) (by omega) hs;unfold Rv Ls;simp only[Tr.den];refine Sp.eq ?_;refine Sq.bind (fun z=>z = .inl (((ls.flatMap id).length:Nat):Int)) ?_ fun z hz=>?_
 ·refine dO (fun s=>s.2) ls.length (by omega) (fun s=>s.1=((((ls.take s.2.toNat).flatMap id).length:Nat):Int)) (fun s k hI hk hkN=>?_) rfl rfl;obtain⟨v1,v2⟩:=s;simp only at hk hI;subst hk;simp only[aJ]at hI;subst hI;unfold Cl;simp only[Tr.den,aJ];by_cases hc:k<ls.length
  ·have h3:=c2 (k+1) (by omega);rw[cM hc,cZ]at h3;have e:IntKind.i64.wrap (((((ls.take k).flatMap id).length:Nat):Int)+((ls.getD k default).length:Int))=((((ls.take (k+1)).flatMap id).length:Nat):Int):=by rw[cM hc,cZ,cR] <;> omega
   rw[aA (bS (by omega)),aA (by omega),aF (bQ (by rw[e]; omega)),e];refine aD.2 ⟨rfl,hc,?_⟩;simp only;rw[bO (by omega),aJ]
  ·rw[aF (bQ (by omega))];refine aD.2 ?_;simp only[sel];rw[fS (by omega)]
 subst hz;simp only[sel];rw[Ii _ (by omega) (by omega)];simp only[aK];refine Sq.bind (fun z=>z = .inl (ls.flatMap id)) ?_ fun z hz=>by subst hz; exact aD.2 rfl
 refine dO (fun s=>s.2) ls.length (by omega) (fun s=>s.1=(ls.take s.2.toNat).flatMap id) (fun s k hI hk hkN=>?_) rfl rfl;obtain⟨v1,v2⟩:=s;simp only at hk hI;subst hk;simp only[aJ]at hI;subst hI;unfold Dg;simp only[Tr.den,aJ];by_cases hc:k<ls.length
 ·have h3:=c2 (k+1) (by omega);rw[cM hc,cZ]at h3;rw[aA (bS (by omega)),aA (by omega),aA (by omega)];refine aD.2 ⟨rfl,hc,?_⟩;simp only;rw[bO (by omega),aJ,cM hc]
 ·rw[aF (bQ (by omega))];refine aD.2 ?_;simp only[sel];rw[fS (by omega)]
theorem aUC(ls:List (List aC))(hl:ls.length<=10)(hs:∀ x,x∈ls->x.length<=1000000000):aTV ls=some (ls.flatMap id):=by
 obtain⟨c1,c2⟩:=nL (b:=true) ls 1000000000 (by omega) (by omega) hs;unfold aTV aRO;simp only[Tr.den];refine Sp.eq ?_;refine Sq.bind (fun z=>z = .inl (((ls.flatMap id).length:Nat):Int)) ?_ fun z hz=>?_
 ·refine dO (fun s=>s.2) ls.length (by omega) (fun s=>s.1=((((ls.take s.2.toNat).flatMap id).length:Nat):Int)) (fun s k hI hk hkN=>?_) rfl rfl;obtain⟨v1,v2⟩:=s;simp only at hk hI;subst hk;simp only[aJ]at hI;subst hI;unfold Ta;simp only[Tr.den,aJ];by_cases hc:k<ls.length
  ·have h3:=c2 (k+1) (by omega);rw[cM hc,cZ]at h3;have e:IntKind.i64.wrap (((((ls.take k).flatMap id).length:Nat):Int)+((ls.getD k default).length:Int))=((((ls.take (k+1)).flatMap id).length:Nat):Int):=by rw[cM hc,cZ,cR] <;> omega
   rw[aA (bS (by omega)),aA (by omega),aF (bQ (by rw[e]; omega)),e];refine aD.2 ⟨rfl,hc,?_⟩;simp only;rw[bO (by omega),aJ]
  ·rw[aF (bQ (by omega))];refine aD.2 ?_;simp only[sel];rw[fS (by omega)]
 subst hz;simp only[sel];rw[Ii _ (by omega) (by omega)];simp only[aK];refine Sq.bind (fun z=>z = .inl (ls.flatMap id)) ?_ fun z hz=>by subst hz; exact aD.2 rfl
 refine dO (fun s=>s.2) ls.length (by omega) (fun s=>s.1=(ls.take s.2.toNat).flatMap id) (fun s k hI hk hkN=>?_) rfl rfl;obtain⟨v1,v2⟩:=s;simp only at hk hI;subst hk;simp only[aJ]at hI;subst hI;unfold Th;simp only[Tr.den,aJ];by_cases hc:k<ls.length
 ·have h3:=c2 (k+1) (by omega);rw[cM hc,cZ]at h3;rw[aA (bS (by omega)),aA (by omega),aA (by omega)];refine aD.2 ⟨rfl,hc,?_⟩;simp only;rw[bO (by omega),aJ,cM hc]
 ·rw[aF (bQ (by omega))];refine aD.2 ?_;simp only[sel];rw[fS (by omega)]
theorem aUK(ls:List (List Int))(hl:ls.length<=10)(hs:∀ x,x∈ls->x.length<=1000000000):aWI ls=some (ls.flatMap id):=by
 obtain⟨c1,c2⟩:=nL (b:=true) ls 1000000000 (by omega) (by omega) hs;unfold aWI aSG;simp only[Tr.den];refine Sp.eq ?_;refine Sq.bind (fun z=>z = .inl (((ls.flatMap id).length:Nat):Int)) ?_ fun z hz=>?_
 ·refine dO (fun s=>s.2) ls.length (by omega) (fun s=>s.1=((((ls.take s.2.toNat).flatMap id).length:Nat):Int)) (fun s k hI hk hkN=>?_) rfl rfl;obtain⟨v1,v2⟩:=s;simp only at hk hI;subst hk;simp only[aJ]at hI;subst hI;unfold Ve;simp only[Tr.den,aJ];by_cases hc:k<ls.length
  ·have h3:=c2 (k+1) (by omega);rw[cM hc,cZ]at h3;have e:IntKind.i64.wrap (((((ls.take k).flatMap id).length:Nat):Int)+((ls.getD k default).length:Int))=((((ls.take (k+1)).flatMap id).length:Nat):Int):=by rw[cM hc,cZ,cR] <;> omega
   rw[aA (bS (by omega)),aA (by omega),aF (bQ (by rw[e]; omega)),e];refine aD.2 ⟨rfl,hc,?_⟩;simp only;rw[bO (by omega),aJ]
  ·rw[aF (bQ (by omega))];refine aD.2 ?_;simp only[sel];rw[fS (by omega)]
 subst hz;simp only[sel];rw[aGW _ (by omega) (by omega)];simp only[aK];refine Sq.bind (fun z=>z = .inl (ls.flatMap id)) ?_ fun z hz=>by subst hz; exact aD.2 rfl
 refine dO (fun s=>s.2) ls.length (by omega) (fun s=>s.1=(ls.take s.2.toNat).flatMap id) (fun s k hI hk hkN=>?_) rfl rfl;obtain⟨v1,v2⟩:=s;simp only at hk hI;subst hk;simp only[aJ]at hI;subst hI;unfold Sl;simp only[Tr.den,aJ];by_cases hc:k<ls.length
 ·have h3:=c2 (k+1) (by omega);rw[cM hc,cZ]at h3;rw[aA (bS (by omega)),aA (by omega),aA (by omega)];refine aD.2 ⟨rfl,hc,?_⟩;simp only;rw[bO (by omega),aJ,cM hc]
 ·rw[aF (bQ (by omega))];refine aD.2 ?_;simp only[sel];rw[fS (by omega)]
theorem kN{A:Type}[Inhabited A]{l:List A}{k:Nat}(h:k<l.length):l.set k (l.getD k default)=l:=by rw[eJ h,List.set_getElem_self]
theorem pS{A R:Type}{n:Nat}{st:Int->A}{bd:A->Option (A⊕R)}{r:R}(hn:n<=1000000000000)(h:∀ k:Nat,k<n->bd (st (k:Int))=some (.inl (st (IntKind.i64.wrap ((k:Int)+1)))))(hf:bd (st (n:Int))=some (.inr r)):cB bd (st 0)=some r:=by refine mQ (fun k=>st (k:Int)) n (fun k hk=>?_) hf;rw[h k hk,bO (by omega)]
theorem Nm{e:aE}(h:cE e):aWN e=some e:=by
 refine Sp.eq ?_;unfold aWN aUN;refine fX _ _ _ cE (fun e=>SizeOf.sizeOf e) (fun e y=>y=e) (fun b f e he hrec=>?_) true e h;obtain⟨hs,hl,hA⟩:=he.get;unfold aQY;simp only[Tr.den];rw[If _ (by omega)];simp only[aK];refine Sq.bind (fun z=>z = .inl e.Args) ?_ fun z hz=>by subst hz; exact aD.2 (aE.eta e)
 refine dO (fun s=>s.2) e.Args.length (by omega) (fun s=>s.1=e.Args) (fun s k hI hk hkN=>?_) rfl rfl;obtain⟨v1,v2⟩:=s;simp only at hk hI;subst hk hI;unfold Sh;simp only[Tr.den,aJ];by_cases hc:k<e.Args.length
 ·rw[aA (bS (by omega)),aA (by omega),aA hc];refine Sq.bind _ (hrec _ (hA k hc) (dR (aQ hc))) fun r hr=>?_;subst hr;rw[aA (by omega),aA hc,aA (by simp; exact hc),kN hc];exact aD.2 ⟨rfl,hc,rfl⟩
 ·rw[aF (bQ (by omega))];exact aD.2 rfl
theorem aJN{l:List aS}(h:l.length<=1000000000)(hl:∀ x,x∈l->BF x):aTS l=some l:=by
 unfold aTS aXH;simp only[Tr.den];rw[aIS _ (by omega)];simp only[aK];have hw:cB (fun s=>(yE l s).den) (l,0)=some (.inl l):=by
  refine pS (n:=l.length) (st:=fun i=>(l,i)) (by omega) (fun k hk=>?_) ?_
  ·have hb:=hl _ (aQ hk);unfold yE;simp only[Tr.den,aJ];rw[aA (bS (by omega)),aA (by omega),aZN _ (gV hb.p (by omega)),Nm hb.b];simp only[aK];have e1:aS.mk (l.getD k default).Name (l.getD k default).Params (l.getD k default).Result (l.getD k default).Body=l.getD k default:=by cases l.getD k default; rfl
   rw[aA (by omega),aA hk,aA (by omega),aA (by simp; exact hk)];simp only[e1,kN hk];rw[aA hk,aA (by simp; exact hk)]
  ·unfold yE;simp only[Tr.den];rw[aF (bQ (by omega))]
 rw[hw];rfl
theorem aNC(x:cC):cC.mk x.Pred x.Rep=x:=by cases x; rfl
theorem Mk(h:BN n):
  cB (fun s=>(yQ n.Exprs s).den) (n.In,n.Key,n.Key2,n.Aggs,n.Seq,n.Cols,n.Exprs,0)=some (.inl (n.In,n.Exprs,n.Key,n.Key2,n.Aggs,n.Seq,n.Cols)) /\
  cB (fun s=>(yJ n.Seq s).den) (n.In,n.Exprs,n.Key,n.Key2,n.Aggs,n.Cols,n.Seq,0)=some (.inl (n.In,n.Exprs,n.Key,n.Key2,n.Aggs,n.Seq,n.Cols)):=by
 have h6:=h.s; have h7:=h.e;constructor
 ·refine pS (n:=n.Exprs.length) (st:=fun i=>(n.In,n.Key,n.Key2,n.Aggs,n.Seq,n.Cols,n.Exprs,i)) (by omega) (fun k hk=>?_) ?_
  ·unfold yQ;simp only[Tr.den,aJ];rw[aA (bS (by omega)),aA (by omega),aA hk,Nm (h.eB _ (aQ hk))];simp only[aK];rw[aA (by omega),aA hk,aA (by simp; exact hk),kN hk]
  ·unfold yQ;simp only[Tr.den];rw[aF (bQ (by omega))]
 ·refine pS (n:=n.Seq.length) (st:=fun i=>(n.In,n.Exprs,n.Key,n.Key2,n.Aggs,n.Cols,n.Seq,i)) (by omega) (fun k hk=>?_) ?_
  ·unfold yJ;simp only[Tr.den,aJ];rw[aA (bS (by omega)),aA (by omega),aA hk,Nm (h.sB _ (aQ hk))];simp only[aK];rw[aA (by omega),aA hk,aNC,aA (by simp; exact hk),kN hk]
  ·unfold yJ;simp only[Tr.den];rw[aF (bQ (by omega))]
theorem aCV(h:BN n):aMR n=some n:=by have h1:=h.i; have h2:=h.k; have h3:=h.k2; have h4:=h.a; have h5:=h.c; have h6:=h.s; have h7:=h.e;obtain⟨l1,l2⟩:=Mk h;unfold aMR aYK;simp only[Tr.den,rH n.In (by omega),rH n.Key (by omega),rH n.Key2 (by omega),aED n.Aggs (by omega),aHN n.Cols (by omega),If n.Exprs (by omega),aCT n.Seq (by omega),aK,l1,l2,sel]
theorem Jm(h:BN n):Qy n=some n:=by rw[<-aCV h];unfold Qy aMR;rfl
section
variable {A B S R:Type} [Inhabited A]
theorem qV(p:A->Bool)(l:List A){bd:Int->Option (Int⊕R)}{a:Int->R}{r:R}(hn:l.length<=1000000000000)
  (h:∀ k:Nat,k<l.length->bd (k:Int)=some (if p (l.getD k default)=true then .inl (IntKind.i64.wrap ((k:Int)+1)) else .inr (a k)))
  (hf:bd (l.length:Int)=some (.inr r)):(l.all p=true/\cB bd 0=some r)\/(l.all p=false/\∃ k:Nat,k<l.length/\cB bd 0=some (a k)):=by
 have key:∀ (s:List A) (k:Nat),k<=l.length->l.drop k=s->(s.all p=true/\cB bd (k:Int)=some r)\/(s.all p=false/\∃ k':Nat,k' < l.length/\cB bd (k:Int)=some (a k')):=by
  intro s
  induction s with
  | nil=>
   intro k hk hd;have:k=l.length:=by have:=congrArg List.length hd;simp at this;omega
   subst this;exact Or.inl ⟨rfl,gZ hf⟩
  | cons x s ih=>
   intro k hk hd;have hlt:k<l.length:=by have:=congrArg List.length hd;simp at this;omega
   have hx:l.getD k default=x:=by rw[eJ hlt];have:=tY hlt;rw[hd]at this;exact(List.cons.inj this).1.symm
   have ht:l.drop (k+1)=s:=by have:=tY hlt;rw[hd]at this;exact(List.cons.inj this).2.symm
   have hb:=h k hlt;rw[hx]at hb;by_cases hp:p x=true
   ·rw[aA hp,bO (by omega)]at hb;rw[lZ hb];rcases ih (k+1) hlt ht with⟨h1,h2⟩ | ⟨h1,h2⟩
    ·exact Or.inl ⟨by simp[hp,h1],h2⟩
    ·exact Or.inr ⟨by simp[h1],h2⟩
   ·rw[aF hp]at hb;exact Or.inr ⟨by simp[hp],k,hlt,gZ hb⟩
 exact key l 0 (Ar _) rfl
theorem kA(p:A->Bool)(l:List A){bd:Int->Option (Int⊕R)}{a r:R}(hn:l.length<=1000000000000)
  (h:∀ k:Nat,k<l.length->bd (k:Int)=some (if p (l.getD k default)=true then .inl (IntKind.i64.wrap ((k:Int)+1)) else .inr a))
  (hf:bd (l.length:Int)=some (.inr r)):cB bd 0=some (if l.all p=true then r else a):=by
 rcases qV (a:=fun _=>a) p l hn h hf with⟨h1,h2⟩ | ⟨h1,k,_,h2⟩
 ·rw[h2,aA h1]
 ·rw[h2,aF (by simp[h1])]
theorem eP(f:A->B)(l:List A)(v0:List B){st:List B->Int->S}{bd:S->Option (S⊕R)}{r:List B->R}(hn:l.length<=1000000000000)
  (h:∀ v (k:Nat),k<l.length->v.length=v0.length+k->bd (st v k)=some (.inl (st (v++[f (l.getD k default)]) (IntKind.i64.wrap ((k:Int)+1)))))
  (hf:∀ v,bd (st v l.length)=some (.inr (r v))):cB bd (st v0 0)=some (r (v0++l.map f)):=by
 have:=mQ (fun k=>st (v0++(l.take k).map f) (k:Int)) l.length (bd:=bd) (r:=r (v0++l.map f)) (fun k hk=>?_) ?_
 ·simpa using this
 ·rw[h _ k hk (by simp; omega),bO (by omega)];simp only[dU hk,Cn,gX];rfl
 ·simp only[List.take_length];exact hf _
theorem oM(f:A->A)(l:List A){st:List A->Int->S}{bd:S->Option (S⊕R)}{r:List A->R}(hn:l.length<=1000000000000)
  (h:∀ v (k:Nat),k<l.length->v.length=l.length->v.getD k default=l.getD k default->bd (st v k)=some (.inl (st (v.set k (f (l.getD k default))) (IntKind.i64.wrap ((k:Int)+1)))))
  (hf:∀ v,v.length=l.length->bd (st v l.length)=some (.inr (r v))):cB bd (st l 0)=some (r (l.map f)):=by
 have:=mQ (fun k=>st ((l.take k).map f++l.drop k) (k:Int)) l.length (bd:=bd) (r:=r (l.map f)) (fun k hk=>?_) ?_
 ·simpa using this
 ·have hm:min k l.length=k:=by omega
  rw[h _ k hk (by simp; omega) (by simp[eH,hm]),bO (by omega)];have:((l.take k).map f++l.drop k).set k (f (l.getD k default))=(l.take (k+1)).map f++l.drop (k+1):=by rw[dU hk,tY hk,List.set_append_right _ _ (by simp[hm])];rw[show k-((l.take k).map f).length=0 by simp[hm],List.set_cons_zero];simp
  rw[this]
 ·simp only[List.take_length,List.drop_length,jJ];exact hf _ (by simp)
end
theorem cT{β:Type}{z:β}{f:Unit->β}:zX z f (if c=true then some () else none)=if c=true then f () else z:=by cases c <;> rfl
theorem cX{R β:Type}{z:β}{f:R->β}:zX z f none=z:=rfl
theorem cU{R β:Type}{z:β}{f:R->β}{r:R}:zX z f (some r)=f r:=rfl
theorem dG{S Y β:Type}{f:S->β}{g:Y->β}{v:S}:sel f g (.inl v)=f v:=rfl
theorem fP{S Y β:Type}{f:S->β}{g:Y->β}{v:Y}:sel f g (.inr v)=g v:=rfl
noncomputable def Ko (fs:List aS)(e:aE):Int:=(Id fs e).getD 0
noncomputable def okE (fs:List aS)(e:aE):Bool:=decide (jW e<=12)&&decide (Ko fs e<=10000)
noncomputable def Ak (fs:List aS)(l:List aC):Bool:=l.all fun n=>n.Exprs.all (okE fs)
def shi(k d:Int)(i:Int):Int:=if k<=i then i+d else i
def shN(k d:Int)(n:aC):aC:=aC.mk n.Op (n.In.map (shi k d)) n.Source n.Schema n.Exprs n.Kind n.Size n.Step n.Key n.Key2 n.Before n.After n.Keep n.Aggs n.Seq n.Cols
def kB(ns:List aC)(k:Nat)(l:List aC):List aC:=ns.take k++l++(ns.drop (k+1)).map (shN k ((l.length:Int)-1))
def StB(fs:List aS)(l:List aC):Prop:=∀ n,n∈l->BN n/\∀ e,e∈n.Exprs->Id fs e=some (Ko fs e)
def InB(ns:List aC):Prop:=∀ n,n∈ns->∀ j,j∈n.In->0<=j/\j<1000000000
theorem uP{A:Type}(l:List A)(k:Nat):(l.drop k).take (l.length-k)=l.drop k:=fS (by simp)
theorem aII{e:aE}(h:cE e)(hs:Id fs e=some (Ko fs e)):Ky e ⟨⟨fs,ns⟩⟩=some (!okE fs e):=by
 unfold Ky Qx okE;simp only[Tr.den,aTC h,hs,aK];by_cases h1:jW e<=12
 ·rw[aF (bQ (by omega))];by_cases h2:Ko fs e<=10000
  ·simp[h1,h2]
  ·simp[h1,h2]; omega
 ·rw[aA (bS (by omega))];simp[h1]
theorem aJH{l:List aE}(hn:l.length<=1000000000)(h:∀ e,e∈l->cE e/\Id fs e=some (Ko fs e)):Pu l ⟨⟨fs,ns⟩⟩=some (!l.all (okE fs)):=by
 unfold Pu Ps aGP Lf;simp only[Tr.den];have hw:(l.all (okE fs)=true/\cB (fun s=>(nN l ⟨⟨fs,ns⟩⟩ s).den) 0=some (.inl ()))\/(l.all (okE fs)=false/\∃ k:Nat,k<l.length/\cB (fun s=>(nN l ⟨⟨fs,ns⟩⟩ s).den) 0=some (.inr (k:Int))):=by
  refine qV (okE fs) l (a:=fun k=>Sum.inr k) (r:=Sum.inl ()) (by omega) (fun k hk=>?_) ?_
  ·unfold nN;have he:=h _ (aQ hk);simp only[Tr.den,aJ];rw[aA (bS (by omega)),aA (by omega),aII he.1 he.2];simp only[aK];cases okE fs (l.getD k default) <;> rfl
  ·unfold nN;simp only[Tr.den];rw[aF (bQ (by omega))]
 rcases hw with⟨h1,h2⟩ | ⟨h1,k,hk,h2⟩
 ·rw[h2,h1]; rfl
 ·rw[h2,h1];simp only[aK,fP];rw[bS (by omega)]; rfl
theorem kF{j k:Nat}(h:k<(l.drop j).length):(l.drop j).getD k default∈l:=List.mem_of_mem_drop (aQ h)
theorem wr1{k n:Nat}(h:n<=10):IntKind.i64.wrap ((n:Int)-1)=(n:Int)-1:=cR (by omega) (by omega)
theorem Kp{p:aB}(hp:BP p)(hI:InB p.Nodes){k:Nat}(hk:k<p.Nodes.length){nd:aC}(hl:l.length<=5)(hS:StB p.Funcs l):
  zS l ⟨p,k,m,nd⟩=some (if Ak p.Funcs l=true then some (kB p.Nodes k l) else none):=by
 have hn:=hp.n;unfold zS Kz;simp only[Tr.den];rw[kA (fun n=>n.Exprs.all (okE p.Funcs)) l (a:=.inr none) (r:=.inl ()) (by omega) (fun i hi=>?_) ?_]
 ·simp only[aK];by_cases ho:Ak p.Funcs l=true
  ·have ho':(l.all fun n=>n.Exprs.all (okE p.Funcs))=true:=ho;rw[aA ho,aA ho'];simp only[dG];rw[show IntKind.i64.wrap ((k:Int)+1)=((k+1:Nat):Int) from bO (by omega)];rw[aA (by omega),aA (by omega),aIB _ (by simp) ?_]
   ·simp only[aK];rw[aA (by omega),aA (by omega)];have e2:((p.Nodes.length:Int)-IntKind.i64.wrap ((k:Int)+1)).toNat=p.Nodes.length-(k+1):=by rw[bO (by omega)]; omega
    have e1:((p.Nodes.drop (IntKind.i64.wrap ((k:Int)+1)).toNat).take (p.Nodes.length-(k+1)))=p.Nodes.drop (k+1):=by rw[bO (by omega),aJ];exact uP _ _
    rw[eP (st:=fun v i=>(v,i)) (shN k ((l.length:Int)-1)) (p.Nodes.drop (k+1)) _ (r:=fun v=>.inl v) (by simp; omega) (fun v i hi hv=>?_) fun v=>?_]
    ·simp only[aK,dG];rw[kB]
     congr 2
     simp only[sU,zG,id,jJ,tD,List.drop_zero,Int.sub_zero,aJ]
    ·have hb:=hp.nB _ (kF hi);have hin:=hI _ (kF hi);have hbi:=hb.i;unfold wL;simp only[Tr.den,e1,e2,aJ];rw[aA (bS (by simp at hi ⊢; omega)),aA (by omega),rH _ (by omega)];simp only[aK];rw[oM (st:=fun w j=>(w,v,j)) (shi k ((l.length:Int)-1)) ((p.Nodes.drop (k+1)).getD i default).In (r:=fun w=>.inl (w,v)) (by omega) (fun w j hj hw hg=>?_) fun w hw=>?_]
     ·simp only[aK,dG];rw[aA (by simp at hi hv ⊢; omega)];rfl
     ·unfold wO;have hji:=hin _ (aQ hj);simp only[Tr.den,aJ,hg];rw[aA (bS (by omega)),aA (by omega),aA (by omega)];by_cases hge:(k:Int)<=((p.Nodes.drop (k+1)).getD i default).In.getD j default
      ·rw[aA (bS (by omega)),aA (by omega),aA (by omega),aA (by omega),aA (by omega),aA (by simp; omega),shi,aA hge,wr1 (k:=0) (by omega),cR (n:=_+_) (by omega) (by omega)];rfl
      ·rw[aF (bQ (by omega)),shi,aF hge,<-hg,kN (by omega)];rfl
     ·unfold wO;simp only[Tr.den,hw];rw[aF (bQ (by omega))]
    ·unfold wL;simp only[Tr.den,e2];rw[aF (bQ (by simp))]
   ·intro x hx;rcases aX.1 hx with rfl | hx
    ·simp; omega
    ·rcases cG.1 hx with rfl;omega
  ·have ho':¬ (l.all fun n=>n.Exprs.all (okE p.Funcs))=true:=ho;rw[aF ho,aF ho'];rfl
 ·unfold vB;simp only[Tr.den];rw[aF (bQ (by omega))]
 ·unfold vB;simp only[Tr.den];obtain⟨hb,hst⟩:=hS _ (aQ hi);have hbe:=hb.e;rw[aA (bS (by omega)),aA (by omega)];rw[kA (okE p.Funcs) (l.getD i default).Exprs (a:=.inr (.inr (.inr none))) (r:=.inl ()) (by omega) (fun j hj=>?_) ?_]
  ·cases (l.getD i default).Exprs.all (okE p.Funcs) <;> rfl
  ·unfold vW;simp only[Tr.den,aJ];rw[aF (bQ (by omega))]
  ·have hx:=aQ hj;unfold vW;simp only[Tr.den,aJ];rw[aA (bS (by omega)),aA (by omega),aTP (hb.eB _ hx)];simp only[aK];unfold okE;by_cases h1:jW ((l.getD i default).Exprs.getD j default)<=12
   ·rw[aA (bS h1),hst _ hx];simp only[aK,cT,h1,decide_true,Ec];by_cases h2:Ko p.Funcs ((l.getD i default).Exprs.getD j default)<=10000
    ·simp only[h2,decide_true,bU,aK,dG]
    ·simp only[h2,decide_false,cK,bY,aK,fP]
   ·rw[aF (bQ h1)];simp only[h1,decide_false,Bool.false_and,cK,bY];rfl
theorem aGT{p:aB}(hp:BP p)(hI:InB p.Nodes){k:Nat}(hk:k<p.Nodes.length){nd:aC}(hl:l.length<=5)(hS:StB p.Funcs l):
  Ge l ⟨p,k,m,nd⟩=some (if Ak p.Funcs l=true then some (kB p.Nodes k l) else none):=by
 rw[<-Kp hp hI hk hl hS (m:=m) (nd:=nd)];unfold Ge zS;rfl
theorem aVB{p:aB}(hp:BP p)(hI:InB p.Nodes){k:Nat}(hk:k<p.Nodes.length)(hl:l.length<=5)(hS:StB p.Funcs l):
  aPE ⟨p⟩ k l=some (if 40<(p.Nodes.length:Int)+l.length-1 then (⟨[],[]⟩,6) else if Ak p.Funcs l=true then (⟨p.Funcs,kB p.Nodes k l⟩,0) else (⟨[],[]⟩,6)):=by
 have hn:=hp.n;unfold aPE aVP;simp only[Tr.den];rw[cR (n:=(p.Nodes.length:Int)+l.length) (by omega) (by omega),cR (n:=(p.Nodes.length:Int)+l.length-1) (by omega) (by omega)];by_cases h40:40<(p.Nodes.length:Int)+l.length-1
 ·rw[aA (bS (by omega)),aA h40]
 rw[aF (bQ (by omega)),aF h40];have w0:cB (fun s=>(yS ⟨p⟩ l s).den) 0=some (if (l.all fun n=>n.Exprs.all (okE p.Funcs))=true then .inl () else .inr (⟨[],[]⟩,6)):=by
  refine kA (fun n=>n.Exprs.all (okE p.Funcs)) l (by omega) (fun i hi=>?_) ?_
  ·obtain⟨hb,hst⟩:=hS _ (aQ hi);unfold yS;simp only[Tr.den,aJ];rw[aA (bS (by omega)),aA (by omega),aJH hb.e (fun e he=>⟨hb.eB e he,hst e he⟩)];simp only[aK];cases (l.getD i default).Exprs.all (okE p.Funcs) <;> rfl
  ·unfold yS;simp only[Tr.den];rw[aF (bQ (by omega))]
 rw[w0];simp only[aK];by_cases ho:Ak p.Funcs l=true
 ·have ho':(l.all fun n=>n.Exprs.all (okE p.Funcs))=true:=ho;rw[aA ho,aA ho'];simp only[dG];rw[aJN hp.f hp.fB];simp only[aK];rw[aA (by omega),aUC _ (by simp) ?_]
  ·simp only[aK];have e0:(List.flatMap id [(p.Nodes.drop (0:Int).toNat).take ((k:Int)-0).toNat,l])=p.Nodes.take k++l:=by simp only[sU,zG,id,jJ,tD,List.drop_zero,Int.sub_zero,aJ]
   rw[e0];have hBl:∀ x,x∈p.Nodes.take k++l->BN x:=by
    intro x hx;rcases dZ.1 hx with hx | hx
    ·exact hp.nB _ (zU hx)
    ·exact(hS _ hx).1
   have w1:cB (fun s=>(uS (p.Nodes.take k++l) s).den) ([],0)=some (.inl (p.Nodes.take k++l)):=by
    have:=eP (st:=fun v i=>(v,i)) (bd:=fun s=>(uS (p.Nodes.take k++l) s).den) (fun n=>n) (p.Nodes.take k++l) [] (r:=fun v=>.inl v) (by simp; omega) (fun v i hi hv=>?_) (fun v=>?_)
    ·simpa using this
    ·unfold uS;simp only[Tr.den,aJ];rw[aA (bS (by omega)),aA (by omega),aCV (hBl _ (aQ hi))];simp only[aK];rw[aA (by simp at hi hv; omega)]
    ·unfold uS;simp only[Tr.den];rw[aF (bQ (by omega))]
   rw[w1];simp only[aK,dG];have e2:((p.Nodes.length:Int)-IntKind.i64.wrap ((k:Int)+1)).toNat=p.Nodes.length-(k+1):=by rw[bO (by omega)]; omega
   have e1:((p.Nodes.drop (IntKind.i64.wrap ((k:Int)+1)).toNat).take (p.Nodes.length-(k+1)))=p.Nodes.drop (k+1):=by rw[bO (by omega),aJ];exact uP _ _
   have e3:IntKind.i64.wrap ((k:Int)+1)=((k+1:Nat):Int):=bO (by omega);rw[aA (by omega)];have w2:cB (fun s=>(yR ⟨p⟩ k l p.Funcs s).den) (p.Nodes.take k++l,0)=some (.inl (kB p.Nodes k l)):=by
    rw[kB];refine eP (st:=fun v i=>(v,i)) (shN k ((l.length:Int)-1)) (p.Nodes.drop (k+1)) _ (r:=fun v=>Sum.inl v) (by simp; omega) (fun v i hi hv=>?_) fun v=>?_
    ·have hb:=hp.nB _ (kF hi);have hin:=hI _ (kF hi);have hbi:=hb.i;unfold yR;simp only[Tr.den,e1,e2,aJ];rw[aA (bS (by omega)),aA (by omega),Jm hb];simp only[aK];rw[oM (st:=fun w j=>(v,w,j)) (shi k ((l.length:Int)-1)) ((p.Nodes.drop (k+1)).getD i default).In (r:=fun w=>.inl (v,w)) (by omega) (fun w j hj hw hg=>?_) fun w hw=>?_]
     ·simp only[aK,dG];rw[aA (by simp at hi hv ⊢; omega)];rfl
     ·unfold Eo;have hji:=hin _ (aQ hj);simp only[Tr.den,aJ,hg];rw[aA (bS (by omega)),aA (by omega),aA (by omega)];by_cases hge:(k:Int)<=((p.Nodes.drop (k+1)).getD i default).In.getD j default
      ·rw[aA (bS (by omega)),aA (by omega),aA (by omega),aA (by simp; omega),shi,aA hge,cR (n:=_+(l.length:Int)) (by omega) (by omega),cR (n:=_-1) (by omega) (by omega),Int.add_sub_assoc];rfl
      ·rw[aF (bQ (by omega)),shi,aF hge,<-hg,kN (by omega)];rfl
     ·unfold Eo;simp only[Tr.den,hw];rw[aF (bQ (by omega))]
    ·unfold yR;simp only[Tr.den,e1,e2];rw[aF (bQ (by omega))]
   rw[w2];rfl
  ·intro x hx;rcases aX.1 hx with rfl | hx
   ·simp; omega
   ·rcases cG.1 hx with rfl;omega
 ·have ho':¬ (l.all fun n=>n.Exprs.all (okE p.Funcs))=true:=ho;rw[aF ho,aF ho'];rfl
theorem aIZ{p:aB}(hp:BP p):aKZ ⟨p⟩=some p:=by
 have hn:=hp.n;unfold aKZ aYY;simp only[Tr.den];rw[aJN hp.f hp.fB];simp only[aK];have w1:cB (fun s=>(uL ⟨p⟩ s).den) ([],0)=some (.inl p.Nodes):=by
  have:=eP (st:=fun v i=>(v,i)) (bd:=fun s=>(uL ⟨p⟩ s).den) (fun n=>n) p.Nodes [] (r:=fun v=>.inl v) (by omega) (fun v i hi hv=>?_) (fun v=>?_)
  ·simpa using this
  ·unfold uL;simp only[Tr.den,aJ];rw[aA (bS (by omega)),aA (by omega),Jm (hp.nB _ (aQ hi))];simp only[aK];rw[aA (by simp at hi hv ⊢; omega)]
  ·unfold uL;simp only[Tr.den];rw[aF (bQ (by omega))]
 rw[w1];cases p; rfl
theorem aIG{p:aB}(hp:BP p):Nu ⟨p⟩=some p:=by rw[<-aIZ hp];unfold Nu aKZ;rfl
theorem mX{A:Type}[Inhabited A](p:A->Bool)(l:List A){bd:Int->Option (Int⊕(Unit⊕Int))}(hn:l.length<=1000000000000)
  (h:∀ k:Nat,k<l.length->bd (k:Int)=some (if p (l.getD k default)=true then .inl (IntKind.i64.wrap ((k:Int)+1)) else .inr (.inr (k:Int))))
  (hf:bd (l.length:Int)=some (.inr (.inl ()))):((cB bd 0).bind (sel (fun _=>some (-1:Int)) some)).bind (fun r=>some (decide (r>=0)))=some (!l.all p):=by
 rcases qV (a:=fun k=>Sum.inr k) (r:=Sum.inl ()) p l hn h hf with⟨h1,h2⟩ | ⟨h1,k,hk,h2⟩
 ·rw[h2,h1]; rfl
 ·rw[h2,h1];simp only[aK,fP];rw[bS (by omega)]; rfl
theorem zB{l:List Int}(hn:l.length<=1000000000):aUQ l a=some (decide (a∈l)):=by
 unfold aUQ aUH bAM aRT;simp only[Tr.den];rw[mX (fun x=>!(a==x)) l (by omega) (fun k hk=>?_) ?_]
 ·congr 1
  rw[kV];simp
 ·unfold Gz;simp only[Tr.den];rw[aF (bQ (by omega))]
 ·unfold Gz;simp only[Tr.den,aJ];rw[aA (bS (by omega)),aA (by omega)];by_cases hx:(a==l.getD k default)=true
  ·rw[aA hx,aF (by rw[hx]; simp)]
  ·rw[aF hx,aA (by rw[Bool.eq_false_iff.2 hx]; rfl)]
theorem uI{l:List Int}{p:Int->Bool}(h:∀ c,c∈l↔c∈r):l.all p=r.all p:=by rw[kV,dQ,dQ];exact⟨fun hh c hc=>hh c ((h c).2 hc),fun hh c hc=>hh c ((h c).1 hc)⟩
section
variable {nf nc:Nat} {e:aE} (h:cE e) (hw:wfE nf nc e) (hn:nc<=1000000000)
include h hw hn
theorem aFR(hk:n.Key.length<=1000000000):Lw e n=some (if ((cS e).all fun c=>decide (c∈n.Key))=true then some () else none):=by
 obtain⟨r,h1,h2,h3⟩:=(tR e h hw hn).get;unfold Lw Mt aJA Od aFM Pv;simp only[Tr.den,h1,aK];rw[mX (fun c=>decide (c∈n.Key)) r (by omega) (fun k hk=>?_) ?_,uI h3]
 ·simp only[aK,Bool.not_not,cT];cases (cS e).all fun c=>decide (c∈n.Key) <;> rfl
 ·unfold vL;simp only[Tr.den];rw[aF (bQ (by omega))]
 ·unfold vL aGO Ln aGU Rs;simp only[Tr.den,aJ];rw[aA (bS (by omega)),aA (by omega),zB (by assumption)];simp only[aK];cases decide (r.getD k default∈n.Key) <;> rfl
theorem aIV:Oc e n=some (if ((cS e).all fun c=>decide (c<(n.Key.length:Int)))=true then some () else none):=by
 obtain⟨r,h1,h2,h3⟩:=(tR e h hw hn).get;unfold Oc Ql aHL Mw aEZ Nf;simp only[Tr.den,h1,aK];rw[mX (fun c=>decide (c<(n.Key.length:Int))) r (by omega) (fun k hk=>?_) ?_,uI h3]
 ·simp only[aK,Bool.not_not,cT];cases (cS e).all fun c=>decide (c<(n.Key.length:Int)) <;> rfl
 ·unfold vT;simp only[Tr.den];rw[aF (bQ (by omega))]
 ·unfold vT aIW Po aGR Lx;simp only[Tr.den,aJ];rw[aA (bS (by omega)),aA (by omega)];simp only[aK];cases decide (r.getD k default<(n.Key.length:Int)) <;> rfl
theorem aIC{p:aB}{k:Int}{nd:aC}:Kv e ⟨p,k,m,nd⟩ a=some (if ((cS e).all fun c=>decide (c<a)==(m==0))=true then some () else none):=by
 obtain⟨r,h1,h2,h3⟩:=(tR e h hw hn).get;unfold Kv Lp aFH Nc aGC Ms;simp only[Tr.den,h1,aK];rw[mX (fun c=>decide (c<a)==(m==0)) r (by omega) (fun k hk=>?_) ?_,uI h3]
 ·simp only[aK,Bool.not_not,cT];cases (cS e).all fun c=>decide (c<a)==(m==0) <;> rfl
 ·unfold wX;simp only[Tr.den];rw[aF (bQ (by omega))]
 ·unfold wX aFW Lg aGD Oh;simp only[Tr.den,aJ];rw[aA (bS (by omega)),aA (by omega)];simp only[aK];cases (decide (r.getD k default<a)==(m==0)) <;> rfl
end
theorem aYQ{e:aE}{l:List aE}(h:cE e)(hl:∀ x,x∈l->cE x):aOP e 3 l=some (ofM (lQ 3 l e)):=Sp.eq (aMP true e 3 l h hl)
noncomputable def nW (e:aE)(l:List aE):Option aE:=(lQ 3 l e).bind fun r=>if jW r<=12 then some r else none
theorem Gy{e:aE}{l:List aE}(h:cE e)(hl:∀ x,x∈l->cE x):aJS e l=some (ofM (nW e l)):=by
 unfold aJS aYR nW;simp only[Tr.den,aYQ h hl,aK];cases hp:lQ 3 l e with
 | none=>rfl
 | some r=>
  have hz:ofM (some r)=(r,true):=rfl;rw[hz];simp only[iP,cK,bY,aHO (Ki hl h r hp),aK];by_cases h1:jW r<=12
  ·rw[aF (bQ (by omega)),aA h1]; rfl
  ·rw[aA (bS (by omega)),aF h1]; rfl
def kS:aE->Int
 | .mk _ _ _ xs=>IntKind.i64.wrap (go 0 xs+1)
where go (m:Int):List aE->Int
 | []=>m
 | x::xs=>go (if kS x>m then kS x else m) xs
theorem aNR(xs:List aE)(m:Int):kS.go m xs=xs.foldl (fun m x=>if kS x>m then kS x else m) m:=by
 induction xs generalizing m with
 | nil=>rfl
 | cons x xs ih=>rw[kS.go,ih]; rfl
theorem Gm(e:aE):kS e=IntKind.i64.wrap (e.Args.foldl (fun m x=>if kS x>m then kS x else m) 0+1):=by cases e with | mk a b s xs=>rw[kS,aNR]; rfl
theorem bAT{e:aE}(h:cE e):G80 e=some (kS e):=by
 refine Sp.eq ?_;unfold G80 H80;refine fX _ _ _ cE (fun e=>SizeOf.sizeOf e) (fun e y=>y=kS e) (fun b f e he hrec=>?_) true e h;obtain⟨hs,hl,hA⟩:=he.get;unfold T80;simp only[Tr.den];refine Sq.bind (fun z=>z = .inl (e.Args.foldl (fun m x=>if kS x>m then kS x else m) 0)) ?_ fun z hz=>by subst hz; exact aD.2 (Gm e).symm
 refine dO (fun s=>s.2) e.Args.length (by omega) (fun s=>s.1=(e.Args.take s.2.toNat).foldl (fun m x=>if kS x>m then kS x else m) 0) (fun s k hI hk hkN=>?_) rfl rfl;obtain⟨v1,v2⟩:=s;simp only at hk hI;subst hk;simp only[aJ]at hI;unfold nI;simp only[Tr.den,aJ];by_cases hc:k<e.Args.length
 ·rw[aA (bS (by omega)),aA (by omega)];refine Sq.bind _ (hrec _ (hA k hc) (dR (aQ hc))) fun r hr=>?_;subst hr;refine aD.2 ⟨rfl,hc,?_⟩;simp only;rw[bO (by omega),aJ,dU hc,List.foldl_append,<-hI];rfl
 ·rw[aF (bQ (by omega))];refine aD.2 ?_;simp only[sel];rw[hI,fS (by omega)]
theorem aGK{e:aE}(h:cE e):jW e=kS e:=by rw[jW,bAT h]; rfl
def fG(f:Int->Int):aE->aE
 | .mk o n s xs=>.mk o (if o=3 then f n else n) s (go xs)
where go:List aE->List aE
 | []=>[]
 | x::xs=>fG f x::go xs
theorem Vy(f:Int->Int):∀ xs,fG.go f xs=xs.map (fG f)
 | []=>rfl
 | x::xs=>by simp only[fG.go,kY,Vy f xs]
theorem pL(f:Int->Int)(e:aE):fG f e=aE.mk e.Op (if e.Op=3 then f e.N else e.N) e.S (e.Args.map (fG f)):=by cases e with | mk a b s xs=>rw[fG,Vy]; rfl
theorem Au(f:Int->Int){e:aE}(h:cE e):cE (fG f e):=by
 induction h with
 | @mk e hs hl hA ih=>
  rw[pL];refine cE.mk (e:=aE.mk _ _ _ _) hs (by show (List.map _ _).length<=_; rw[iG]; exact hl) (fun i hi=>?_);have hi':i<e.Args.length:=by
   have:i<(e.Args.map (fG f)).length:=hi
   rwa [iG]at this
  have:=ih i hi';show cE ((e.Args.map (fG f)).getD i default);rw[eJ (by simpa using hi'),List.getElem_map,<-eJ hi'];exact this
theorem aDL(f:Int->Int){e:aE}(h:cE e):kS (fG f e)=kS e:=by
 induction h with
 | @mk e hs hl hA ih=>
  have hm:∀ x,x∈e.Args->kS (fG f x)=kS x:=by
   intro x hx;obtain⟨i,hi,rfl⟩:=Bc hx;have:=ih i hi
   rwa [eJ hi]at this
  rw[pL,Gm,Gm e];show IntKind.i64.wrap (List.foldl _ 0 (e.Args.map (fG f))+1)=_
  congr 2
  rw[List.foldl_map];generalize (0:Int)=m;have:∀ (l:List aE) (m:Int),(∀ x,x∈l->x∈e.Args)->l.foldl (fun m x=>if kS (fG f x)>m then kS (fG f x) else m) m=l.foldl (fun m x=>if kS x>m then kS x else m) m:=by
   intro l
   induction l with
   | nil=>intros; rfl
   | cons x l ihl=>intro m hx;simp only[Ix,hm x (hx x dJ)];exact ihl _ fun y hy=>hx y (cV _ hy)
  exact this _ _ fun x hx=>hx
theorem iV{A:Type}[Inhabited A]{l:List A}{x:A}(h:x∈l):∃ i,i<l.length/\l.getD i default=x:=by obtain⟨i,hi,rfl⟩:=Bc h;exact⟨i,hi,eJ hi⟩
theorem Hi{f:Int->Int}{nf nc nc':Nat}{e:aE}(h:wfE nf nc e)(hf:∀ c,c∈cS e->0<=f c/\f c<(nc':Int)):wfE nf nc' (fG f e):=by
 induction h with
 | @mk e h1 h2 h3 hA ih=>
  rw[pL];refine wfE.mk (e:=aE.mk _ _ _ _) (fun h=>?_) (fun h=>?_) (fun h=>?_) fun x hx=>?_
  ·show 3<=(List.map _ _).length;rw[iG]; exact h1 h
  ·have h':e.Op=22:=h;show 0<=(if e.Op=3 then f e.N else e.N)/\(if e.Op=3 then f e.N else e.N)<_;rw[aF (by omega)];exact h2 h'
  ·have h':e.Op=3:=h;obtain⟨_,_,a1,a2⟩:=h3 h';show 0<=(if e.Op=3 then f e.N else e.N)/\(if e.Op=3 then f e.N else e.N)<_/\e.S=_/\e.Args.map (fG f)=[];rw[aA h',a2];have:=hf e.N (by rw[iX,aA h']; simp);exact⟨this.1,this.2,a1,rfl⟩
  ·have hx':x∈e.Args.map (fG f):=hx;obtain⟨y,hy,rfl⟩:=dW.1 hx';refine ih y hy fun c hc=>hf c ?_;rw[iX,dZ];exact Or.inr (zO.2 ⟨y,hy,hc⟩)
theorem aME{nf nc nc':Nat}{l:List aE}(hl:∀ x,x∈l->wfE nf nc' x){e:aE}(h:wfE nf nc e):∀ r,lQ 3 l e=some r->wfE nf nc' r:=by
 induction h with
 | @mk e h1 h2 h3 hA ih=>
  intro r hr;rw[tP]at hr;split at hr
  ·split at hr
   ·cases hr
   ·rename_i h2;cases hr;simp only[Bool.or_eq_false_iff,decide_eq_false_iff_not]at h2;exact hl _ (aQ (by omega))
  ·rename_i hne;have hne:e.Op≠3:=by simpa using hne
   simp only[gB]at hr;obtain⟨ys,hys,rfl⟩:=hr;obtain⟨e1,e2⟩:=tS hys;refine wfE.mk (e:=aE.mk _ _ _ _) (fun h=>?_) (fun h=>h2 h) (fun h=>absurd h hne) fun x hx=>?_
   ·have:=h1 h;show 3<=ys.length;omega
   ·obtain⟨y,hy,hxy⟩:=e2 x hx;exact ih y hy x hxy
theorem Kq{A B:Type}{f:A->Option B}{g:A->B}:∀ {l:List A},(∀ x,x∈l->f x=some (g x))->l.mapM f=some (l.map g)
 | [],_=>rfl
 | x::l,h=>by rw[sK,h x dJ,Kq fun y hy=>h y (cV _ hy)]; rfl
theorem Ip{A B:Type}{f:A->Option B}:∀ {l:List A} {x:A},x∈l->f x=none->l.mapM f=none
 | x::l,y,h,hy=>by
  rw[sK];rcases aX.1 h with rfl | h
  ·rw[hy]; rfl
  ·rw[Ip h hy];cases f x <;> rfl
theorem aIE{f:Int->Int}{nf nc:Nat}{l:List aE}{e:aE}(h:wfE nf nc e)(hf:∀ c,c∈cS e->0<=c/\c<(l.length:Int)/\l.getD c.toNat default=aE.mk 3 (f c) ⟨#[]⟩ []):lQ 3 l e=some (fG f e):=by
 induction h with
 | @mk e h1 h2 h3 hA ih=>
  rw[tP,pL];by_cases h0:e.Op=3
  ·obtain⟨_,_,a1,a2⟩:=h3 h0;obtain⟨b1,b2,b3⟩:=hf e.N (by rw[iX,aA h0]; simp);rw[h0];simp only[BEq.rfl];rw[show decide (e.N<0)=false by simp; omega,show decide (e.N>=(l.length:Int))=false by simp; omega,a1,a2,b3];rfl
  ·rw[show (e.Op==3)=false by simpa using h0,aF h0];simp only;rw[Kq (g:=fG f) fun x hx=>ih x hx fun c hc=>hf c ?_]
   ·rfl
   ·rw[iX,dZ];exact Or.inr (zO.2 ⟨x,hx,hc⟩)
theorem aIK{nf nc:Nat}{l:List aE}{e:aE}(h:wfE nf nc e){c:Int}(hc:c∈cS e)(ho:¬ (0<=c/\c<(l.length:Int))):lQ 3 l e=none:=by
 induction h with
 | @mk e h1 h2 h3 hA ih=>
  rw[tP];rw[iX,dZ]at hc;by_cases h0:e.Op=3
  ·obtain⟨_,_,a1,a2⟩:=h3 h0;rw[aA h0,a2]at hc;simp at hc;subst hc;rw[h0];simp only[BEq.rfl];have:(decide (e.N<0) || decide (e.N>=(l.length:Int)))=true:=by simp only[mP,pQ]; omega
   rw[this]
  ·rw[aF h0]at hc;simp only[vU,false_or]at hc;obtain⟨x,hx,hc⟩:=zO.1 hc;rw[show (e.Op==3)=false by simpa using h0];simp only;rw[Ip hx (ih x hx hc)];rfl
theorem Iy{e x:aE}(hx:x∈e.Args){c:Int}(hc:c∈cS x):c∈cS e:=by rw[iX,dZ];exact Or.inr (zO.2 ⟨x,hx,hc⟩)
theorem aJM{nf nc:Nat}{e:aE}{q:aC}(h:cE e)(hw:wfE nf nc e)(hf:∀ c,c∈cS e->0<=c/\c<(q.Key.length:Int)):Gu e q=some (fG (fun c=>q.Key.getD c.toNat default) e):=by
 refine Sp.eq ?_;unfold Gu Om;refine fX _ _ _ (fun a=>cE a.1/\wfE nf nc a.1/\∀ c,c∈cS a.1->0<=c/\c<(a.2.Key.length:Int)) (fun a=>SizeOf.sizeOf a.1) (fun a y=>y=fG (fun c=>a.2.Key.getD c.toNat default) a.1) (fun b f a ha hrec=>?_) true (e,q) ⟨h,hw,hf⟩;clear h hw hf e q;obtain⟨e,q⟩:=a;obtain⟨he,hw,hf⟩:=ha;simp only at he hw hf hrec;obtain⟨hs,hl,hA⟩:=he.get;obtain⟨w1,w2,w3,wA⟩:=hw.get;have hr:∀ i,i<e.Args.length->Sq b (f.1 (e.Args.getD i default,q)) (fun y=>y=fG (fun c=>q.Key.getD c.toNat default) (e.Args.getD i default)):=fun i hi=>hrec (_,q) ⟨hA i hi,wA _ (aQ hi),fun c hc=>hf c (Iy (aQ hi) hc)⟩ (dR (aQ hi));unfold Eu;simp only[Tr.den];have hlf:(if (e.Op==3)=true then (Sd e.N q).bind (fun r=>some r) else some e.N)=some (if e.Op=3 then (fun c=>q.Key.getD c.toNat default) e.N else e.N):=by
  by_cases h0:e.Op=3
  ·rw[aA (dB h0),aA h0];unfold Sd Qh;simp only[Tr.den];rw[aA (by have:=hf e.N (by rw[iX,aA h0]; simp); omega)];rfl
  ·rw[aF (eE h0),aF h0]
 rw[hlf,pL];simp only[aK];refine Sq.bind (fun z=>z = .inl (e.Args.map (fG (fun c=>q.Key.getD c.toNat default)))) ?_ fun z hz=>by subst hz; exact aD.2 rfl
 refine dO (fun s=>s.2) e.Args.length (by omega) (fun s=>s.1=(e.Args.take s.2.toNat).map (fG (fun c=>q.Key.getD c.toNat default))) (fun s k hI hk hkN=>?_) rfl rfl;obtain⟨v1,v2⟩:=s;simp only at hk hI;subst hk;simp only[aJ]at hI;unfold Dy;simp only[Tr.den,aJ];by_cases hc:k<e.Args.length
 ·rw[aA (bS (by omega)),aA (by omega)];refine Sq.bind _ (hr k hc) fun r hr=>?_;subst hr;have hlen:v1.length<=k:=by rw[hI]; simp; omega
  rw[aA (by simp; omega)];refine aD.2 ⟨rfl,hc,?_⟩;simp only;rw[bO (by omega),aJ,dU hc,Cn,<-hI];rfl
 ·rw[aF (bQ (by omega))];refine aD.2 ?_;simp only[sel];rw[hI,fS (by omega)]
theorem aJU{nf nc:Nat}{e:aE}{q:Int}(h:cE e)(hw:wfE nf nc e)(hf:(0<=q/\q<=1000000000)/\∀ c,c∈cS e->0<=c/\c<10000000000):Gj e q=some (fG (fun c=>c-q) e):=by
 refine Sp.eq ?_;unfold Gj Ld;refine fX _ _ _ (fun a=>cE a.1/\wfE nf nc a.1/\(0<=a.2/\a.2<=1000000000)/\∀ c,c∈cS a.1->0<=c/\c<10000000000) (fun a=>SizeOf.sizeOf a.1) (fun a y=>y=fG (fun c=>c-a.2) a.1) (fun b f a ha hrec=>?_) true (e,q) ⟨h,hw,hf⟩;clear h hw hf e q;obtain⟨e,q⟩:=a;obtain⟨he,hw,hf⟩:=ha;simp only at he hw hf hrec;obtain⟨hs,hl,hA⟩:=he.get;obtain⟨w1,w2,w3,wA⟩:=hw.get;have hr:∀ i,i<e.Args.length->Sq b (f.1 (e.Args.getD i default,q)) (fun y=>y=fG (fun c=>c-q) (e.Args.getD i default)):=fun i hi=>hrec (_,q) ⟨hA i hi,wA _ (aQ hi),hf.1,fun c hc=>hf.2 c (Iy (aQ hi) hc)⟩ (dR (aQ hi));unfold Ff;simp only[Tr.den];have hlf:(if (e.Op==3)=true then (Qp e.N q).bind (fun r=>some r) else some e.N)=some (if e.Op=3 then (fun c=>c-q) e.N else e.N):=by
  by_cases h0:e.Op=3
  ·rw[aA (dB h0),aA h0];unfold Qp Pg;simp only[Tr.den];have:=hf.2 e.N (by rw[iX,aA h0]; simp);rw[cR (by omega) (by omega)];rfl
  ·rw[aF (eE h0),aF h0]
 rw[hlf,pL];simp only[aK];refine Sq.bind (fun z=>z = .inl (e.Args.map (fG (fun c=>c-q)))) ?_ fun z hz=>by subst hz; exact aD.2 rfl
 refine dO (fun s=>s.2) e.Args.length (by omega) (fun s=>s.1=(e.Args.take s.2.toNat).map (fG (fun c=>c-q))) (fun s k hI hk hkN=>?_) rfl rfl;obtain⟨v1,v2⟩:=s;simp only at hk hI;subst hk;simp only[aJ]at hI;unfold Dw;simp only[Tr.den,aJ];by_cases hc:k<e.Args.length
 ·rw[aA (bS (by omega)),aA (by omega)];refine Sq.bind _ (hr k hc) fun r hr=>?_;subst hr;have hlen:v1.length<=k:=by rw[hI]; simp; omega
  rw[aA (by simp; omega)];refine aD.2 ⟨rfl,hc,?_⟩;simp only;rw[bO (by omega),aJ,dU hc,Cn,<-hI];rfl
 ·rw[aF (bQ (by omega))];refine aD.2 ?_;simp only[sel];rw[hI,fS (by omega)]
def dY(j:Int)(e:aE)(c:List aT):aC:=aC.mk 1 [j] ⟨#[]⟩ 0 [e] 0 0 0 [] [] 0 0 0 [] [] c
def gN(n:aC)(l:List Int)(c:List aT):aC:=aC.mk n.Op l n.Source n.Schema n.Exprs n.Kind n.Size n.Step n.Key n.Key2 n.Before n.After n.Keep n.Aggs n.Seq c
theorem aDT(n:aC):gN n n.In n.Cols=n:=by cases n; rfl
def ncA(ns:List aC)(j:Int):Nat:=(ns.getD j.toNat default).Cols.length
structure WN (nf:Nat)(nc:Int->Nat)(i:Int)(n:aC):Prop where
 b:BN n
 hin:∀ j,j∈n.In->0<=j/\j<i
 ex:∀ e,e∈n.Exprs->∃ j,n.In.head? = some j/\wfE nf (nc j) e
 s1:n.Op=1->∃ j f c,n=dY j f c/\c.length=nc j
 s2:n.Op=2->∃ j,n.In=[j]
 s3:n.Op=3->∃ j k,n.In=[j,k]/\n.Cols.length=nc j/\n.Cols.length=nc k
 s4:n.Op=4\/n.Op=8->∃ j,n.In=[j]/\∀ c,c∈n.Key->0<=c/\c<(nc j:Int)
 s4k:n.Op=4->n.Key.length<=n.Cols.length
 s5:n.Op=5->∃ j,n.In=[j]/\n.Cols.length=nc j
 s6:n.Op=6\/n.Op=7->∃ j k,n.In=[j,k]/\n.Cols.length=nc j+nc k
 e0:n.Op≠1->n.Op≠2->n.Exprs=[]
def inG(n:aC)(g:Int->Int):aC:=gN n (n.In.map g) n.Cols
theorem BN.inG(h:BN n)(l:List Int)(hl:l.length<=1000000000)(c:List aT)(hc:c.length<=1000000000):BN (gN n l c):=⟨hl,h.e,h.eB,h.k,h.k2,h.a,h.s,h.sB,hc⟩
theorem WN.map{nf:Nat}{nc nc':Int->Nat}{i i':Int}{n:aC}(h:WN nf nc i n)(g:Int->Int)(hg:∀ j,j∈n.In->nc' (g j)=nc j/\0<=g j/\g j<i'):WN nf nc' i' (inG n g):=by
 refine⟨h.b.inG _ (by rw[iG]; exact h.b.i) _ h.b.c,fun j hj=>?_,fun e he=>?_,fun hop=>?_,fun hop=>?_,fun hop=>?_,fun hop=>?_,h.s4k,fun hop=>?_,fun hop=>?_,h.e0⟩
 ·obtain⟨x,hx,rfl⟩:=dW.1 hj;exact(hg x hx).2
 ·obtain⟨j,h1,h2⟩:=h.ex e he;have hm:j∈n.In:=by
   cases hl:n.In with
   | nil=>rw[hl]at h1; cases h1
   | cons a t=>rw[hl]at h1; cases h1; exact dJ
  refine⟨g j,?_,by rw[(hg j hm).1]; exact h2⟩;show (n.In.map g).head? = _;rw[List.head?_map,h1]; rfl
 ·obtain⟨j,f,c,rfl,h2⟩:=h.s1 hop;exact⟨g j,f,c,rfl,by rw[(hg j dJ).1]; exact h2⟩
 ·obtain⟨j,h1⟩:=h.s2 hop;exact⟨g j,by show n.In.map g=_; rw[h1]; rfl⟩
 ·obtain⟨j,k,h1,h2,h3⟩:=h.s3 hop;exact⟨g j,g k,by show n.In.map g=_; rw[h1]; rfl,by rw[(hg j (by rw[h1]; simp)).1]; exact h2,by rw[(hg k (by rw[h1]; simp)).1]; exact h3⟩
 ·obtain⟨j,h1,h2⟩:=h.s4 hop;exact⟨g j,by show n.In.map g=_; rw[h1]; rfl,by rw[(hg j (by rw[h1]; simp)).1]; exact h2⟩
 ·obtain⟨j,h1,h2⟩:=h.s5 hop;exact⟨g j,by show n.In.map g=_; rw[h1]; rfl,by rw[(hg j (by rw[h1]; simp)).1]; exact h2⟩
 ·obtain⟨j,k,h1,h2⟩:=h.s6 hop;exact⟨g j,g k,by show n.In.map g=_; rw[h1]; rfl,by rw[(hg j (by rw[h1]; simp)).1,(hg k (by rw[h1]; simp)).1]; exact h2⟩
theorem aRS{g:Int->Int}(h:∀ j,j∈n.In->g j=j):inG n g=n:=by
 unfold inG;have:n.In.map g=n.In:=by
  conv=>rhs; rw[<-List.map_id n.In]
  exact List.map_congr_left h
 rw[this,aDT]
theorem WN.nc{nf:Nat}{nc nc':Int->Nat}{i i':Int}(h:WN nf nc i n)(hg:∀ j,j∈n.In->nc' j=nc j/\j<i'):WN nf nc' i' n:=by
 have:=h.map (nc':=nc') (i':=i') id fun j hj=>⟨(hg j hj).1,(h.hin j hj).1,(hg j hj).2⟩
 rwa [aRS (g:=id) fun _ _=>rfl]at this
theorem aOA(k d:Int)(n:aC):shN k d n=inG n (shi k d):=rfl
def LW(ns:List aC):Prop:=∀ n,n∈ns->∀ e,e∈n.Exprs->jW e<=12
structure WP (p:aB):Prop where
 f:p.Funcs.length<=1000000000
 fB:∀ x,x∈p.Funcs->BF x
 fw:FW p.Funcs
 n:p.Nodes.length<=40
 w:∀ i,i<p.Nodes.length->WN p.Funcs.length (ncA p.Nodes) i (p.Nodes.getD i default)
 lw:LW p.Nodes
theorem WP.b{p:aB}(h:WP p):BP p:=⟨h.f,h.fB,gV h.n (by omega),fun x hx=>by obtain⟨i,hi,rfl⟩:=iV hx; exact(h.w i hi).b⟩
theorem WP.iB{p:aB}(h:WP p):InB p.Nodes:=fun x hx j hj=>by obtain⟨i,hi,rfl⟩:=iV hx;have:=(h.w i hi).hin j hj;have:=h.n;omega
def ncL(ns:List aC)(k:Nat)(l:List aC)(j:Int):Nat:=if j<(k:Int) then ncA ns j else (l.getD (j.toNat-k) default).Cols.length
structure jN (p:aB)(k:Nat)(l:List aC):Prop where
 n:l.length<=3
 w:∀ i,i<l.length->WN p.Funcs.length (ncL p.Nodes k l) ((k+i:Nat):Int) (l.getD i default)
 last:(l=[]/\∀ n,n∈p.Nodes->(k:Int)∉n.In)\/(l≠[]/\(l.getD (l.length-1) default).Cols.length=ncA p.Nodes k)
theorem aMQ(hf:fs.length<=1000000000)(hW:FW fs){nc:Nat}{e:aE}(h:cE e)(hw:wfE fs.length nc e):Id fs e=some (Ko fs e):=by obtain⟨y,hy,_⟩:=(aPR fs nc e hf hW h hw).get;rw[Ko,hy]; rfl
theorem jN.st{p:aB}(h:WP p){k:Nat}(hl:jN p k l):StB p.Funcs l:=fun x hx=>by obtain⟨i,hi,rfl⟩:=iV hx;have hw:=hl.w i hi;refine⟨hw.b,fun e he=>?_⟩;obtain⟨j,_,h2⟩:=hw.ex e he;exact aMQ h.f h.fw (hw.b.eB e he) h2
theorem Jg{k:Nat}(hk:k<ns.length):(kB ns k l).length=ns.length+l.length-1:=by simp only[kB,cZ,dM,iG,fI];omega
theorem Td{k:Nat}(hk:k<ns.length)(hi:i<k):(kB ns k l).getD i default=ns.getD i default:=by unfold kB;rw[cI,cI,gX,eT (by simp; omega),Cc hi]
theorem Ie{k:Nat}(hk:k<ns.length)(hi:i<l.length):(kB ns k l).getD (k+i) default=l.getD i default:=by
 unfold kB;rw[cI,cI,gX,eH (by simp; omega),eT (by simp; omega)]
 congr 3
 simp; omega
theorem Fp{k:Nat}(hk:k<ns.length)(hi:k+1+i<ns.length):(kB ns k l).getD (k+l.length+i) default=shN k ((l.length:Int)-1) (ns.getD (k+1+i) default):=by
 unfold kB;rw[cI,eH (by simp; omega)];have e1:k+l.length+i-(ns.take k++l).length=i:=by simp; omega
 rw[e1,fD,iD,gJ hi,eJ hi];rfl
theorem tA{k:Nat}(hk:k<ns.length)(h0:0<=j)(hj:j<(k:Int)):ncA (kB ns k l) j=ncA ns j:=by unfold ncA;rw[Td hk (by omega)]
theorem xS{k:Nat}(hk:k<ns.length)(h0:0<=j)(hj:j<((k+l.length:Nat):Int)):ncA (kB ns k l) j=ncL ns k l j:=by
 unfold ncL;by_cases h:j<(k:Int)
 ·rw[aA h,tA hk h0 h]
 ·rw[aF h];unfold ncA;rw[show j.toNat=k+(j.toNat-k) by omega,Ie hk (by omega)]
  congr 3
  omega
theorem Oq{p:aB}{k:Nat}(hk:k<p.Nodes.length)(hl:jN p k l)(h0:0<=j)(hj:j<(p.Nodes.length:Int))(hu:l=[]->j≠k):ncA (kB p.Nodes k l) (shi k ((l.length:Int)-1) j)=ncA p.Nodes j:=by
 unfold shi;by_cases h:(k:Int)<=j
 ·rw[aA h];rcases hl.last with⟨h1,h2⟩ | ⟨h1,h2⟩
  ·subst h1;have hne:=hu rfl;unfold ncA;have:=Fp hk (l:=[]) (i:=j.toNat-k-1) (by omega);rw[show (j+(([]:List aC).length-1:Int)).toNat=k+([]:List aC).length+(j.toNat-k-1) by simp; omega,this,show k+1+(j.toNat-k-1)=j.toNat by omega];rfl
  ·have hlp:0<l.length:=List.length_pos_iff.2 h1;by_cases hjk:j=k
   ·subst hjk;rw[xS hk (by omega) (by omega),ncL,aF (by omega),<-h2]
    congr 3
    omega
   ·unfold ncA;have:=Fp hk (l:=l) (i:=j.toNat-k-1) (by omega);rw[show (j+((l.length:Int)-1)).toNat=k+l.length+(j.toNat-k-1) by omega,this,show k+1+(j.toNat-k-1)=j.toNat by omega];rfl
 ·rw[aF h];exact tA hk h0 (by omega)
theorem WP.rep{p:aB}(h:WP p){k:Nat}(hk:k<p.Nodes.length)(hl:jN p k l)(h40:(p.Nodes.length:Int)+l.length-1<=40)(ho:Ak p.Funcs l=true):WP ⟨p.Funcs,kB p.Nodes k l⟩:=by
 have hlen:=Jg hk (l:=l);refine⟨h.f,h.fB,h.fw,by show (kB p.Nodes k l).length<=40; omega,fun i hi=>?_,?_⟩
 ·have hi:i<(kB p.Nodes k l).length:=hi;rw[hlen]at hi;show WN p.Funcs.length (ncA (kB p.Nodes k l)) i ((kB p.Nodes k l).getD i default);by_cases h1:i<k
  ·rw[Td hk h1];refine(h.w i (by omega)).nc fun j hj=>?_;have:=(h.w i (by omega)).hin j hj;exact⟨tA hk this.1 (by omega),this.2⟩
  ·by_cases h2:i<k+l.length
   ·have e:i=k+(i-k):=by omega
    have hw:=hl.w (i-k) (by omega);rw[e,Ie hk (by omega)];refine hw.nc fun j hj=>?_;have:=hw.hin j hj;exact⟨xS hk this.1 (by omega),this.2⟩
   ·have e:i=k+l.length+(i-k-l.length):=by omega
    have e2:k+1+(i-k-l.length)<p.Nodes.length:=by omega
    have hw:=h.w _ e2;rw[e,Fp hk e2,aOA];refine hw.map _ fun j hj=>?_;have hb:=hw.hin j hj;refine⟨Oq hk hl hb.1 (by omega) fun hl0 hjk=>?_,?_⟩
    ·rcases hl.last with⟨_,h4⟩ | ⟨h4,_⟩
     ·exact h4 _ (aQ e2) (by rw[<-hjk]; exact hj)
     ·exact h4 hl0
    ·have hlz:l=[]->j≠k:=fun hl0 hjk=>by
      rcases hl.last with⟨_,h4⟩ | ⟨h4,_⟩
      ·exact h4 _ (aQ e2) (by rw[<-hjk]; exact hj)
      ·exact h4 hl0
     have hlp:l.length=0->j≠k:=fun h0=>hlz (pA.1 h0);unfold shi;split <;> constructor <;> omega
 ·intro x hx e he;have hx:x∈kB p.Nodes k l:=hx;simp only[kB,dZ,dW]at hx;rcases hx with (hx | hx) | ⟨y,hy,rfl⟩
  ·exact h.lw x (zU hx) e he
  ·have:=dQ.1 (dQ.1 ho x hx) e he;simp only[okE,cP,pQ]at this;exact this.1
  ·exact h.lw y (List.mem_of_mem_drop hy) e he
theorem aFZ{l:List Int}(h:l.length=1):l=[l.getD 0 default]:=by
 match l,h with | [a],_=>rfl
theorem aVJ{l:List Int}(h:l.length=2):l=[l.getD 0 default,l.getD 1 default]:=by
 match l,h with | [a,b],_=>rfl
theorem WN.mov{nf:Nat}{nc nc':Int->Nat}{i i':Int}(h:WN nf nc i n){l:List Int}{c:List aT}(hl:l.length=n.In.length)
  (hg:∀ t,t<l.length->nc' (l.getD t default)=nc (n.In.getD t default)/\0<=l.getD t default/\l.getD t default<i')(hc:c.length=n.Cols.length):WN nf nc' i' (gN n l c):=by
 refine⟨h.b.inG _ (by rw[hl]; exact h.b.i) _ (by rw[hc]; exact h.b.c),fun j hj=>?_,fun e he=>?_,fun hop=>?_,fun hop=>?_,fun hop=>?_,fun hop=>?_,fun hop=>?_,fun hop=>?_,fun hop=>?_,h.e0⟩
 ·obtain⟨t,ht,rfl⟩:=iV (show j∈l from hj);exact(hg t ht).2
 ·obtain⟨j,h1,h2⟩:=h.ex e he;cases hn:n.In with
  | nil=>rw[hn]at h1; cases h1
  | cons a t=>
   rw[hn]at h1;cases h1;cases l with
   | nil=>rw[hn]at hl; cases hl
   | cons x s=>refine⟨x,rfl,?_⟩;have:=(hg 0 (by simp)).1;rw[hn]at this;have this:nc' x=nc j:=this;rw[this]; exact h2
 ·obtain⟨j,f,c0,rfl,h2⟩:=h.s1 hop;have h3:=(hg 0 (by rw[hl]; exact Nat.lt_succ_self 0)).1;rw[aFZ (l:=l) hl];exact⟨_,f,c,rfl,by rw[h3,hc]; exact h2⟩
 ·obtain⟨j,h1⟩:=h.s2 hop;exact⟨_,aFZ (l:=l) (by rw[hl,h1]; rfl)⟩
 ·obtain⟨j,k,h1,h2,h3⟩:=h.s3 hop;rw[h1]at hl hg;refine⟨_,_,aVJ (l:=l) hl,?_,?_⟩
  ·rw[(hg 0 (by rw[hl]; simp)).1]; show c.length=nc j; rw[hc]; exact h2
  ·rw[(hg 1 (by rw[hl]; simp)).1]; show c.length=nc k; rw[hc]; exact h3
 ·obtain⟨j,h1,h2⟩:=h.s4 hop;rw[h1]at hl hg;refine⟨_,aFZ (l:=l) hl,?_⟩;rw[(hg 0 (by rw[hl]; simp)).1]; exact h2
 ·show n.Key.length<=c.length;rw[hc]; exact h.s4k hop
 ·obtain⟨j,h1,h2⟩:=h.s5 hop;rw[h1]at hl hg;refine⟨_,aFZ (l:=l) hl,?_⟩;rw[(hg 0 (by rw[hl]; simp)).1]; show c.length=nc j; rw[hc]; exact h2
 ·obtain⟨j,k,h1,h2⟩:=h.s6 hop;rw[h1]at hl hg;refine⟨_,_,aVJ (l:=l) hl,?_⟩;rw[(hg 0 (by rw[hl]; simp)).1,(hg 1 (by rw[hl]; simp)).1]; show c.length=nc j+nc k; rw[hc]; exact h2
theorem Sw{nf:Nat}{nc:Int->Nat}{i:Int}{g:aE}{c:List aT}(h0:0<=j)(hj:j<i)(hB:cE g)(hw:wfE nf (nc j) g)(hc:c.length=nc j)(hc2:c.length<=1000000000):WN nf nc i (dY j g c) where
 b:=⟨by simp[dY],by simp[dY],fun x hx=>by rw[cG.1 hx]; exact hB,by simp[dY],by simp[dY],by simp[dY],by simp[dY],fun x hx=>by simp[dY]at hx,hc2⟩
 hin:=fun x hx=>by rw[cG.1 hx]; exact⟨h0,hj⟩
 ex:=fun e he=>by rw[cG.1 he]; exact⟨j,rfl,hw⟩
 s1:=fun _=>⟨j,g,c,rfl,hc⟩
 s2:=fun h=>absurd h (by show ¬ ((1:Int)=2); omega)
 s3:=fun h=>absurd h (by show ¬ ((1:Int)=3); omega)
 s4:=fun h=>absurd h (by show ¬ ((1:Int)=4\/(1:Int)=8); omega)
 s4k:=fun h=>absurd h (by show ¬ ((1:Int)=4); omega)
 s5:=fun h=>absurd h (by show ¬ ((1:Int)=5); omega)
 s6:=fun h=>absurd h (by show ¬ ((1:Int)=6\/(1:Int)=7); omega)
 e0:=fun h=>absurd rfl h
noncomputable def fin (p:aB)(k:Nat)(l:List aC):Option aB:=if (p.Nodes.length:Int)+l.length-1<=40/\Ak p.Funcs l=true then some ⟨p.Funcs,kB p.Nodes k l⟩ else none
def RA(x:Option aB)(z:aB×Int):Prop:=match x with | some q=>z=(q,0) | none=>z.1=⟨[],[]⟩/\z.2≠0
noncomputable def uY (p:aB)(k:Nat)(l:List aC):Option (List aC):=if Ak p.Funcs l=true then some (kB p.Nodes k l) else none
theorem fC{x:Option (aB×Int)}:x.bind (fun r=>some (r.1,r.2))=x:=by cases x <;> rfl
theorem gR{A:Type}{x:Option (Option A)}:x.bind (zX (some none) fun r=>some (some r))=x:=by
 match x with
 | none=>rfl
 | some none=>rfl
 | some (some _)=>rfl
theorem kG{p:aB}(h:WP p){k:Nat}(hk:k<p.Nodes.length)(hl:jN p k l):∃ z,aPE ⟨p⟩ k l=some z/\RA (fin p k l) z:=by
 refine⟨_,aVB h.b h.iB hk (gV hl.n (by omega)) (hl.st h),?_⟩;unfold fin;by_cases h40:40<(p.Nodes.length:Int)+l.length-1
 ·rw[aA h40,aF (by omega)];exact⟨rfl,by decide⟩
 ·rw[aF h40];by_cases ho:Ak p.Funcs l=true
  ·rw[aA ho,aA ⟨by omega,ho⟩]; rfl
  ·rw[aF ho,aF (by simp[ho])];exact⟨rfl,by decide⟩
theorem qL{p:aB}(h:WP p){k:Nat}(hk:k<p.Nodes.length){nd:aC}(hl:jN p k l):zS l ⟨p,k,m,nd⟩=some (uY p k l):=
 Kp h.b h.iB hk (gV hl.n (by omega)) (hl.st h)
theorem Ss{p:aB}(h:WP p){k:Nat}(hk:k<p.Nodes.length){nd:aC}(hl:jN p k l):Ge l ⟨p,k,m,nd⟩=some (uY p k l):=
 aGT h.b h.iB hk (gV hl.n (by omega)) (hl.st h)
def nd(p:aB)(k:Nat):aC:=p.Nodes.getD k default
def inn(p:aB)(k:Nat):aC:=p.Nodes.getD ((nd p k).In.getD 0 default).toNat default
def fx(p:aB)(k:Nat):aE:=(nd p k).Exprs.getD 0 default
def cl(p:aB)(j:Int):List aT:=(p.Nodes.getD j.toNat default).Cols
structure Cnd (p:aB)(k:Nat)(j:Int)(f:aE)(c:List aT):Prop where
 e:nd p k=dY j f c
 j0:0<=j
 jk:j<(k:Int)
 hc:c.length=ncA p.Nodes j
 c2:c.length<=1000000000
 fB:cE f
 fw:wfE p.Funcs.length c.length f
 fl:jW f<=12
 w:WN p.Funcs.length (ncA p.Nodes) j (p.Nodes.getD j.toNat default)
theorem WP.cnd{p:aB}(h:WP p){k:Nat}(hk:k<p.Nodes.length)(ho:(nd p k).Op=1):∃ j f c,Cnd p k j f c:=by
 have hw:=h.w k hk;obtain⟨j,f,c,he,hc⟩:=hw.s1 ho;have hb:=hw.hin j (by rw[he]; simp[dY]);have hf:f∈(nd p k).Exprs:=by unfold nd; rw[he]; simp[dY]
 obtain⟨j',hj',hwf⟩:=hw.ex f hf;have hjj:j'=j:=by rw[he]at hj'; cases hj'; rfl
 subst hjj;have hj:=h.w j'.toNat (by omega);rw[Int.toNat_of_nonneg hb.1]at hj;have hcc:=hw.b.c;rw[he]at hcc;exact⟨j',f,c,he,hb.1,hb.2,hc,hcc,hw.b.eB f hf,by rw[hc]; exact hwf,h.lw _ (aQ hk) f hf,hj⟩
theorem Cnd.fx{p:aB}{k:Nat}{j:Int}{f:aE}{c:List aT}(h:Cnd p k j f c):fx p k=f/\inn p k=p.Nodes.getD j.toNat default/\(nd p k).Cols=c/\(nd p k).Op=1:=by have:=h.e;unfold Go.PL.fx inn;rw[this];exact⟨rfl,rfl,rfl,rfl⟩
theorem Ex{p:aB}{k:Nat}{x:Int}(hi:i<n.In.length)(hx:n.In.getD i default=x)(h0:0<=x)(h1:x<(p.Nodes.length:Int)):vZ n i ⟨p,k,m,n0⟩=some (p.Nodes.getD x.toNat default):=by unfold vZ Nz;simp only[Tr.den,aJ,hx];rw[aA (by omega),aA (by omega)]
theorem bF{b:Int}(h:a≠b):(a==b)=false:=by simpa using h
theorem Bq{b:Int}(h:a≠b):(a != b)=true:=by simpa using h
theorem Fc{b:Int}(h:a=b):(a != b)=false:=by simpa using h
theorem aHB{p:aB}(h:WP p){k:Nat}(hk:k<p.Nodes.length)(m:Int):zA ⟨p,k,m,nd p k⟩=some (if (nd p k).Op=1 then some (inn p k,fx p k) else none):=by
 unfold zA Pr;simp only[Tr.den,aK,cT];by_cases ho:(nd p k).Op=1
 ·rw[aA (dB ho),aA ho];obtain⟨j,f,c,hc⟩:=h.cnd hk ho;have h1:=hc.e;have hjk:=hc.jk;have:=Ex (p:=p) (k:=k) (m:=m) (n0:=nd p k) (n:=nd p k) (i:=0) (x:=j) (by rw[h1]; simp[dY]) (by rw[h1]; rfl) hc.j0 (by omega);rw[show ((0:Nat):Int)=0 from rfl]at this;rw[this,hc.fx.1,hc.fx.2.1];simp only[aK];rw[h1];rfl
 ·rw[aF (eE ho),aF ho]
theorem mN{p:aB}{k:Nat}:p.Nodes.getD k default=nd p k:=id rfl
theorem aHK{p:aB}(h:WP p){k:Nat}(hk:k<p.Nodes.length){ops:List Int}(hops:ops.length<=10):aEG ⟨p⟩ k ops=some (if (nd p k).Op=1 then (gN (inn p k) (inn p k).In (nd p k).Cols,fx p k,decide ((inn p k).Op∈ops)) else (nd p k,aE.mk 0 0 ⟨#[]⟩ [],false)):=by
 unfold aEG aUW;simp only[Tr.den,aJ,mN];rw[aA (by omega)];by_cases ho:(nd p k).Op=1
 ·obtain⟨j,f,c,hc⟩:=h.cnd hk ho;have h1:=hc.e;have hjk:=hc.jk;have hj0:=hc.j0;rw[aA ho,aF (fun hne=>(bne_iff_ne.1 hne) ho)];have a1:(nd p k).In=[j]:=congrArg aC.In h1;have a2:(nd p k).Exprs=[f]:=congrArg aC.Exprs h1;rw[hc.fx.1,hc.fx.2.1];simp only[a1,a2];rw[aA (by simp),aA (by simp; omega),aA (by simp),zB (by omega)];rfl
 ·rw[aF ho,aA (bne_iff_ne.2 ho)]
theorem qG{p:aB}(h0:0<=j)(h1:j<(p.Nodes.length:Int))(e:aE):Hn ⟨p⟩ j e=some (dY j e (cl p j)):=by unfold Hn aYV;simp only[Tr.den];rw[aA (by omega)];rfl
theorem tE{p:aB}{k:Nat}(h0:0<=j)(h1:j<(p.Nodes.length:Int))(e:aE):oZ j e ⟨p,k,m,n0⟩=some (dY j e (cl p j)):=by unfold oZ Rg;simp only[Tr.den];rw[aA (by omega)];rfl
theorem wP{p:aB}{k:Nat}{l:List Int}:aBX n l ⟨p,k,m,n0⟩=some (gN n l n0.Cols):=id rfl
theorem Qm{l:List Int}:aZX n l=some (gN n l n.Cols):=id rfl
theorem pT{l:List Int}:aZL n l=some (gN n l n.Cols):=id rfl
theorem gE:bAP=some (⟨[],[]⟩,1):=id rfl
theorem dP:RA none (⟨[],[]⟩,1):=⟨rfl,by decide⟩
theorem iU{p:aB}(h:WP p){k:Nat}(hk:k<p.Nodes.length)(m:Int)(ho:(nd p k).Op=1):zA ⟨p,k,m,nd p k⟩=some (some (inn p k,fx p k)):=by rw[aHB h hk,aA ho]
theorem zJ{p:aB}(h:WP p){k:Nat}(hk:k<p.Nodes.length)(m:Int)(ho:(nd p k).Op≠1):zA ⟨p,k,m,nd p k⟩=some none:=by rw[aHB h hk,aF ho]
theorem iS{p:aB}(h:WP p){k:Nat}(hk:k<p.Nodes.length)(ops:List Int)(hops:ops.length<=10)(ho:(nd p k).Op=1):aEG ⟨p⟩ k ops=some (gN (inn p k) (inn p k).In (nd p k).Cols,fx p k,decide ((inn p k).Op∈ops)):=by rw[aHK h hk hops,aA ho]
theorem zI{p:aB}(h:WP p){k:Nat}(hk:k<p.Nodes.length)(ops:List Int)(hops:ops.length<=10)(ho:(nd p k).Op≠1):aEG ⟨p⟩ k ops=some (nd p k,aE.mk 0 0 ⟨#[]⟩ [],false):=by rw[aHK h hk hops,aF ho]
theorem mI(n:aC)(l:List Int)(c:List aT):(gN n l c).In=l:=id rfl
theorem mE(n:aC)(l:List Int)(c:List aT):(gN n l c).Exprs=n.Exprs:=id rfl
theorem mK(n:aC)(l:List Int)(c:List aT):(gN n l c).Key=n.Key:=id rfl
theorem mO(n:aC)(l:List Int)(c:List aT):(gN n l c).Op=n.Op:=id rfl
theorem mC(n:aC)(l:List Int)(c:List aT):(gN n l c).Cols=c:=id rfl
theorem mM(n:aC)(l l':List Int)(c c':List aT):gN (gN n l c) l' c'=gN n l' c':=id rfl
def rl0(p:aB)(k:Nat):Option (List aC):=if (nd p k).Op=1/\(inn p k).Op=1 then some [dY ((inn p k).In.getD 0 default) (aE.mk 17 0 ⟨#[]⟩ [(inn p k).Exprs.getD 0 default,fx p k]) (nd p k).Cols] else none
section
variable {p:aB} (h:WP p) {k:Nat} (hk:k<p.Nodes.length)
theorem Ce(ho:(nd p k).Op=1)(ho2:(inn p k).Op=1):rl0 p k=some [dY ((inn p k).In.getD 0 default) (aE.mk 17 0 ⟨#[]⟩ [(inn p k).Exprs.getD 0 default,fx p k]) (nd p k).Cols]:=aA ⟨ho,ho2⟩
theorem Kr(ho:¬ ((nd p k).Op=1/\(inn p k).Op=1)):rl0 p k=none:=aF ho
include h hk
theorem in0(ho:(nd p k).Op=1)(ho2:(inn p k).Op=1):∃ j f c j2 g c2,Cnd p k j f c/\Cnd p j.toNat j2 g c2/\inn p k=dY j2 g c2/\fx p k=f/\(nd p k).Cols=c/\nd p k=dY j f c:=by obtain⟨j,f,c,hc⟩:=h.cnd hk ho;obtain⟨f1,f2,f3,_⟩:=hc.fx;have hj0:=hc.j0;have hjk:=hc.jk;obtain⟨j2,g,c2,hc2⟩:=h.cnd (k:=j.toNat) (by omega) (by rw[f2]at ho2; exact ho2);exact⟨j,f,c,j2,g,c2,hc,hc2,f2.trans hc2.e,f1,f3,hc.e⟩
theorem aVC:∀ l,rl0 p k=some l->jN p k l:=by
 intro l hl;by_cases ho:(nd p k).Op=1/\(inn p k).Op=1
 ·rw[Ce ho.1 ho.2]at hl;obtain⟨j,f,c,j2,g,c2,hc,hc2,e2,f1,f3,e1⟩:=in0 h hk ho.1 ho.2;have hj0:=hc.j0;have hjk:=hc.jk;have hj20:=hc2.j0;have hj2k:=hc2.jk;rw[f1,f3,e2]at hl;cases hl;have en:p.Nodes.getD j.toNat default=dY j2 g c2:=hc2.e;refine⟨by simp,fun i hi=>?_,Or.inr ⟨by simp,?_⟩⟩
  ·have:i=0:=by simp at hi; omega
   subst this;refine Sw (show 0<=j2 by omega) (show j2<((k+0:Nat):Int) by omega) ?_ ?_ ?_ hc.c2
   ·refine cE.of (e:=aE.mk 17 0 ⟨#[]⟩ [g,f]) (by show (0:Nat)<=_; omega) (by show (2:Nat)<=_; omega) fun x hx=>?_;rcases aX.1 hx with rfl | hx
    ·exact hc2.fB
    ·rw[cG.1 hx]; exact hc.fB
   ·have e3:∀ l,ncL p.Nodes k l j2=c2.length:=fun l=>by rw[ncL,aA (by omega),hc2.hc]
    show wfE _ (ncL p.Nodes k _ j2) _;rw[e3];refine wfE.mk (e:=aE.mk 17 0 ⟨#[]⟩ [g,f]) (fun h=>absurd h (by show ¬ ((17:Int)=21); omega)) (fun h=>absurd h (by show ¬ ((17:Int)=22); omega)) (fun h=>absurd h (by show ¬ ((17:Int)=3); omega)) fun x hx=>?_;rcases aX.1 hx with rfl | hx
    ·exact hc2.fw
    ·rw[cG.1 hx];have:=hc.fw;rw[hc.hc,ncA,en]at this;exact this
   ·show c.length=ncL p.Nodes k _ j2;rw[ncL,aA (by omega),<-hc2.hc,hc.hc,ncA,en]; rfl
  ·show c.length=_;unfold ncA;have:p.Nodes.getD k default=dY j f c:=e1;rw[aJ,this]; rfl
 ·rw[Kr ho]at hl; cases hl
theorem c0(m:Int):Mf ⟨p,k,m,nd p k⟩=some ((rl0 p k).bind (uY p k)):=by
 unfold Mf Mi;by_cases ho:(nd p k).Op=1
 ·by_cases ho2:(inn p k).Op=1
  ·have hl:=aVC h hk _ (Ce ho ho2);obtain⟨j,f,c,j2,g,c2,hc,hc2,e2,f1,f3,e1⟩:=in0 h hk ho ho2;rw[Ce ho ho2];have g1:(inn p k).In.length=1:=by rw[e2]; rfl
   have g2:(inn p k).Exprs.length=1:=by rw[e2]; rfl
   simp only[Tr.den,iU h hk m ho,aK,cU,cT,dB ho2,bU,Qm,g1,g2,tD];rw[aA (by omega),aA (by omega)];have:∀ a b,aC.mk (gN (nd p k) a (nd p k).Cols).Op (gN (nd p k) a (nd p k).Cols).In (gN (nd p k) a (nd p k).Cols).Source (gN (nd p k) a (nd p k).Cols).Schema b (gN (nd p k) a (nd p k).Cols).Kind (gN (nd p k) a (nd p k).Cols).Size (gN (nd p k) a (nd p k).Cols).Step (gN (nd p k) a (nd p k).Cols).Key (gN (nd p k) a (nd p k).Cols).Key2 (gN (nd p k) a (nd p k).Cols).Before (gN (nd p k) a (nd p k).Cols).After (gN (nd p k) a (nd p k).Cols).Keep (gN (nd p k) a (nd p k).Cols).Aggs (gN (nd p k) a (nd p k).Cols).Seq (gN (nd p k) a (nd p k).Cols).Cols=aC.mk 1 a ⟨#[]⟩ 0 b 0 0 0 [] [] 0 0 0 [] [] (nd p k).Cols:=by intro a b;rw[e1]; rfl
   rw[this,gR];exact qL h hk hl
  ·rw[Kr fun hh=>ho2 hh.2];simp only[Tr.den,iU h hk m ho,aK,cU,cT,bF ho2,cK,bY];rfl
 ·rw[Kr fun hh=>ho hh.1];simp only[Tr.den,zJ h hk m ho,aK,cX];rfl
theorem r0(m:Int):∃ z,Rm ⟨p⟩ k m=some z/\RA ((rl0 p k).bind (fin p k)) z:=by
 unfold Rm Pi;by_cases ho:(nd p k).Op=1
 ·by_cases ho2:(inn p k).Op=1
  ·have hl:=aVC h hk _ (Ce ho ho2);obtain⟨j,f,c,j2,g,c2,hc,hc2,e2,f1,f3,e1⟩:=in0 h hk ho ho2;have hj0:=hc.j0;have hjk:=hc.jk;have hj20:=hc2.j0;have hj2k:=hc2.jk;rw[Ce ho ho2];have g1:(inn p k).In.length=1:=by rw[e2]; rfl
   have g2:(inn p k).Exprs.length=1:=by rw[e2]; rfl
   have g3:(inn p k).In.getD 0 default=j2:=by rw[e2]; rfl
   have hm:(!decide ((inn p k).Op∈([1]:List Int)))=false:=by rw[ho2]; rfl
   simp only[Tr.den,iS h hk [1] (by simp) ho,aK,fC,hm,cK,bY,mI,mE,g1,g2,tD,aJ];rw[aA (by omega),aA (by omega),qG (by omega) (by omega)];simp only[aK];rw[aA (by omega)];exact kG h hk hl
  ·have hm:(!decide ((inn p k).Op∈([1]:List Int)))=true:=by simp[ho2]
   rw[Kr fun hh=>ho2 hh.2];simp only[Tr.den,iS h hk [1] (by simp) ho,aK,fC,hm,bU,gE];exact⟨_,rfl,dP⟩
 ·rw[Kr fun hh=>ho hh.1];simp only[Tr.den,zI h hk [1] (by simp) ho,aK,fC,lP,bU,gE];exact⟨_,rfl,dP⟩
end
def gD(p:aB)(k:Nat)(fs:List (Int×aE))(l:List Int):List aC:=(fs.map fun x=>dY x.1 x.2 (cl p x.1))++[gN (inn p k) l (nd p k).Cols]
theorem aSO{p:aB}:(cl p a).length=ncA p.Nodes a:=rfl
theorem wW{k:Nat}(h:j<(k:Int)):ncL ns k l j=ncA ns j:=aA h
theorem aWS{k:Nat}{t:Nat}:ncL ns k l ((k+t:Nat):Int)=(l.getD t default).Cols.length:=by rw[ncL,aF (by omega),aJ,Nat.add_sub_cancel_left]
theorem nZ{p:aB}(h:WP p){k:Nat}(hk:k<p.Nodes.length){f:aE}{c:List aT}(hc:Cnd p k j f c){fs:List (Int×aE)}{l:List Int}(hn:fs.length<=2)
  (hf:∀ x,x∈fs->0<=x.1/\x.1<(k:Int)/\cE x.2/\wfE p.Funcs.length (ncA p.Nodes x.1) x.2)(hl:l.length=(inn p k).In.length)
  (hcl:c.length=(inn p k).Cols.length)
  (ht:∀ t,t<l.length->(l.getD t default=(inn p k).In.getD t default)\/∃ s:Nat,s<fs.length/\l.getD t default=((k+s:Nat):Int)/\(fs.getD s default).1=(inn p k).In.getD t default):jN p k (gD p k fs l):=by
 obtain⟨f1,f2,f3,_⟩:=hc.fx;have hj0:=hc.j0;have hjk:=hc.jk;have hlen:(gD p k fs l).length=fs.length+1:=by simp[gD]
 have hlo:∀ s,s<fs.length->(gD p k fs l).getD s default=dY (fs.getD s default).1 (fs.getD s default).2 (cl p (fs.getD s default).1):=fun s hs=>by unfold gD;rw[cI,eT (by simpa using hs),fD,gJ hs,eJ hs];rfl
 have hhi:(gD p k fs l).getD fs.length default=gN (inn p k) l (nd p k).Cols:=by unfold gD;rw[cI,eH (by simp)];simp
 refine⟨by omega,fun i hi=>?_,Or.inr ⟨by simp[gD],?_⟩⟩
 ·by_cases hif:i<fs.length
  ·obtain⟨a1,a2,a3,a4⟩:=hf _ (aQ hif);rw[hlo i hif];refine Sw a1 (by omega) a3 ?_ ?_ ?_
   ·rw[wW a2]; exact a4
   ·rw[wW a2,aSO]
   ·exact(h.b.nB _ (aQ (l:=p.Nodes) (k:=(fs.getD i default).1.toNat) (by omega))).c
  ·have:i=fs.length:=by omega
   subst this;rw[hhi];have hw:=hc.w;rw[<-f2]at hw;refine hw.mov hl (fun t htl=>?_) (by rw[f3]; exact hcl);rcases ht t htl with h1 | ⟨s,hs,h1,h2⟩
   ·have hm:(inn p k).In.getD t default∈(inn p k).In:=aQ (by omega);have:=hw.hin _ hm;rw[h1];exact⟨wW (by omega),this.1,by omega⟩
   ·rw[h1];refine⟨?_,by omega,by omega⟩;rw[aWS,hlo s hs,<-h2];rfl
 ·rw[show (gD p k fs l).length-1=fs.length by omega,hhi];show (nd p k).Cols.length=_;unfold ncA;rw[aJ]; rfl
theorem aJL{g:aE}:ofM (some g)=(g,true):=rfl
theorem bBH:ofM none=(aE.mk 0 0 ⟨#[]⟩ [],false):=rfl
section
variable {p:aB} (h:WP p) {k:Nat} (hk:k<p.Nodes.length)
include h hk
theorem inW(ho:(nd p k).Op=1):∃ j f c,Cnd p k j f c/\fx p k=f/\(nd p k).Cols=c/\c.length=(inn p k).Cols.length/\WN p.Funcs.length (ncA p.Nodes) j (inn p k):=by obtain⟨j,f,c,hc⟩:=h.cnd hk ho;obtain⟨f1,f2,f3,_⟩:=hc.fx;refine⟨j,f,c,hc,f1,f3,?_,by rw[f2]; exact hc.w⟩;rw[f2,hc.hc]; rfl
end
noncomputable def rl1 (p:aB)(k:Nat):Option (List aC):=if (nd p k).Op=1/\(inn p k).Op=2 then (nW (fx p k) (inn p k).Exprs).map fun g=>gD p k [((inn p k).In.getD 0 default,g)] [(k:Int)] else none
section
variable {p:aB} (h:WP p) {k:Nat} (hk:k<p.Nodes.length)
theorem Hw(ho:¬ ((nd p k).Op=1/\(inn p k).Op=2)):rl1 p k=none:=aF ho
theorem aCG(ho:(nd p k).Op=1)(ho2:(inn p k).Op=2):rl1 p k=(nW (fx p k) (inn p k).Exprs).map fun g=>gD p k [((inn p k).In.getD 0 default,g)] [(k:Int)]:=aA ⟨ho,ho2⟩
include h hk
theorem in1(ho:(nd p k).Op=1)(ho2:(inn p k).Op=2):∃ a,(inn p k).In=[a]/\(0<=a/\a<(k:Int))/\cE (fx p k)/\(∀ x,x∈(inn p k).Exprs->cE x) /\
  ∀ g,nW (fx p k) (inn p k).Exprs=some g->jN p k (gD p k [(a,g)] [(k:Int)]):=by
 obtain⟨j,f,c,hc,f1,f3,f4,hw⟩:=inW h hk ho;have hj0:=hc.j0;have hjk:=hc.jk;obtain⟨a,ha⟩:=hw.s2 ho2;have hb:=hw.hin a (by rw[ha]; simp);have hE:∀ x,x∈(inn p k).Exprs->wfE p.Funcs.length (ncA p.Nodes a) x:=fun x hx=>by obtain⟨a',h1,h2⟩:=hw.ex x hx;rw[ha]at h1; cases h1; exact h2
 refine⟨a,ha,⟨hb.1,by omega⟩,by rw[f1]; exact hc.fB,hw.b.eB,fun g hg=>?_⟩;obtain⟨r,hr,hr2⟩:=oN.1 hg;have hrg:r=g:=by
  split at hr2
  ·exact pN hr2
  ·cases hr2
 subst hrg;refine nZ h hk hc (by simp) (fun x hx=>?_) (by rw[ha]; rfl) f4 (fun t ht=>?_)
 ·rw[cG.1 hx];refine⟨hb.1,by show a<_; omega,Ki hw.b.eB (by rw[f1]; exact hc.fB) _ hr,aME hE (by rw[f1]; exact hc.fw) _ hr⟩
 ·have:t=0:=by simp at ht; omega
  subst this;exact Or.inr ⟨0,by simp,rfl,by rw[ha]; rfl⟩
theorem c1(m:Int):Ob ⟨p,k,m,nd p k⟩=some ((rl1 p k).bind (uY p k)):=by
 unfold Ob Ma;by_cases ho:(nd p k).Op=1
 ·by_cases ho2:(inn p k).Op=2
  ·obtain⟨a,ha,hb,hB,hE,hN⟩:=in1 h hk ho ho2;rw[aCG ho ho2];simp only[Tr.den,iU h hk m ho,aK,cU,cT,dB ho2,bU,Gy hB hE,ha];cases hr:nW (fx p k) (inn p k).Exprs with
   | none=>rfl
   | some g=>simp only[aJL,bU];rw[aA (by simp),show [a].getD (Int.toNat 0) default=a from rfl,tE hb.1 (by omega)];simp only[aK,wP,gR];exact qL h hk (hN g hr)
  ·rw[Hw fun hh=>ho2 hh.2];simp only[Tr.den,iU h hk m ho,aK,cU,cT,bF ho2,cK,bY];rfl
 ·rw[Hw fun hh=>ho hh.1];simp only[Tr.den,zJ h hk m ho,aK,cX];rfl
theorem r1(m:Int):∃ z,Pp ⟨p⟩ k m=some z/\RA ((rl1 p k).bind (fin p k)) z:=by
 unfold Pp Ru;by_cases ho:(nd p k).Op=1
 ·by_cases ho2:(inn p k).Op=2
  ·obtain⟨a,ha,hb,hB,hE,hN⟩:=in1 h hk ho ho2;rw[aCG ho ho2];have hm:(!decide ((inn p k).Op∈([2]:List Int)))=false:=by rw[ho2]; rfl
   simp only[Tr.den,iS h hk [2] (by simp) ho,aK,fC,hm,cK,bY,mI,mE,Gy hB hE,ha];cases hr:nW (fx p k) (inn p k).Exprs with
   | none=>exact⟨_,rfl,rfl,by decide⟩
   | some g=>simp only[aJL,iP,cK,bY];rw[aA (by simp),show [a].getD (Int.toNat 0) default=a from rfl,qG hb.1 (by omega)];simp only[aK,pT,mM];exact kG h hk (hN g hr)
  ·have hm:(!decide ((inn p k).Op∈([2]:List Int)))=true:=by simp[ho2]
   rw[Hw fun hh=>ho2 hh.2];simp only[Tr.den,iS h hk [2] (by simp) ho,aK,fC,hm,bU,gE];exact⟨_,rfl,dP⟩
 ·rw[Hw fun hh=>ho hh.1];simp only[Tr.den,zI h hk [2] (by simp) ho,aK,fC,lP,bU,gE];exact⟨_,rfl,dP⟩
end
theorem gd1{l:List Int}(h:l=[a]):(((0:Int)<=0/\(0:Int)<(l.length:Int))=True)/\l.getD (0:Int).toNat default=a:=by subst h;exact⟨eI (by simp),rfl⟩
theorem gd2{l:List Int}{b:Int}(h:l=[a,b]):(((0:Int)<=0/\(0:Int)<(l.length:Int))=True)/\(((0:Int)<=1/\(1:Int)<(l.length:Int))=True)/\l.getD (0:Int).toNat default=a/\l.getD (1:Int).toNat default=b:=by subst h;exact⟨eI (by simp),eI (by simp),rfl,rfl⟩
def rl2(p:aB)(k:Nat):Option (List aC):=if (nd p k).Op=1/\(inn p k).Op=3 then some (gD p k [((inn p k).In.getD 0 default,fx p k),((inn p k).In.getD 1 default,fx p k)] [(k:Int),((k+1:Nat):Int)]) else none
section
variable {p:aB} (h:WP p) {k:Nat} (hk:k<p.Nodes.length)
theorem Jj(ho:¬ ((nd p k).Op=1/\(inn p k).Op=3)):rl2 p k=none:=aF ho
theorem aEA(ho:(nd p k).Op=1)(ho2:(inn p k).Op=3):rl2 p k=some (gD p k [((inn p k).In.getD 0 default,fx p k),((inn p k).In.getD 1 default,fx p k)] [(k:Int),((k+1:Nat):Int)]):=aA ⟨ho,ho2⟩
include h hk
theorem in2(ho:(nd p k).Op=1)(ho2:(inn p k).Op=3):∃ a b,(inn p k).In=[a,b]/\(0<=a/\a<(k:Int))/\(0<=b/\b<(k:Int)) /\
  jN p k (gD p k [(a,fx p k),(b,fx p k)] [(k:Int),((k+1:Nat):Int)]):=by
 obtain⟨j,f,c,hc,f1,f3,f4,hw⟩:=inW h hk ho;have hj0:=hc.j0;have hjk:=hc.jk;have hn:=h.n;obtain⟨a,b,ha,c1,c2⟩:=hw.s3 ho2;have hb:=hw.hin a (by rw[ha]; simp);have hb2:=hw.hin b (by rw[ha]; simp);refine⟨a,b,ha,⟨hb.1,by omega⟩,⟨hb2.1,by omega⟩,?_⟩;rw[f1];refine nZ h hk hc (by simp) (fun x hx=>?_) (by rw[ha]; rfl) f4 (fun t ht=>?_)
 ·rcases aX.1 hx with rfl | hx
  ·exact⟨hb.1,by show a<_; omega,hc.fB,by show wfE _ (ncA _ a) _; rw[<-c1,<-f4]; exact hc.fw⟩
  ·rw[cG.1 hx];exact⟨hb2.1,by show b<_; omega,hc.fB,by show wfE _ (ncA _ b) _; rw[<-c2,<-f4]; exact hc.fw⟩
 ·have ht2:t<2:=ht
  match t,ht2 with
  | 0,_=>exact Or.inr ⟨0,by simp,rfl,by rw[ha]; rfl⟩
  | 1,_=>exact Or.inr ⟨1,by simp,rfl,by rw[ha]; rfl⟩
theorem c2(m:Int):Na ⟨p,k,m,nd p k⟩=some ((rl2 p k).bind (uY p k)):=by
 have hn:=h.n;unfold Na Rt;by_cases ho:(nd p k).Op=1
 ·by_cases ho2:(inn p k).Op=3
  ·obtain⟨a,b,ha,hb,hb2,hN⟩:=in2 h hk ho ho2;rw[aEA ho ho2];have q0:=gd2 ha;have q1:∀ n0,oZ ((inn p k).In.getD (0:Int).toNat default) (fx p k) ⟨p,k,m,n0⟩=some (dY a (fx p k) (cl p a)):=fun n0=>by rw[q0.2.2.1]; exact tE hb.1 (by omega) _
   have q2:∀ n0,oZ ((inn p k).In.getD (1:Int).toNat default) (fx p k) ⟨p,k,m,n0⟩=some (dY b (fx p k) (cl p b)):=fun n0=>by rw[q0.2.2.2]; exact tE hb2.1 (by omega) _
   simp only[Tr.den,iU h hk m ho,aK,cU,cT,dB ho2,bU,bO (show k<9223372036854775807 by omega),q0.1,q0.2.1,q1,q2,wP,gR];rw[show (inn p k).In.getD 0 default=a from q0.2.2.1,show (inn p k).In.getD 1 default=b from q0.2.2.2];exact qL h hk hN
  ·rw[Jj fun hh=>ho2 hh.2];simp only[Tr.den,iU h hk m ho,aK,cU,cT,bF ho2,cK,bY];rfl
 ·rw[Jj fun hh=>ho hh.1];simp only[Tr.den,zJ h hk m ho,aK,cX];rfl
theorem r2(m:Int):∃ z,Mj ⟨p⟩ k m=some z/\RA ((rl2 p k).bind (fin p k)) z:=by
 have hn:=h.n;unfold Mj Nr;by_cases ho:(nd p k).Op=1
 ·by_cases ho2:(inn p k).Op=3
  ·obtain⟨a,b,ha,hb,hb2,hN⟩:=in2 h hk ho ho2;rw[aEA ho ho2];have hm:(!decide ((inn p k).Op∈([3]:List Int)))=false:=by rw[ho2]; rfl
   have q0:=gd2 ha;have q1:Hn ⟨p⟩ ((inn p k).In.getD (0:Int).toNat default) (fx p k)=some (dY a (fx p k) (cl p a)):=by rw[q0.2.2.1]; exact qG hb.1 (by omega) _
   have q2:Hn ⟨p⟩ ((inn p k).In.getD (1:Int).toNat default) (fx p k)=some (dY b (fx p k) (cl p b)):=by rw[q0.2.2.2]; exact qG hb2.1 (by omega) _
   simp only[Tr.den,iS h hk [3] (by simp) ho,aK,fC,hm,cK,bY,bU,mI,bO (show k<9223372036854775807 by omega),q0.1,q0.2.1,q1,q2,pT,mM];rw[show (inn p k).In.getD 0 default=a from q0.2.2.1,show (inn p k).In.getD 1 default=b from q0.2.2.2];exact kG h hk hN
  ·have hm:(!decide ((inn p k).Op∈([3]:List Int)))=true:=by simp[ho2]
   rw[Jj fun hh=>ho2 hh.2];simp only[Tr.den,iS h hk [3] (by simp) ho,aK,fC,hm,bU,gE];exact⟨_,rfl,dP⟩
 ·rw[Jj fun hh=>ho hh.1];simp only[Tr.den,zI h hk [3] (by simp) ho,aK,fC,lP,bU,gE];exact⟨_,rfl,dP⟩
end
noncomputable def lN (p:aB)(e:aE):Bool:=(aGL p.Funcs e).getD false
theorem pK{p:aB}(h:WP p){nc:Nat}{e:aE}(hB:cE e)(hw:wfE p.Funcs.length nc e):aGL p.Funcs e=some (lN p e):=by obtain⟨y,hy,_⟩:=(aPZ p.Funcs nc e h.f h.fw hB hw).get;rw[lN,hy]; rfl
theorem nK{p:aB}(h:WP p){nc:Nat}{e:aE}(hB:cE e)(hw:wfE p.Funcs.length nc e){k:Int}:Mb e ⟨p,k,m,n0⟩=some (if lN p e=true then none else some ()):=by unfold Mb Nj;simp only[Tr.den,pK h hB hw,aK,cT];cases lN p e <;> rfl
def lL(c:Int):aE:=aE.mk 3 c ⟨#[]⟩ []
theorem Ad(c:Int):cE (lL c):=cE.of (e:=lL c) (by show (0:Nat)<=_; omega) (by show (0:Nat)<=_; omega) fun x hx=>by cases hx
theorem Kb{nf nc:Nat}{f:aE}(hB:cE f)(hw:wfE nf nc f)(hl:jW f<=12){l:List aE}{g:Int->Int}(h:∀ c,c∈cS f->0<=c/\c<(l.length:Int)/\l.getD c.toNat default=lL (g c)):nW f l=some (fG g f):=by unfold nW;rw[aIE hw h];show (if jW (fG g f)<=12 then some (fG g f) else none)=_;rw[aGK (Au g hB),aDL g hB,<-aGK hB,aA hl]
theorem aDO{nf nc:Nat}{f:aE}(hw:wfE nf nc f){l:List aE}{c:Int}(hc:c∈cS f)(ho:¬ (0<=c/\c<(l.length:Int))):nW f l=none:=by unfold nW;rw[aIK hw hc ho]; rfl
theorem aHX{nf nc:Nat}{f:aE}(hB:cE f)(hw:wfE nf nc f)(hl:jW f<=12)(ks:List Int):nW f (ks.map lL)=if ((cS f).all fun c=>decide (c<(ks.length:Int)))=true then some (fG (fun c=>ks.getD c.toNat default) f) else none:=by
 by_cases hA:((cS f).all fun c=>decide (c<(ks.length:Int)))=true
 ·rw[aA hA];refine Kb hB hw hl fun c hc=>?_;have h1:=kK hw c hc;have h2:=wI (dQ.1 hA c hc);refine⟨h1.1,by rw[iG]; exact h2,?_⟩;rw[eJ (l:=ks) (by omega),eJ (by rw[iG]; omega),List.getElem_map]
 ·rw[aF hA];have hA':∃ c,c∈cS f/\¬ c<(ks.length:Int):=by
   rcases Classical.em (∃ c,c∈cS f/\¬ c<(ks.length:Int)) with h | h
   ·exact h
   ·exact absurd (dQ.2 fun c hc=>cY (Uw fun h2=>h ⟨c,hc,h2⟩)) hA
  obtain⟨c,hc,h2⟩:=hA';exact aDO hw hc (by rw[iG]; exact fun h3=>h2 h3.2)
noncomputable def rl3 (p:aB)(k:Nat):Option (List aC):=
 if (nd p k).Op=1/\lN p (fx p k)=false then
  if (inn p k).Op=5 then (if ((cS (fx p k)).all fun c=>decide (c∈(inn p k).Key))=true then some (gD p k [((inn p k).In.getD 0 default,fx p k)] [(k:Int)]) else none)
  else if (inn p k).Op=4\/(inn p k).Op=8 then (if ((cS (fx p k)).all fun c=>decide (c<((inn p k).Key.length:Int)))=true then some (gD p k [((inn p k).In.getD 0 default,fG (fun c=>(inn p k).Key.getD c.toNat default) (fx p k))] [(k:Int)]) else none)
  else none
 else none
theorem Kt{p:aB}{k:Nat}(ho:¬ ((nd p k).Op=1/\lN p (fx p k)=false)):rl3 p k=none:=aF ho
theorem aDA{p:aB}{k:Nat}(ho:(nd p k).Op=1)(ht:lN p (fx p k)=false)(h5:(inn p k).Op=5):rl3 p k=if ((cS (fx p k)).all fun c=>decide (c∈(inn p k).Key))=true then some (gD p k [((inn p k).In.getD 0 default,fx p k)] [(k:Int)]) else none:=by rw[rl3,aA ⟨ho,ht⟩,aA h5]
theorem aFI{p:aB}{k:Nat}(ho:(nd p k).Op=1)(ht:lN p (fx p k)=false)(h5:(inn p k).Op=4\/(inn p k).Op=8):rl3 p k=if ((cS (fx p k)).all fun c=>decide (c<((inn p k).Key.length:Int)))=true then some (gD p k [((inn p k).In.getD 0 default,fG (fun c=>(inn p k).Key.getD c.toNat default) (fx p k))] [(k:Int)]) else none:=by rw[rl3,aA ⟨ho,ht⟩,aF (by omega),aA h5]
theorem aDZ{p:aB}{k:Nat}(h5:(inn p k).Op≠5)(h4:¬ ((inn p k).Op=4\/(inn p k).Op=8)):rl3 p k=none:=by rw[rl3,aF h5,aF h4,ite_self]
section
variable {p:aB} (h:WP p) {k:Nat} (hk:k<p.Nodes.length)
include h hk
theorem fxW(ho:(nd p k).Op=1):∃ nc,cE (fx p k)/\wfE p.Funcs.length nc (fx p k)/\jW (fx p k)<=12/\nc<=1000000000/\nc=(inn p k).Cols.length/\BN (inn p k):=by obtain⟨j,f,c,hc,f1,f3,f4,hw⟩:=inW h hk ho;refine⟨c.length,by rw[f1]; exact hc.fB,by rw[f1]; exact hc.fw,by rw[f1]; exact hc.fl,hc.c2,f4,hw.b⟩
theorem aUF(ho:(nd p k).Op=1)(h5:(inn p k).Op=5):∃ a,(inn p k).In=[a]/\(0<=a/\a<(k:Int))/\jN p k (gD p k [(a,fx p k)] [(k:Int)]):=by
 obtain⟨j,f,c,hc,f1,f3,f4,hw⟩:=inW h hk ho;have hj0:=hc.j0;have hjk:=hc.jk;obtain⟨a,ha,h2⟩:=hw.s5 h5;have hb:=hw.hin a (by rw[ha]; simp);refine⟨a,ha,⟨hb.1,by omega⟩,?_⟩;refine nZ h hk hc (by simp) (fun x hx=>?_) (by rw[ha]; rfl) f4 (fun t ht=>?_)
 ·rw[cG.1 hx];exact⟨hb.1,by show a<_; omega,by rw[f1]; exact hc.fB,by show wfE _ (ncA _ a) _; rw[<-h2,<-f4,f1]; exact hc.fw⟩
 ·have:t=0:=by simp at ht; omega
  subst this;exact Or.inr ⟨0,by simp,rfl,by rw[ha]; rfl⟩
theorem aZE(ho:(nd p k).Op=1)(h5:(inn p k).Op=4\/(inn p k).Op=8):∃ a,(inn p k).In=[a]/\(0<=a/\a<(k:Int)) /\
  (((cS (fx p k)).all fun c=>decide (c<((inn p k).Key.length:Int)))=true->jN p k (gD p k [(a,fG (fun c=>(inn p k).Key.getD c.toNat default) (fx p k))] [(k:Int)])):=by
 obtain⟨j,f,c,hc,f1,f3,f4,hw⟩:=inW h hk ho;have hj0:=hc.j0;have hjk:=hc.jk;obtain⟨a,ha,h2⟩:=hw.s4 h5;have hb:=hw.hin a (by rw[ha]; simp);refine⟨a,ha,⟨hb.1,by omega⟩,fun hA=>?_⟩;refine nZ h hk hc (by simp) (fun x hx=>?_) (by rw[ha]; rfl) f4 (fun t ht=>?_)
 ·rw[cG.1 hx];refine⟨hb.1,by show a<_; omega,Au _ (by rw[f1]; exact hc.fB),Hi (nc:=c.length) (by rw[f1]; exact hc.fw) fun x hx=>?_⟩;have h3:=wI (dQ.1 hA x hx);rw[f1]at hx;have h4:=kK hc.fw x hx;exact h2 _ (aQ (by omega))
 ·have:t=0:=by simp at ht; omega
  subst this;exact Or.inr ⟨0,by simp,rfl,by rw[ha]; rfl⟩
theorem c3(m:Int):Oo ⟨p,k,m,nd p k⟩=some ((rl3 p k).bind (uY p k)):=by
 unfold Oo Ou;by_cases ho:(nd p k).Op=1
 ·obtain⟨nc,hB,hw,hlv,hn,hnc,hbn⟩:=fxW h hk ho;cases ht:lN p (fx p k) with
  | true=>rw[Kt (by simp[ht])];simp only[Tr.den,iU h hk m ho,aK,cU,nK h hB hw,ht,bU,cX];rfl
  | false=>
   have hk1:=hbn.k;by_cases h5:(inn p k).Op=5
   ·obtain⟨a,ha,hb,hN⟩:=aUF h hk ho h5;have q0:=gd1 ha;have q1:∀ n0,oZ ((inn p k).In.getD (0:Int).toNat default) (fx p k) ⟨p,k,m,n0⟩=some (dY a (fx p k) (cl p a)):=fun n0=>by rw[q0.2]; exact tE hb.1 (by omega) _
    rw[aDA ho ht h5];simp only[Tr.den,iU h hk m ho,aK,cU,nK h hB hw,ht,cK,bY,dB h5,bU,aFR hB hw hn hk1,cT];by_cases hA:((cS (fx p k)).all fun c=>decide (c∈(inn p k).Key))=true
    ·simp only[hA,bU,aK,dG,aE.eta,q0.1,q1,wP,gR];rw[show (inn p k).In.getD 0 default=a from q0.2];exact qL h hk hN
    ·simp only[hA,cK,bY,aK,fP];rfl
   ·by_cases h48:(inn p k).Op=4\/(inn p k).Op=8
    ·obtain⟨a,ha,hb,hN⟩:=aZE h hk ho h48;have q0:=gd1 ha;have q1:∀ e n0,oZ ((inn p k).In.getD (0:Int).toNat default) e ⟨p,k,m,n0⟩=some (dY a e (cl p a)):=fun e n0=>by rw[q0.2]; exact tE hb.1 (by omega) _
     rw[aFI ho ht h48];have hj:(if ((inn p k).Op==4)=true then some ((inn p k).Op==4) else some ((inn p k).Op==8))=some true:=by
      by_cases h4:(inn p k).Op=4
      ·simp only[dB h4,bU]
      ·simp only[bF h4,cK,bY,dB (h48.resolve_left h4)]
     simp only[Tr.den,iU h hk m ho,aK,cU,nK h hB hw,ht,cK,bY,bF h5,hj,bU,aIV hB hw hn,cT];by_cases hA:((cS (fx p k)).all fun c=>decide (c<((inn p k).Key.length:Int)))=true
     ·have hg:Gu (fx p k) (inn p k)=some (fG (fun c=>(inn p k).Key.getD c.toNat default) (fx p k)):=aJM hB hw fun c hc=>⟨(kK hw c hc).1,wI (dQ.1 hA c hc)⟩;simp only[hA,bU,aK,hg,dG,aE.eta,q0.1,q1,wP,gR];rw[show (inn p k).In.getD 0 default=a from q0.2];exact qL h hk (hN hA)
     ·simp only[hA,cK,bY,aK,fP];rfl
    ·rw[aDZ h5 h48];have h4:(inn p k).Op≠4:=fun h=>h48 (Or.inl h);have h8:(inn p k).Op≠8:=fun h=>h48 (Or.inr h);simp only[Tr.den,iU h hk m ho,aK,cU,nK h hB hw,ht,cK,bY,bF h5,bF h4,bF h8,cX,fP];rfl
 ·rw[Kt fun hh=>ho hh.1];simp only[Tr.den,zJ h hk m ho,aK,cX];rfl
omit h hk in
theorem bBZ{r1:aC×aE×Bool}(hn:r1.1.Key.length<=1000000000):cB (fun s=>(nR r1 s).den) ([],0)=some (.inl (r1.1.Key.map lL)):=by
 have:=eP (st:=fun v i=>(v,i)) (bd:=fun s=>(nR r1 s).den) lL r1.1.Key [] (r:=fun v=>.inl v) (by omega) (fun v i hi hv=>?_) (fun v=>?_)
 ·simpa using this
 ·unfold nR;have e:aUA (r1.1.Key.getD i default)=some (lL (r1.1.Key.getD i default)):=rfl;simp only[Tr.den,aJ,e,aK];rw[aA (bS (by omega)),aA (by omega),aA (by simp at hv ⊢; omega)]
 ·unfold nR;simp only[Tr.den];rw[aF (bQ (by omega))]
theorem r3(m:Int):∃ z,Sb ⟨p⟩ k m=some z/\RA ((rl3 p k).bind (fin p k)) z:=by
 unfold Sb Nw;by_cases ho:(nd p k).Op=1
 ·obtain⟨nc,hB,hw,hlv,hn,hnc,hbn⟩:=fxW h hk ho;have hk1:=hbn.k;by_cases hm:(inn p k).Op=4\/(inn p k).Op=5\/(inn p k).Op=8
  ·have hmm:(!decide ((inn p k).Op∈([4,5,8]:List Int)))=false:=by simp; omega
   cases ht:lN p (fx p k) with
   | true=>rw[Kt (by simp[ht])];simp only[Tr.den,iS h hk [4,5,8] (by simp) ho,aK,hmm,cK,bY,pK h hB hw,ht,bU,gE];exact⟨_,rfl,dP⟩
   | false=>
    by_cases h5:(inn p k).Op=5
    ·obtain⟨a,ha,hb,hN⟩:=aUF h hk ho h5;have q0:=gd1 ha;have q1:Hn ⟨p⟩ ((inn p k).In.getD (0:Int).toNat default) (fx p k)=some (dY a (fx p k) (cl p a)):=by rw[q0.2]; exact qG hb.1 (by omega) _
     obtain⟨r,e1,e2,e3⟩:=(tR (fx p k) hB hw hn).get;rw[aDA ho ht h5];have w0:cB (fun s=>(rX (gN (inn p k) (inn p k).In (nd p k).Cols,fx p k,decide ((inn p k).Op∈([4,5,8]:List Int))) r s).den) 0=some (if (r.all fun c=>decide (c∈(inn p k).Key))=true then .inl () else .inr (⟨[],[]⟩,1)):=by
      refine kA (fun c=>decide (c∈(inn p k).Key)) r (by omega) (fun i hi=>?_) ?_
      ·unfold rX;simp only[Tr.den,aJ,mK,zB hk1,aK,gE];rw[aA (bS (by omega)),aA (by omega)];cases decide (r.getD i default∈(inn p k).Key) <;> rfl
      ·unfold rX;simp only[Tr.den];rw[aF (bQ (by omega))]
     simp only[Tr.den,iS h hk [4,5,8] (by simp) ho,aK,hmm,cK,bY,pK h hB hw,ht,mO,dB h5,bU,e1,w0,uI e3];by_cases hA:((cS (fx p k)).all fun c=>decide (c∈(inn p k).Key))=true
     ·simp only[hA,bU,dG,mI,q0.1,q1,aK,pT,mM,fC];rw[show (inn p k).In.getD 0 default=a from q0.2];exact kG h hk hN
     ·simp only[hA,cK,bY,fP];exact⟨_,rfl,dP⟩
    ·have h48:(inn p k).Op=4\/(inn p k).Op=8:=by omega
     obtain⟨a,ha,hb,hN⟩:=aZE h hk ho h48;have q0:=gd1 ha;have q1:∀ e,Hn ⟨p⟩ ((inn p k).In.getD (0:Int).toNat default) e=some (dY a e (cl p a)):=fun e=>by rw[q0.2]; exact qG hb.1 (by omega) _
     rw[aFI ho ht h48];simp only[Tr.den,iS h hk [4,5,8] (by simp) ho,aK,hmm,cK,bY,pK h hB hw,ht,mO,bF h5,bBZ (r1:=(gN (inn p k) (inn p k).In (nd p k).Cols,fx p k,decide ((inn p k).Op∈([4,5,8]:List Int)))) hk1,dG];have q2:aJS (fx p k) ((inn p k).Key.map lL)=some (ofM (if ((cS (fx p k)).all fun c=>decide (c<((inn p k).Key.length:Int)))=true then some (fG (fun c=>(inn p k).Key.getD c.toNat default) (fx p k)) else none)):=by rw[Gy hB (fun x hx=>by obtain⟨c,_,rfl⟩:=dW.1 hx; exact Ad c),aHX hB hw hlv]
     simp only[mK,q2,aK];by_cases hA:((cS (fx p k)).all fun c=>decide (c<((inn p k).Key.length:Int)))=true
     ·simp only[hA,bU,aJL,iP,cK,bY,mI,q0.1,q1,aK,pT,mM,fC];rw[show (inn p k).In.getD 0 default=a from q0.2];exact kG h hk (hN hA)
     ·simp only[hA,cK,bY,bBH,lP,bU,gE,aK];exact⟨_,rfl,dP⟩
  ·have hmm:(!decide ((inn p k).Op∈([4,5,8]:List Int)))=true:=by simp; omega
   rw[aDZ (by omega) (by omega)];simp only[Tr.den,iS h hk [4,5,8] (by simp) ho,aK,hmm,bU,gE];exact⟨_,rfl,dP⟩
 ·rw[Kt fun hh=>ho hh.1];simp only[Tr.den,zI h hk [4,5,8] (by simp) ho,aK,lP,bU,gE];exact⟨_,rfl,dP⟩
end
def fA(a n:Nat):List aE:=(List.range n).map fun i=>lL ((a+i:Nat):Int)
theorem eO(a n:Nat):(fA a n).length=n:=by simp[fA]
theorem vM{a n:Nat}(h:i<n):(fA a n).getD i default=lL ((a+i:Nat):Int):=by unfold fA;rw[eJ (by simpa using h),List.getElem_map,List.getElem_range]
theorem aAY{a n:Nat}:∀ x,x∈fA a n->cE x:=fun x hx=>by obtain⟨c,_,rfl⟩:=dW.1 hx;exact Ad _
theorem kD{n k:Nat}(h:k<n):(List.range n).getD k default=k:=by rw[eJ (by simpa using h),List.getElem_range]
theorem aSD(c:Int):aUA c=some (lL c):=id rfl
theorem aCK{a n:Nat}(h:a+n<=1000000000){b:Int}(hb:b=((a+n:Nat):Int)):aEM (a:Int) b=some (fA a n):=by
 subst hb;unfold aEM aYL;simp only[Tr.den];have:=eP (S:=List aE×Int) (st:=fun v i=>(v,(a:Int)+i)) (bd:=fun s=>(yD ((a+n:Nat):Int) s).den) (fun i=>lL ((a+i:Nat):Int)) (List.range n) [] (r:=fun v=>.inl v) (by simp; omega) (fun v i hi hv=>?_) (fun v=>?_)
 ·rw[show ((a:Int)+0)=a by omega]at this;rw[this];rfl
 ·have hi':i<n:=by simpa using hi
  unfold yD;simp only[Tr.den,aSD,aK];rw[aA (bS (by omega)),aA (by simp at hv ⊢; omega),kD hi',cR (n:=(a:Int)+i+1) (by omega) (by omega),bO (by omega),show ((a:Int)+(i:Int))=((a+i:Nat):Int) by omega,show (((a+i:Nat):Int)+1)=(a:Int)+((i+1:Nat):Int) by omega]
 ·unfold yD;simp only[Tr.den,lI];rw[aF (bQ (by omega))]
theorem Ag{a n:Nat}(h:a+n<=1000000000){b:Int}(hb:b=((a+n:Nat):Int)):vX (a:Int) b=some (fA a n):=by rw[<-aCK h hb];unfold vX aEM;rfl
def iQ(p:aB)(k:Nat):Nat:=(cl p ((inn p k).In.getD 0 default)).length
def iW(p:aB)(k:Nat)(m c:Int):Bool:=decide (c<(iQ p k:Int))==(m==0)
noncomputable def rl4 (p:aB)(k:Nat)(m:Int):Option (List aC):=
 if (nd p k).Op=1/\lN p (fx p k)=false/\((m=0/\((inn p k).Op=6\/(inn p k).Op=7))\/(m=1/\(inn p k).Op=6))/\(cS (fx p k)).all (iW p k m)=true then
  (if m=1 then some (gD p k [((inn p k).In.getD 1 default,fG (fun c=>c-(iQ p k:Int)) (fx p k))] [(inn p k).In.getD 0 default,(k:Int)])
   else some (gD p k [((inn p k).In.getD 0 default,fx p k)] [(k:Int),(inn p k).In.getD 1 default]))
 else none
theorem qK{p:aB}{k:Nat}(ho:¬ ((nd p k).Op=1/\lN p (fx p k)=false/\((m=0/\((inn p k).Op=6\/(inn p k).Op=7))\/(m=1/\(inn p k).Op=6))/\(cS (fx p k)).all (iW p k m)=true)):rl4 p k m=none:=aF ho
theorem aHT{p:aB}{k:Nat}(ho:(nd p k).Op=1)(ht:lN p (fx p k)=false)(h6:(inn p k).Op=6\/(inn p k).Op=7)(hA:(cS (fx p k)).all (iW p k 0)=true):rl4 p k 0=some (gD p k [((inn p k).In.getD 0 default,fx p k)] [(k:Int),(inn p k).In.getD 1 default]):=by rw[rl4,aA ⟨ho,ht,Or.inl ⟨rfl,h6⟩,hA⟩,aF (by omega)]
theorem aCA{p:aB}{k:Nat}(ho:(nd p k).Op=1)(ht:lN p (fx p k)=false)(h6:(inn p k).Op=6)(hA:(cS (fx p k)).all (iW p k 1)=true):rl4 p k 1=some (gD p k [((inn p k).In.getD 1 default,fG (fun c=>c-(iQ p k:Int)) (fx p k))] [(inn p k).In.getD 0 default,(k:Int)]):=by rw[rl4,aA ⟨ho,ht,Or.inr ⟨rfl,h6⟩,hA⟩,aA rfl]
section
variable {p:aB} (h:WP p) {k:Nat} (hk:k<p.Nodes.length)
include h hk
theorem in4(ho:(nd p k).Op=1)(h6:(inn p k).Op=6\/(inn p k).Op=7):∃ a b,(inn p k).In=[a,b]/\(0<=a/\a<(k:Int))/\(0<=b/\b<(k:Int))/\iQ p k=(cl p a).length /\
  (cl p a).length+(cl p b).length=(inn p k).Cols.length/\(inn p k).Cols.length<=1000000000 /\
  ((cS (fx p k)).all (iW p k 0)=true->jN p k (gD p k [(a,fx p k)] [(k:Int),b])) /\
  ((cS (fx p k)).all (iW p k 1)=true->jN p k (gD p k [(b,fG (fun c=>c-(iQ p k:Int)) (fx p k))] [a,(k:Int)])):=by
 obtain⟨j,f,c,hc,f1,f3,f4,hw⟩:=inW h hk ho;have hj0:=hc.j0;have hjk:=hc.jk;obtain⟨a,b,ha,h2⟩:=hw.s6 h6;have hb:=hw.hin a (by rw[ha]; simp);have hb2:=hw.hin b (by rw[ha]; simp);have hL:iQ p k=(cl p a).length:=by rw[iQ,ha]; rfl
 have hcc:=hc.c2;refine⟨a,b,ha,⟨hb.1,by omega⟩,⟨hb2.1,by omega⟩,hL,h2.symm,by omega,fun hA=>?_,fun hA=>?_⟩
 ·refine nZ h hk hc (by simp) (fun x hx=>?_) (by rw[ha]; rfl) f4 (fun t ht=>?_)
  ·rw[cG.1 hx];refine⟨hb.1,by show a<_; omega,by rw[f1]; exact hc.fB,?_⟩;have hcol:∀ c,c∈cS (fx p k)->0<=id c/\id c<((cl p a).length:Int):=fun x hx=>by have h3:=dQ.1 hA x hx;rw[f1]at hx;have h4:=kK hc.fw x hx;simp only[iW,BEq.rfl,beq_true,pQ,hL]at h3;exact⟨h4.1,h3⟩
   have:=Hi (nc:=c.length) (by rw[f1]; exact hc.fw) hcol;have e:∀ e:aE,fG id e=e:=by
    intro e;have:∀ n (e:aE),SizeOf.sizeOf e<=n->fG id e=e:=by
     intro n
     induction n with
     | zero=>intro e he; cases e; simp at he
     | succ n ih=>
      intro e he;rw[pL];have hm:e.Args.map (fG id)=e.Args:=by
       conv=>rhs; rw[<-List.map_id e.Args]
       exact List.map_congr_left fun x hx=>ih x (by have:=dR hx; omega)
      rw[hm];have:(if e.Op=3 then id e.N else e.N)=e.N:=by split <;> rfl
      rw[this,aE.eta]
    exact this _ e (fK _)
   rw[e]at this;exact this
  ·have ht2:t<2:=ht
   match t,ht2 with
   | 0,_=>exact Or.inr ⟨0,by simp,rfl,by rw[ha]; rfl⟩
   | 1,_=>exact Or.inl (by rw[ha]; rfl)
 ·refine nZ h hk hc (by simp) (fun x hx=>?_) (by rw[ha]; rfl) f4 (fun t ht=>?_)
  ·rw[cG.1 hx];refine⟨hb2.1,by show b<_; omega,Au _ (by rw[f1]; exact hc.fB),?_⟩;refine Hi (nc:=c.length) (by rw[f1]; exact hc.fw) fun x hx=>?_;have h3:=dQ.1 hA x hx;rw[f1]at hx;have h4:=kK hc.fw x hx;have h5:¬ x<((cl p a).length:Int):=by rw[iW,hL]at h3;intro hlt;rw[cY hlt]at h3;exact absurd h3 (by decide)
   rw[hL];have e1:ncA p.Nodes a=(cl p a).length:=rfl;constructor
   ·omega
   ·show x-((cl p a).length:Int)<((ncA p.Nodes b:Nat):Int);omega
  ·have ht2:t<2:=ht
   match t,ht2 with
   | 0,_=>exact Or.inl (by rw[ha]; rfl)
   | 1,_=>exact Or.inr ⟨0,by simp,rfl,by rw[ha]; rfl⟩
theorem c4(m:Int):Sa ⟨p,k,m,nd p k⟩=some ((rl4 p k m).bind (uY p k)):=by
 unfold Sa Qg;by_cases ho:(nd p k).Op=1
 ·obtain⟨nc,hB,hw,hlv,hn,hnc,hbn⟩:=fxW h hk ho;cases ht:lN p (fx p k) with
  | true=>rw[qK (by simp[ht])];simp only[Tr.den,iU h hk m ho,aK,cU,nK h hB hw,ht,bU,cX];rfl
  | false=>
   by_cases hc:(m=0/\((inn p k).Op=6\/(inn p k).Op=7))\/(m=1/\(inn p k).Op=6)
   ·have h6:(inn p k).Op=6\/(inn p k).Op=7:=by omega
    obtain⟨a,b,ha,hb,hb2,hL,hsum,hle,hN0,hN1⟩:=in4 h hk ho h6;have q0:=gd2 ha;have hE:=Ex (p:=p) (k:=k) (m:=m) (n0:=nd p k) (n:=inn p k) (i:=0) (x:=a) (by rw[ha]; simp) q0.2.2.1 hb.1 (by omega);have hE':vZ (inn p k) 0 ⟨p,k,m,nd p k⟩=some (p.Nodes.getD a.toNat default):=hE;have hl2:((p.Nodes.getD a.toNat default).Cols.length:Int)=(iQ p k:Int):=by rw[hL]; rfl
    have hs:(fun c=>decide (c<(iQ p k:Int))==(m==0))=iW p k m:=rfl;have hI:Vj (inn p k).In=some [a,b]:=by rw[ha]; exact rH _ (by simp)
    have q73:=aIC (p:=p) (k:=k) (m:=m) (nd:=nd p k) (a:=(iQ p k:Int)) hB hw hn;rw[hs]at q73;rcases hc with⟨hm,h67⟩ | ⟨hm,h6'⟩
    ·subst hm;have q1:∀ e,oZ ((inn p k).In.getD (0:Int).toNat default) e ⟨p,k,0,nd p k⟩=some (dY a e (cl p a)):=fun e=>by rw[q0.2.2.1]; exact tE hb.1 (by omega) _
     have hpre2:(if ((inn p k).Op==6)=true then (some (Sum.inl ()):Option (Unit⊕Option (List aC))) else if ((inn p k).Op==7)=true then some (Sum.inl ()) else some (Sum.inr none))=some (Sum.inl ()):=by
      rcases h67 with h' | h'
      ·rw[aA (dB h')]
      ·rw[aF (eE (by omega)),aA (dB h')]
     have b0:((0:Int)==0)=true:=rfl;have b1:((0:Int)==1)=false:=rfl;have hd0:((0:Int)<=0/\(0:Int)<(([a,b]:List Int).length:Int))=True:=eI (by simp);have hd1:((0:Int).toNat<([a,b]:List Int).length)=True:=eI (by simp);have hd2:((([((0:Int).toNat,(k:Int))]:List (Nat×Int)).all fun p=>decide (p.1<([a,b]:List Int).length))=true)=True:=eI (by simp);by_cases hA:(cS (fx p k)).all (iW p k 0)=true
     ·rw[aHT ho ht h67 hA];simp only[Tr.den,iU h hk 0 ho,aK,cU,cT,nK h hB hw,ht,cK,bY,b0,b1,bU,cX,hpre2,dG,hE',hl2,q73,hA,hI,aE.eta,hd0,hd1,hd2,q0.1,q1,wP,gR];rw[show (inn p k).In.getD 0 default=a from q0.2.2.1,show (inn p k).In.getD 1 default=b from q0.2.2.2];exact Ss h hk (hN0 hA)
     ·rw[qK (fun hh=>hA hh.2.2.2)];simp only[Tr.den,iU h hk 0 ho,aK,cU,cT,nK h hB hw,ht,cK,bY,b0,b1,bU,cX,hpre2,dG,hE',hl2,q73,hA];rfl
    ·subst hm;have q1:∀ e,oZ ((inn p k).In.getD (1:Int).toNat default) e ⟨p,k,1,nd p k⟩=some (dY b e (cl p b)):=fun e=>by rw[q0.2.2.2]; exact tE hb2.1 (by omega) _
     have b0:((1:Int)==0)=false:=rfl;have b1:((1:Int)==1)=true:=rfl;have hd0:((0:Int)<=1/\(1:Int)<(([a,b]:List Int).length:Int))=True:=eI (by simp);have hd1:((1:Int).toNat<([a,b]:List Int).length)=True:=eI (by simp);have hd2:((([((1:Int).toNat,(k:Int))]:List (Nat×Int)).all fun p=>decide (p.1<([a,b]:List Int).length))=true)=True:=eI (by simp);by_cases hA:(cS (fx p k)).all (iW p k 1)=true
     ·have hg:Gj (fx p k) (iQ p k:Int)=some (fG (fun c=>c-(iQ p k:Int)) (fx p k)):=aJU hB hw ⟨⟨by omega,by omega⟩,fun c hc=>by have:=kK hw c hc; omega⟩;rw[aCA ho ht h6' hA];simp only[Tr.den,iU h hk 1 ho,aK,cU,cT,nK h hB hw,ht,cK,bY,b0,b1,bU,cX,dB h6',dG,hE',hl2,q73,hA,hg,hI,aE.eta,hd0,hd1,hd2,q0.2.1,q1,wP,gR];rw[show (inn p k).In.getD 0 default=a from q0.2.2.1,show (inn p k).In.getD 1 default=b from q0.2.2.2];exact Ss h hk (hN1 hA)
     ·rw[qK (fun hh=>hA hh.2.2.2)];simp only[Tr.den,iU h hk 1 ho,aK,cU,cT,nK h hB hw,ht,cK,bY,b0,b1,bU,cX,dB h6',dG,hE',hl2,q73,hA];rfl
   ·rw[qK (fun hh=>hc hh.2.2.1)];have hpre:(if (m==0)=true then if ((inn p k).Op==6)=true then (some (Sum.inl ()):Option (Unit⊕Option (List aC))) else if ((inn p k).Op==7)=true then some (Sum.inl ()) else (if (m==1)=true then (if ((inn p k).Op==6)=true then some (Sum.inl ()) else some (Sum.inr none)) else some (Sum.inr none)) else (if (m==1)=true then (if ((inn p k).Op==6)=true then some (Sum.inl ()) else some (Sum.inr none)) else some (Sum.inr none)))=some (Sum.inr none):=by
     by_cases m0:m=0
     ·rw[aA (dB m0),aF (eE (by omega)),aF (eE (by omega)),aF (eE (by omega))]
     ·rw[aF (eE m0)];by_cases m1:m=1
      ·rw[aA (dB m1),aF (eE (by omega))]
      ·rw[aF (eE m1)]
    simp only[Tr.den,iU h hk m ho,aK,cU,cT,nK h hB hw,ht,cK,bY,bU,cX,hpre,fP];rfl
 ·rw[qK fun hh=>ho hh.1];simp only[Tr.den,zJ h hk m ho,aK,cX];rfl
theorem r4(m:Int):∃ z,Qr ⟨p⟩ k m=some z/\RA ((rl4 p k m).bind (fin p k)) z:=by
 unfold Qr Mc;by_cases ho:(nd p k).Op=1
 ·obtain⟨nc,hB,hw,hlv,hn,hnc,hbn⟩:=fxW h hk ho;by_cases h6:(inn p k).Op=6\/(inn p k).Op=7
  ·have hmm:(!decide ((inn p k).Op∈([6,7]:List Int)))=false:=by simp; omega
   obtain⟨a,b,ha,hb,hb2,hL,hsum,hle,hN0,hN1⟩:=in4 h hk ho h6;have hlk:k<=p.Nodes.length:=by omega
   have q0:=gd2 ha;have hj:(if decide (m<0)=true then some true else if decide (m>1)=true then some true else if (m==1)=true then (if ((inn p k).Op==7)=true then some true else some (lN p (fx p k))) else some (lN p (fx p k))) =
     some (!(decide (lN p (fx p k)=false/\((m=0/\((inn p k).Op=6\/(inn p k).Op=7))\/(m=1/\(inn p k).Op=6))))):=by
    by_cases m0:m<0
    ·rw[aA (bS m0),eC (by omega)]; rfl
    ·rw[aF (bQ m0)];by_cases m1:m>1
     ·rw[aA (bS m1),eC (by omega)]; rfl
     ·rw[aF (bQ m1)];by_cases me:m=1
      ·rw[aA (dB me)];by_cases h7:(inn p k).Op=7
       ·rw[aA (dB h7),eC (by omega)]; rfl
       ·rw[aF (eE h7)];cases lN p (fx p k)
        ·rw[cY ⟨rfl,Or.inr ⟨me,by omega⟩⟩]; rfl
        ·rw[eC (by simp)]; rfl
      ·rw[aF (eE me)];cases lN p (fx p k)
       ·rw[cY ⟨rfl,Or.inl ⟨by omega,h6⟩⟩]; rfl
       ·rw[eC (by simp)]; rfl
   by_cases hc:lN p (fx p k)=false/\((m=0/\((inn p k).Op=6\/(inn p k).Op=7))\/(m=1/\(inn p k).Op=6))
   ·rw[cY hc]at hj;obtain⟨r,e1,e2,e3⟩:=(tR (fx p k) hB hw hn).get;have g1:(0<=(inn p k).In.getD (0:Int).toNat default/\(inn p k).In.getD (0:Int).toNat default<(p.Nodes.length:Int))=True:=eI (by rw[q0.2.2.1]; omega);have g2:(0<=(inn p k).In.getD (1:Int).toNat default/\(inn p k).In.getD (1:Int).toNat default<(p.Nodes.length:Int))=True:=eI (by rw[q0.2.2.2]; omega);have la:((p.Nodes.getD ((inn p k).In.getD (0:Int).toNat default).toNat default).Cols.length)=iQ p k:=rfl;have lb:((p.Nodes.getD ((inn p k).In.getD (1:Int).toNat default).toNat default).Cols.length)=(cl p b).length:=by rw[q0.2.2.2]; rfl
    have w0:cB (fun s=>(rI ⟨p⟩ m (gN (inn p k) (inn p k).In (nd p k).Cols,fx p k,decide ((inn p k).Op∈([6,7]:List Int))) r s).den) 0=some (if (r.all (iW p k m))=true then .inl () else .inr (⟨[],[]⟩,1)):=by
     refine kA (iW p k m) r (by omega) (fun i hi=>?_) ?_
     ·unfold rI;simp only[Tr.den,aJ,mI,la,aK,gE];rw[aA (bS (by omega)),aA (by omega)];have:(decide (r.getD i default>=(iQ p k:Int))==(m==1))=iW p k m (r.getD i default):=by rw[kV];simp only[iW,Bool.beq_eq_decide_eq,pQ,decide_eq_decide];omega
      rw[this];cases iW p k m (r.getD i default) <;> rfl
     ·unfold rI;simp only[Tr.den];rw[aF (bQ (by omega))]
    have all3:=uI (p:=iW p k m) e3;rcases hc.2 with⟨hm,h67⟩ | ⟨hm,h6'⟩
    ·subst hm;have b1:((0:Int)==1)=false:=rfl;have q1:∀ e,Hn ⟨p⟩ ((inn p k).In.getD (0:Int).toNat default) e=some (dY a e (cl p a)):=fun e=>by rw[q0.2.2.1]; exact qG hb.1 (by omega) _
     by_cases hA:(cS (fx p k)).all (iW p k 0)=true
     ·rw[aHT ho hc.1 h67 hA];simp only[Tr.den,iS h hk [6,7] (by simp) ho,aK,hmm,cK,bY,pK h hB hw,show decide ((0:Int)<0)=false from rfl,show decide ((0:Int)>1)=false from rfl,hc.1,mI,q0.1,q0.2.1,g1,g2,bU,e1,w0,all3,hA,dG,b1,q1,pT,mM,fC];rw[show (inn p k).In.getD 0 default=a from q0.2.2.1,q0.2.2.2,show (inn p k).In.getD 1 default=b from q0.2.2.2];exact kG h hk (hN0 hA)
     ·rw[qK (fun hh=>hA hh.2.2.2)];simp only[Tr.den,iS h hk [6,7] (by simp) ho,aK,hmm,cK,bY,pK h hB hw,mO,hj,iP,mI,q0.1,q0.2.1,g1,g2,bU,e1,w0,all3,hA,fP];exact⟨_,rfl,dP⟩
    ·subst hm;have b1:((1:Int)==1)=true:=rfl;have q1:∀ e,Hn ⟨p⟩ ((inn p k).In.getD (1:Int).toNat default) e=some (dY b e (cl p b)):=fun e=>by rw[q0.2.2.2]; exact qG hb2.1 (by omega) _
     have z0:((0:Nat):Int)=0:=rfl;have qa:vX 0 (iQ p k:Int)=some (fA 0 (iQ p k)):=Ag (a:=0) (by omega) (by omega);have qb:aEM 0 ((cl p b).length:Int)=some (fA 0 (cl p b).length):=aCK (a:=0) (by omega) (by omega);by_cases hA:(cS (fx p k)).all (iW p k 1)=true
     ·have hr:nW (fx p k) (fA 0 (iQ p k)++fA 0 (cl p b).length)=some (fG (fun c=>c-(iQ p k:Int)) (fx p k)):=by
       refine Kb hB hw hlv fun c hcc=>?_;have h4:=kK hw c hcc;have h3:=dQ.1 hA c hcc;have h5:¬ c<(iQ p k:Int):=by rw[iW]at h3;intro hlt;rw[cY hlt]at h3;exact absurd h3 (by decide)
       refine⟨h4.1,by rw[cZ,eO,eO]; omega,?_⟩;rw[cI,eH (by rw[eO]; omega),<-cI,eO,vM (by omega)]
       congr 1
       omega
      have q9:aJS (fx p k) (fA 0 (iQ p k)++fA 0 (cl p b).length)=some (fG (fun c=>c-(iQ p k:Int)) (fx p k),true):=by rw[Gy hB (fun x hx=>by rcases dZ.1 hx with hx | hx <;> exact aAY x hx),hr]; rfl
      have g3:(((fA 0 (iQ p k)).length+(fA 0 (cl p b).length).length)*56<=140737488355328)=True:=eI (by rw[eO,eO]; omega);rw[aCA ho hc.1 h6' hA];simp only[Tr.den,iS h hk [6,7] (by simp) ho,aK,hmm,cK,bY,pK h hB hw,mO,bF (show (inn p k).Op≠7 by omega),show decide ((1:Int)<0)=false from rfl,show decide ((1:Int)>1)=false from rfl,hc.1,mI,q0.1,q0.2.1,g1,g2,bU,e1,w0,all3,hA,dG,b1,la,lb,qa,qb,g3,q9,q1,pT,mM,fC];rw[q0.2.2.1,show (inn p k).In.getD 0 default=a from q0.2.2.1,show (inn p k).In.getD 1 default=b from q0.2.2.2];exact kG h hk (hN1 hA)
     ·rw[qK (fun hh=>hA hh.2.2.2)];simp only[Tr.den,iS h hk [6,7] (by simp) ho,aK,hmm,cK,bY,pK h hB hw,mO,hj,iP,mI,q0.1,q0.2.1,g1,g2,bU,e1,w0,all3,hA,fP];exact⟨_,rfl,dP⟩
   ·rw[eC hc]at hj;rw[qK (fun hh=>hc ⟨hh.2.1,hh.2.2.1⟩)];simp only[Tr.den,iS h hk [6,7] (by simp) ho,aK,hmm,cK,bY,pK h hB hw,mO,hj,lP,bU,gE];exact⟨_,rfl,dP⟩
  ·have hmm:(!decide ((inn p k).Op∈([6,7]:List Int)))=true:=by simp; omega
   rw[qK (fun hh=>h6 (by omega))];simp only[Tr.den,iS h hk [6,7] (by simp) ho,aK,hmm,bU,gE];exact⟨_,rfl,dP⟩
 ·rw[qK fun hh=>ho hh.1];simp only[Tr.den,zI h hk [6,7] (by simp) ho,aK,lP,bU,gE];exact⟨_,rfl,dP⟩
end
theorem aAD{p:aB}(h:WP p){k:Nat}(hk:k<p.Nodes.length):BN (nd p k):=(h.w k hk).b
def Ia(n:aC):aC:=aC.mk n.Op n.In n.Source n.Schema n.Exprs 0 n.Step 0 n.Key n.Key2 n.Before n.After n.Keep n.Aggs n.Seq n.Cols
def xO(n:aC):List Int:=(List.range n.Key.length).map fun i:Nat=>(i:Int)
def aFG(n:aC)(j:Nat):cF:=cF.mk (if (n.Aggs.getD j default).Kind=0 then 1 else (n.Aggs.getD j default).Kind) (((n.Key.length:Int)+1)+(j:Int)) (n.Aggs.getD j default).Name
def Ik(n:aC):List cF:=(List.range n.Aggs.length).map (aFG n)
def Kh(n:aC)(k:Int):aC:=aC.mk n.Op [k] n.Source n.Schema n.Exprs n.Kind n.Size n.Step (xO n) n.Key2 n.Before n.After n.Keep (Ik n) n.Seq n.Cols
def rl5(p:aB)(k:Nat):Option (List aC):=if (nd p k).Op=4/\(nd p k).Kind=1/\(nd p k).Step<(nd p k).Size then some [Ia (nd p k),Kh (nd p k) k] else none
theorem aEP{p:aB}{k:Nat}(h:¬ ((nd p k).Op=4/\(nd p k).Kind=1/\(nd p k).Step<(nd p k).Size)):rl5 p k=none:=aF h
theorem aEI{p:aB}{k:Nat}(h:(nd p k).Op=4/\(nd p k).Kind=1/\(nd p k).Step<(nd p k).Size):rl5 p k=some [Ia (nd p k),Kh (nd p k) k]:=aA h
theorem aCU{nf:Nat}{nc:Int->Nat}{i:Int}(ho:n.Op=4)(hb:BN n)(hi:n.In=[j])(h0:0<=j/\j<i)(he:n.Exprs=[])(hk:∀ c,c∈n.Key->0<=c/\c<(nc j:Int))(hl:n.Key.length<=n.Cols.length):WN nf nc i n where
 b:=hb
 hin:=fun x hx=>by rw[hi]at hx; rw[cG.1 hx]; exact h0
 ex:=fun e h=>by rw[he]at h; cases h
 s1:=fun h=>by omega
 s2:=fun h=>by omega
 s3:=fun h=>by omega
 s4:=fun _=>⟨j,hi,hk⟩
 s4k:=fun _=>hl
 s5:=fun h=>by omega
 s6:=fun h=>by omega
 e0:=fun _ _=>he
section
variable {p:aB} (h:WP p) {k:Nat} (hk:k<p.Nodes.length)
include h hk
theorem aSY(ho:(nd p k).Op=4):jN p k [Ia (nd p k),Kh (nd p k) k]:=by
 have hw:WN p.Funcs.length (ncA p.Nodes) k (nd p k):=h.w k hk;have hb:=hw.b;obtain⟨j,h1,h2⟩:=hw.s4 (Or.inl ho);have hkl:=hw.s4k ho;have hj:=hw.hin j (by rw[h1]; simp);have he:=hw.e0 (by omega) (by omega);refine⟨by simp,fun i hi=>?_,Or.inr ⟨by simp,?_⟩⟩
 ·have hi2:i<2:=hi
  match i,hi2 with
  | 0,_=>refine aCU (n:=Ia (nd p k)) ho ⟨hb.i,hb.e,hb.eB,hb.k,hb.k2,hb.a,hb.s,hb.sB,hb.c⟩ h1 ⟨hj.1,by omega⟩ he (fun c hc=>?_) hkl;rw[wW (by omega)]; exact h2 c hc
  | 1,_=>
   have hlk:(xO (nd p k)).length=(nd p k).Key.length:=by simp[xO]
   refine aCU (n:=Kh (nd p k) k) (j:=(k:Int)) ho ⟨by show (1:Nat)<=_; omega,hb.e,hb.eB,by show (xO (nd p k)).length<=_; rw[hlk]; exact hb.k,hb.k2,by show (Ik (nd p k)).length<=_; simp only[Ik,iG,lI]; exact hb.a,hb.s,hb.sB,hb.c⟩ rfl ⟨by omega,by omega⟩ he (fun c hc=>?_) ?_
   ·have hc':c∈xO (nd p k):=hc;obtain⟨x,hx,rfl⟩:=dW.1 hc';rw[sF]at hx;have e:ncL p.Nodes k [Ia (nd p k),Kh (nd p k) k] (k:Int)=(nd p k).Cols.length:=by rw[ncL,aF (by omega),aJ,sM]; rfl
    rw[e];omega
   ·show (xO (nd p k)).length<=(nd p k).Cols.length;rw[hlk]; exact hkl
 ·show (nd p k).Cols.length=_;unfold ncA;rw[aJ]; rfl
theorem c5(m:Int):Ra ⟨p,k,m,nd p k⟩=some ((rl5 p k).bind (uY p k)):=by
 have hb:=aAD h hk;have hbk:=hb.k;have hba:=hb.a;unfold Ra Pc;by_cases hc:(nd p k).Op=4/\(nd p k).Kind=1/\(nd p k).Step<(nd p k).Size
 ·have w1:cB (fun s=>(oJ ⟨p,k,m,nd p k⟩ s).den) ([],0)=some (.inl (xO (nd p k))):=by
   have:=eP (S:=List Int×Int) (st:=fun v i=>(v,i)) (bd:=fun s=>(oJ ⟨p,k,m,nd p k⟩ s).den) (fun i:Nat=>(i:Int)) (List.range (nd p k).Key.length) [] (r:=fun v=>.inl v) (by simp; omega) (fun v i hi hv=>?_) (fun v=>?_)
   ·rw[pC]at this; exact this
   ·have hi':i<(nd p k).Key.length:=by simpa using hi
    have hv':v.length=i:=by simpa using hv
    unfold oJ;simp only[Tr.den];rw[aA (bS (by omega)),aA (by simp; omega),kD hi']
   ·unfold oJ;simp only[Tr.den,lI];rw[aF (bQ (by omega))]
  have w2:∀ v0 r1,cB (fun s=>(oI ⟨p,k,m,nd p k⟩ r1 s).den) (v0,[],0)=some (.inl (v0,Ik (nd p k))):=by
   intro v0 r1;have:=eP (S:=List Int×List cF×Int) (st:=fun v i=>(v0,v,i)) (bd:=fun s=>(oI ⟨p,k,m,nd p k⟩ r1 s).den) (aFG (nd p k)) (List.range (nd p k).Aggs.length) [] (r:=fun v=>.inl (v0,v)) (by simp; omega) (fun v i hi hv=>?_) (fun v=>?_)
   ·rw[pC]at this; exact this
   ·have hi':i<(nd p k).Aggs.length:=by simpa using hi
    have hv':v.length=i:=by simpa using hv
    unfold oI;simp only[Tr.den,aJ];rw[aA (bS (by omega)),aA (by omega),kD hi',cR (n:=((nd p k).Key.length:Int)+1) (by omega) (by omega),cR (n:=((nd p k).Key.length:Int)+1+(i:Int)) (by omega) (by omega)];unfold aFG;by_cases h0:((nd p k).Aggs.getD i default).Kind=0
    ·rw[aA (dB h0),aA h0];simp only[aK];rw[aA (by simp; omega)]
    ·rw[aF (eE h0),aF h0];simp only[aK];rw[aA (by simp; omega)]
   ·unfold oI;simp only[Tr.den,lI];rw[aF (bQ (by omega))]
  rw[aEI hc];simp only[Tr.den,dB hc.1,dB hc.2.1,cY hc.2.2,bU,aK,cU,dG,Qm,w1,w2,gR];exact qL h hk (aSY h hk hc.1)
 ·rw[aEP hc];have hpre:(if ((nd p k).Op==4)=true then (if ((nd p k).Kind==1)=true then (if decide ((nd p k).Step<(nd p k).Size)=true then some (Sum.inl ():Unit⊕Option (List aC)) else some (Sum.inr none)) else some (Sum.inr none)) else some (Sum.inr none))=some (Sum.inr none):=by
   by_cases h4:(nd p k).Op=4
   ·rw[aA (dB h4)];by_cases h1:(nd p k).Kind=1
    ·rw[aA (dB h1),aF (bQ fun h2=>hc ⟨h4,h1,h2⟩)]
    ·rw[aF (eE h1)]
   ·rw[aF (eE h4)]
  simp only[Tr.den,aK,cT,cK,bY,cX,hpre,fP];rfl
theorem r5(m:Int):∃ z,Nx ⟨p⟩ k m=some z/\RA ((rl5 p k).bind (fin p k)) z:=by
 have hb:=aAD h hk;have hbk:=hb.k;have hba:=hb.a;unfold Nx Og;have hin:(0<=(k:Int)/\(k:Int)<(p.Nodes.length:Int))=True:=eI (by omega);by_cases hc:(nd p k).Op=4/\(nd p k).Kind=1/\(nd p k).Step<(nd p k).Size
 ·have w1:cB (fun s=>(nV ⟨p⟩ k s).den) ([],0)=some (.inl (xO (nd p k))):=by
   have:=eP (S:=List Int×Int) (st:=fun v i=>(v,i)) (bd:=fun s=>(nV ⟨p⟩ k s).den) (fun i:Nat=>(i:Int)) (List.range (nd p k).Key.length) [] (r:=fun v=>.inl v) (by simp; omega) (fun v i hi hv=>?_) (fun v=>?_)
   ·rw[pC]at this; exact this
   ·have hi':i<(nd p k).Key.length:=by simpa using hi
    have hv':v.length=i:=by simpa using hv
    unfold nV;simp only[Tr.den,aJ,mN];rw[aA (bS (by omega)),aA (by simp; omega),kD hi']
   ·unfold nV;simp only[Tr.den,lI,aJ,mN];rw[aF (bQ (by omega))]
  have w2:∀ v0 r1,cB (fun s=>(nY ⟨p⟩ k r1 s).den) (v0,[],0)=some (.inl (v0,Ik (nd p k))):=by
   intro v0 r1;have:=eP (S:=List Int×List cF×Int) (st:=fun v i=>(v0,v,i)) (bd:=fun s=>(nY ⟨p⟩ k r1 s).den) (aFG (nd p k)) (List.range (nd p k).Aggs.length) [] (r:=fun v=>.inl (v0,v)) (by simp; omega) (fun v i hi hv=>?_) (fun v=>?_)
   ·rw[pC]at this; exact this
   ·have hi':i<(nd p k).Aggs.length:=by simpa using hi
    have hv':v.length=i:=by simpa using hv
    unfold nY;simp only[Tr.den,aJ,mN];rw[aA (bS (by omega)),aA (by omega),kD hi',cR (n:=((nd p k).Key.length:Int)+1) (by omega) (by omega),cR (n:=((nd p k).Key.length:Int)+1+(i:Int)) (by omega) (by omega)];unfold aFG;by_cases h0:((nd p k).Aggs.getD i default).Kind=0
    ·rw[aA (dB h0),aA h0];simp only[aK];rw[aA (by simp; omega)]
    ·rw[aF (eE h0),aF h0];simp only[aK];rw[aA (by simp; omega)]
   ·unfold nY;simp only[Tr.den,lI,aJ,mN];rw[aF (bQ (by omega))]
  rw[aEI hc];simp only[Tr.den,hin,bU,aJ,mN,Fc hc.1,Fc hc.2.1,show decide ((nd p k).Step>=(nd p k).Size)=false from eC (by omega),cK,bY,aK,dG,pT,w1,w2,fC];exact kG h hk (aSY h hk hc.1)
 ·rw[aEP hc];have hpre:(if ((nd p k).Op != 4)=true then some true else (if ((nd p k).Kind != 1)=true then some true else some (decide ((nd p k).Step>=(nd p k).Size))))=some true:=by
   by_cases h4:(nd p k).Op=4
   ·rw[aF (by rw[Fc h4]; simp)];by_cases h1:(nd p k).Kind=1
    ·rw[aF (by rw[Fc h1]; simp),cY (by omega)]
    ·rw[aA (Bq h1)]
   ·rw[aA (Bq h4)]
  simp only[Tr.den,hin,bU,aJ,mN,hpre,aK,gE];exact⟨_,rfl,dP⟩
end
def swA(n:aC)(a b:Int)(L:Nat):aC:=aC.mk n.Op [b,a] n.Source n.Schema n.Exprs n.Kind n.Size n.Step n.Key2 n.Key n.After n.Before n.Keep n.Aggs n.Seq (n.Cols.drop L++n.Cols.take L)
def swB(k:Int)(es:List aE)(c:List aT):aC:=aC.mk 2 [k] ⟨#[]⟩ 0 es 0 0 0 [] [] 0 0 0 [] [] c
def rl6(p:aB)(k:Nat):Option (List aC):=if (nd p k).Op=6 then
 some [swA (nd p k) ((nd p k).In.getD 0 default) ((nd p k).In.getD 1 default) (cl p ((nd p k).In.getD 0 default)).length,
  swB k (fA (cl p ((nd p k).In.getD 1 default)).length (cl p ((nd p k).In.getD 0 default)).length++fA 0 (cl p ((nd p k).In.getD 1 default)).length) (nd p k).Cols] else none
theorem aIN{p:aB}{k:Nat}(h:(nd p k).Op≠6):rl6 p k=none:=aF h
theorem aJF{p:aB}{k:Nat}{b:Int}(h:(nd p k).Op=6)(hi:(nd p k).In=[a,b]):rl6 p k=some [swA (nd p k) a b (cl p a).length,swB k (fA (cl p b).length (cl p a).length++fA 0 (cl p b).length) (nd p k).Cols]:=by rw[rl6,aA h,hi]; rfl
theorem bBO{p:aB}:(nd p a.toNat).Cols=cl p a:=id rfl
theorem aMO{nf nc:Nat}{c:Nat}(h:c<nc):wfE nf nc (lL (c:Int)):=
 wfE.mk (e:=lL (c:Int)) (fun h=>absurd h (by show ¬ ((3:Int)=21); omega)) (fun h=>absurd h (by show ¬ ((3:Int)=22); omega)) (fun _=>⟨by show (0:Int)<=(c:Int); omega,by show (c:Int)<_; omega,rfl,rfl⟩) fun x hx=>by cases hx
section
variable {p:aB} (h:WP p) {k:Nat} (hk:k<p.Nodes.length)
include h hk
theorem in6(ho:(nd p k).Op=6):∃ a b,(nd p k).In=[a,b]/\(0<=a/\a<(k:Int))/\(0<=b/\b<(k:Int))/\(nd p k).Cols.length=(cl p a).length+(cl p b).length/\(nd p k).Cols.length<=1000000000 /\
  jN p k [swA (nd p k) a b (cl p a).length,swB k (fA (cl p b).length (cl p a).length++fA 0 (cl p b).length) (nd p k).Cols]:=by
 have hw:WN p.Funcs.length (ncA p.Nodes) k (nd p k):=h.w k hk;have hb:=hw.b;have hcc:=hb.c;obtain⟨a,b,h1,h2⟩:=hw.s6 (Or.inl ho);have ha:=hw.hin a (by rw[h1]; simp);have hbb:=hw.hin b (by rw[h1]; simp);have he:=hw.e0 (by omega) (by omega);have h2':(nd p k).Cols.length=(cl p a).length+(cl p b).length:=h2;refine⟨a,b,h1,ha,hbb,h2',hcc,by simp,fun i hi=>?_,Or.inr ⟨by simp,?_⟩⟩
 ·have hi2:i<2:=hi;have hlen:((nd p k).Cols.drop (cl p a).length++(nd p k).Cols.take (cl p a).length).length=(cl p a).length+(cl p b).length:=by rw[cZ,fI,dM]; omega
  match i,hi2 with
  | 0,_=>
   have hop:(swA (nd p k) a b (cl p a).length).Op=6:=ho;exact {
    b:=⟨by show (2:Nat)<=_; omega,hb.e,hb.eB,hb.k2,hb.k,hb.a,hb.s,hb.sB,gV (Nat.le_of_eq hlen) (by omega)⟩
    hin:=fun x hx=>by
     rcases aX.1 (show x∈[b,a] from hx) with rfl | hx
     ·exact⟨hbb.1,by omega⟩
     ·rw[cG.1 hx]; exact⟨ha.1,by omega⟩
    ex:=fun e h=>by have h':e∈(nd p k).Exprs:=h;rw[he]at h'; cases h'
    s1:=fun h=>by rw[jY,hop]at h; omega
    s2:=fun h=>by rw[jY,hop]at h; omega
    s3:=fun h=>by rw[jY,hop]at h; omega
    s4:=fun h=>by rw[jY,hop]at h; omega
    s4k:=fun h=>by rw[jY,hop]at h; omega
    s5:=fun h=>by rw[jY,hop]at h; omega
    s6:=fun _=>⟨b,a,rfl,by rw[wW (by omega),wW (by omega)];exact hlen.trans (Nat.add_comm _ _)⟩
    e0:=fun _ _=>he }
  | 1,_=>
   have hop:(swB k (fA (cl p b).length (cl p a).length++fA 0 (cl p b).length) (nd p k).Cols).Op=2:=rfl;have hE:∀ x,x∈fA (cl p b).length (cl p a).length++fA 0 (cl p b).length->∃ c:Nat,c<(cl p a).length+(cl p b).length/\x=lL (c:Int):=fun x hx=>by
    rcases dZ.1 hx with hx | hx
    ·obtain⟨i,hi,rfl⟩:=dW.1 hx;rw[sF]at hi;exact⟨_,by omega,rfl⟩
    ·obtain⟨i,hi,rfl⟩:=dW.1 hx;rw[sF]at hi;exact⟨_,by omega,rfl⟩
   exact {
    b:=⟨by show (1:Nat)<=_; omega,(show (fA (cl p b).length (cl p a).length++fA 0 (cl p b).length).length<=1000000000 by rw[cZ,eO,eO]; omega),fun x hx=>by obtain⟨c,_,rfl⟩:=hE x hx; exact Ad _,by show (0:Nat)<=_; omega,by show (0:Nat)<=_; omega,by show (0:Nat)<=_; omega,by show (0:Nat)<=_; omega,fun x hx=>(vU (show x∈([]:List cC) from hx)).elim,hcc⟩
    hin:=fun x hx=>by rw[cG.1 (show x∈[(k:Int)] from hx)];exact⟨by omega,by omega⟩
    ex:=fun e he=>by
     refine⟨(k:Int),rfl,?_⟩;obtain⟨c,hc,rfl⟩:=hE e he;have e:∀ x,ncL p.Nodes k [swA (nd p k) a b (cl p a).length,x] (k:Int)=(cl p a).length+(cl p b).length:=fun x=>by rw[ncL,aF (by omega),aJ,sM,jY];exact hlen
     rw[e];exact aMO hc
    s1:=fun h=>by rw[vE,jY,hop]at h; omega
    s2:=fun _=>⟨(k:Int),rfl⟩
    s3:=fun h=>by rw[vE,jY,hop]at h; omega
    s4:=fun h=>by rw[vE,jY,hop]at h; omega
    s4k:=fun h=>by rw[vE,jY,hop]at h; omega
    s5:=fun h=>by rw[vE,jY,hop]at h; omega
    s6:=fun h=>by rw[vE,jY,hop]at h; omega
    e0:=fun _ h=>absurd hop h }
 ·show (nd p k).Cols.length=_;unfold ncA;rw[aJ]; rfl
theorem c6(m:Int):Ns ⟨p,k,m,nd p k⟩=some ((rl6 p k).bind (uY p k)):=by
 unfold Ns Mh;by_cases ho:(nd p k).Op=6
 ·obtain⟨a,b,hi,ha,hb,hc,hcc,hN⟩:=in6 h hk ho;rw[aJF ho hi];have q0:=gd2 hi;have hA:vZ (nd p k) 0 ⟨p,k,m,nd p k⟩=some (p.Nodes.getD a.toNat default):=Ex (p:=p) (k:=k) (m:=m) (n0:=nd p k) (n:=nd p k) (i:=0) (x:=a) (by rw[hi]; simp) q0.2.2.1 ha.1 (by omega);have hB:vZ (nd p k) 1 ⟨p,k,m,nd p k⟩=some (p.Nodes.getD b.toNat default):=Ex (p:=p) (k:=k) (m:=m) (n0:=nd p k) (n:=nd p k) (i:=1) (x:=b) (by rw[hi]; simp) q0.2.2.2 hb.1 (by omega);have la:(p.Nodes.getD a.toNat default).Cols.length=(cl p a).length:=rfl;have lb:(p.Nodes.getD b.toNat default).Cols.length=(cl p b).length:=rfl;have w1:cB (fun s=>(nX (p.Nodes.getD a.toNat default) (p.Nodes.getD b.toNat default) s).den) ([],0)=some (.inl (fA (cl p b).length (cl p a).length++fA 0 (cl p b).length)):=by
   have:=eP (S:=List aE×Int) (st:=fun v i=>(v,i)) (bd:=fun s=>(nX (p.Nodes.getD a.toNat default) (p.Nodes.getD b.toNat default) s).den) (fun i:Nat=>if i<(cl p a).length then lL (((cl p b).length+i:Nat):Int) else lL ((i-(cl p a).length:Nat):Int)) (List.range ((cl p a).length+(cl p b).length)) [] (r:=fun v=>.inl v) (by simp; omega) (fun v i hi hv=>?_) (fun v=>?_)
   ·rw[pC]at this;rw[this]
    congr 2
    refine Jk (by rw[iG,lI,cZ,eO,eO]) fun i hi=>?_;rw[iG,lI]at hi;rw[eJ (by simpa using hi),List.getElem_map,List.getElem_range,cI];by_cases hlt:i<(cl p a).length
    ·rw[aA hlt,eT (by rw[eO]; exact hlt),<-cI,vM hlt]
    ·rw[aF hlt,eH (by rw[eO]; omega),<-cI,eO,vM (by omega)]
     congr 2
     omega
   ·have hi':i<(cl p a).length+(cl p b).length:=by simpa using hi
    have hv':v.length=i:=by simpa using hv
    unfold nX;simp only[Tr.den,la,lb];rw[cR (n:=((cl p a).length:Int)+((cl p b).length:Int)) (by omega) (by omega),aA (bS (by omega)),aA (by omega),aA (by omega),kD hi',cR (n:=(i:Int)+((cl p b).length:Int)) (by omega) (by omega),Int.tmod_eq_emod_of_nonneg (by omega)];have e:aE.mk 3 (((i:Int)+((cl p b).length:Int)) % (((cl p a).length:Int)+((cl p b).length:Int))) ⟨#[]⟩ []=if i<(cl p a).length then lL (((cl p b).length+i:Nat):Int) else lL ((i-(cl p a).length:Nat):Int):=by
     by_cases hlt:i<(cl p a).length
     ·rw[aA hlt,Int.emod_eq_of_lt (by omega) (by omega)];show lL _=lL _
      congr 1
      omega
     ·rw[aF hlt];show lL _=lL _
      congr 1
      have e1:(i:Int)+((cl p b).length:Int)=((i:Int)-((cl p a).length:Int))+(((cl p a).length:Int)+((cl p b).length:Int)):=by omega
      rw[e1,Int.add_emod_right,Int.emod_eq_of_lt (by omega) (by omega)];omega
    rw[e]
   ·unfold nX;simp only[Tr.den,la,lb,lI];rw[cR (n:=((cl p a).length:Int)+((cl p b).length:Int)) (by omega) (by omega),aF (bQ (by omega))]
  have g1:(0<=((cl p a).length:Int)/\((cl p a).length:Int)<=((nd p k).Cols.length:Int)/\((nd p k).Cols.length:Int)<=((nd p k).Cols.length:Int))=True:=eI (by omega);have g2:(0<=(0:Int)/\(0:Int)<=((cl p a).length:Int)/\((cl p a).length:Int)<=((nd p k).Cols.length:Int))=True:=eI (by omega);have e582:aKO [((nd p k).Cols.drop ((cl p a).length:Int).toNat).take (((nd p k).Cols.length:Int)-((cl p a).length:Int)).toNat,((nd p k).Cols.drop (0:Int).toNat).take (((cl p a).length:Int)-(0:Int)).toNat]=some ((nd p k).Cols.drop (cl p a).length++(nd p k).Cols.take (cl p a).length):=by
   rw[aYA _ (by simp) fun x hx=>?_]
   ·simp only[sU,zG,id,jJ,tD,List.drop_zero,Int.sub_zero,aJ];rw[show (((nd p k).Cols.length:Int)-((cl p a).length:Int)).toNat=(nd p k).Cols.length-(cl p a).length by omega,uP]
   ·rcases aX.1 hx with rfl | hx
    ·rw[dM,fI]; omega
    ·rw[cG.1 hx,dM,fI]; omega
  simp only[Tr.den,dB ho,bU,aK,cU,hA,hB,w1,dG,q0.1,q0.2.1,Qm,la,mC,g1,g2,e582,gR];rw[q0.2.2.1,q0.2.2.2];exact qL h hk hN
 ·rw[aIN ho];simp only[Tr.den,bF ho,cK,bY,aK,cX];rfl
theorem r6(m:Int):∃ z,Pk ⟨p⟩ k m=some z/\RA ((rl6 p k).bind (fin p k)) z:=by
 unfold Pk Oa;have hin:(0<=(k:Int)/\(k:Int)<(p.Nodes.length:Int))=True:=eI (by omega);by_cases ho:(nd p k).Op=6
 ·obtain⟨a,b,hi,ha,hb,hc,hcc,hN⟩:=in6 h hk ho;rw[aJF ho hi];have q0:=gd2 hi;have g1:(0<=((cl p a).length:Int)/\((cl p a).length:Int)<=((nd p k).Cols.length:Int)/\((nd p k).Cols.length:Int)<=((nd p k).Cols.length:Int))=True:=eI (by omega);have g2:(0<=(0:Int)/\(0:Int)<=((cl p a).length:Int)/\((cl p a).length:Int)<=((nd p k).Cols.length:Int))=True:=eI (by omega);have g3:(0<=a/\a<(p.Nodes.length:Int))=True:=eI (by omega);have g4:(0<=b/\b<(p.Nodes.length:Int))=True:=eI (by omega);have la:(p.Nodes.getD a.toNat default).Cols.length=(cl p a).length:=rfl;have lb:(p.Nodes.getD b.toNat default).Cols.length=(cl p b).length:=rfl;have e582:Hd [((nd p k).Cols.drop (cl p a).length).take (((nd p k).Cols.length:Int)-((cl p a).length:Int)).toNat,((nd p k).Cols.drop (0:Int).toNat).take (((cl p a).length:Int)-(0:Int)).toNat]=some ((nd p k).Cols.drop (cl p a).length++(nd p k).Cols.take (cl p a).length):=by
   rw[aCW _ (by simp) fun x hx=>?_]
   ·simp only[sU,zG,id,jJ,tD,List.drop_zero,Int.sub_zero,aJ];rw[show (((nd p k).Cols.length:Int)-((cl p a).length:Int)).toNat=(nd p k).Cols.length-(cl p a).length by omega,uP]
   ·rcases aX.1 hx with rfl | hx
    ·rw[dM,fI]; omega
    ·rw[cG.1 hx,dM,fI]; omega
  have qa:vX ((cl p b).length:Int) (IntKind.i64.wrap (((cl p a).length:Int)+((cl p b).length:Int)))=some (fA (cl p b).length (cl p a).length):=Ag (by omega) (by rw[cR (by omega) (by omega)]; omega);have qb:vX 0 ((cl p b).length:Int)=some (fA 0 (cl p b).length):=Ag (a:=0) (by omega) (by omega);have g5:(((fA (cl p b).length (cl p a).length).length+(fA 0 (cl p b).length).length)*56<=140737488355328)=True:=eI (by rw[eO,eO]; omega);simp only[Tr.den,hin,bU,aJ,mN,Fc ho,cK,bY,q0.1,q0.2.1,q0.2.2.1,q0.2.2.2,g3,g4,pT,aK,bBO,g1,g2,e582,qa,qb,g5,fC];exact kG h hk hN
 ·rw[aIN ho];simp only[Tr.den,hin,bU,aJ,mN,Bq ho,aK,gE];exact⟨_,rfl,dP⟩
end
end Go.PL
