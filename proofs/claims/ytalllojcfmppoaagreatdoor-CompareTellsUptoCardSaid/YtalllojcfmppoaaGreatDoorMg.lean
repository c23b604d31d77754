/-
  Parts: From the reading of arguments to plain data; the frame of a law's row. Own work. What reads as data of the argument types reads as plain data of ours. Printed by a program of our own. What these texts lean on of our older plain laws, turned to this seat (gather.py). Own work. Plain reasoning: rules by shape; loops over lists. Own work. What the functions on expressions come to: parts, clones, replacements. Own work. Inlining: the program's way and the reference's; the same expressions. Own work. The same expressions; the fields of two nodes. Own work. Comparing nodes with a memory of what was compared. Own work. Comparing programs: the program's way and the reference's. Own work. Checking a certificate, and what is fresh: the program's way and the reference's. Own work.
-/
import Derived.Test.YtalllojcfmppoaaGreatDoorMf
import Derived.Test.YtalllojcfmppoaaGreatDoorRows
import Derived.JoinedCond
import Derived.ProofKit
import Derived.OpenShut
import Derived.Carry
import Derived.DataReads
import Derived.ChangeAnyMap
import Derived.Laws.Strings
import Derived.Lib.AtoiAll
import Derived.Lib.AtoiAllCases
import Derived.Lib.Bytealg
import Derived.Lib.IndexLaws
import Derived.Lib.ItoaLen
import Derived.Sort.LotA
set_option maxHeartbeats 4000000
namespace Go.PL
open Go Go.RowKit
open Go.Proofs.YtalllojcfmppoaaGreatDoor.Rows (uptoBulk uptoBulkAll)
variable {X:Type} {fuel:Nat} {ps:List MemPlace} {t:TypeId} {v:Value}
def RdL(F:Nat->Prop)(W:World)(l:List T)(cs:List Value):Prop:=cs.length=l.length/\∀ (j:Nat) x v,l[j]? = some x->cs[j]? = some v->Rd F W x v
theorem RdL.append{F:Nat->Prop}{W:World}{l l':List T}{cs cs':List Value}(h:RdL F W l cs)(h':RdL F W l' cs'):RdL F W (l++l') (cs++cs'):=by
 refine⟨by simp[h.1,h'.1],fun j x v hx hv=>?_⟩;by_cases hj:j<l.length
 ·rw[eV hj]at hx;rw[eV (by rw[h.1]; exact hj)]at hv;exact h.2 j x v hx hv
 ·rw[fI (by omega)]at hx;rw[fI (by rw[h.1]; omega),h.1]at hv;exact h'.2 _ x v hx hv
def eP(n:Int):Prop:=-9223372036854775808<=n/\n<=9223372036854775807
section
variable {H:Type} {enc:TypeId×Value->H} {P:Program} {W:World}
def fH(enc:TypeId×Value->H)(P:Program)(W:World)(t:TypeId)(c:X->List T)(ok:X->Prop)(fuel:Nat):Prop:=
 ∀ cs d ps,DataW.trod enc P W 0 (fun _=>true) true fuel t cs=some (d,ps)->uptoBulk d<=1048576->∃ x,RdL (fun b=>b<W.heap.size) W (c x) cs/\ok x
theorem cQ{c:X->List T}{ok:X->Prop}:fH enc P W t c ok 0:=fun cs d ps h=>by simp[DataW.trod]at h
theorem RdL.one{F:Nat->Prop}{W:World}{x:T}(h:Rd F W x v):RdL F W [x] [v]:=by
 refine⟨rfl,fun j y u hy hu=>?_⟩;cases j with
 | zero=>simp at hy hu; subst hy; subst hu; exact h
 | succ j=>simp at hy
theorem cV(ht:P.underlying t=some (.int .i64))(fuel:Nat):fH enc P W t aQ eP fuel:=by
 cases fuel with
 | zero=>exact cQ
 | succ fuel=>
  intro cs d ps h _;unfold DataW.trod at h;rw[ht]at h;split at h <;> try (simp_all; done)
  rename_i k k' n hk;split at h
  ·rename_i hk2;cases hk;obtain⟨rfl,hwf⟩:=hk2;refine⟨n,RdL.one (.int _ _),?_⟩;simp[Lit.wf,IntKind.min,IntKind.max,IntKind.signed,IntKind.bits]at hwf;exact⟨by omega,by omega⟩
  ·cases h
def jB(s:ByteArray):Prop:=s.size<=1048576
theorem fY(ht:P.underlying t=some .string)(fuel:Nat):fH enc P W t mJ jB fuel:=by
 cases fuel with
 | zero=>exact cQ
 | succ fuel=>
  intro cs d ps h hw;unfold DataW.trod at h;rw[ht]at h;split at h <;> try (simp_all; done)
  rename_i s hk;split at h
  ·cases h;refine⟨s,RdL.one (.str _),?_⟩;have:s.data.toList.length+1<=1048576:=hw;have:s.size=s.data.toList.length:=rfl;unfold jB;omega
  ·cases h
theorem sE{α β:Type}{f:α->Option β}:∀ {l:List α} {r:List β},l.mapM f=some r->r.length=l.length/\∀ (i:Nat) a b,l[i]? = some a->r[i]? = some b->f a=some b
 | [],r,h=>by simp at h; subst h; simp
 | x::l,r,h=>by
  rw[sK]at h;simp only[Option.bind_eq_bind,yV]at h;obtain⟨y,hy,ys,hys,hr⟩:=h;simp at hr; subst hr;obtain⟨h1,h2⟩:=sE hys;refine⟨by simp[h1],fun i a b ha hb=>?_⟩;cases i with
  | zero=>simp at ha hb; subst ha; subst hb; exact hy
  | succ i=>exact h2 i a b (by simpa using ha) (by simpa using hb)
theorem Dp:∀ d:DataW H,1<=uptoBulk d
 | .lit l=>by unfold uptoBulk; split <;> omega
 | .nil=>by simp[uptoBulk]
 | .ptr d=>by simp[uptoBulk]
 | .slice e s=>by simp[uptoBulk]
 | .agg p=>by simp[uptoBulk]
 | .iface t d=>by simp[uptoBulk]
 | .map e=>by simp[uptoBulk]
 | .held h=>by simp[uptoBulk]
theorem uH:∀ l:List (DataW H),l.length<=uptoBulkAll l
 | []=>by simp
 | d::l=>by simp only[uptoBulkAll,gP]; have:=Dp d; have:=uH l; omega
theorem uL:∀ {l:List (DataW H)} {d:DataW H},d∈l->uptoBulk d<=uptoBulkAll l
 | x::l,d,h=>by
  simp only[uptoBulkAll];rcases bB.1 h with rfl | h
  ·omega
  ·have:=uL h; omega
def okL(_b:Nat)(ok:X->Prop)(xs:List X):Prop:=xs.length<=1048576/\∀ x,x∈xs->ok x
theorem fV{t e b:Nat}(ht:P.underlying t=some (.slice e))(hn:Nat.blt 0 (P.cellsOf e)=true)(hb:P.bytesOf e=b){X:Type}[Inhabited X]{c:X->List T}{ok:X->Prop}{fuel:Nat}(he:fH enc P W e c ok fuel)(mk:List X->T)
  (hmk:∀ xs,(mk xs).view=some (xs.length,fun i=>c (xs.getD i default))):fH enc P W t (fun xs=>[mk xs]) (okL b ok) (fuel+1):=by
 have hz:0<P.cellsOf e:=by simpa[dR] using hn
 clear hn;subst hb;intro cs d ps h hw;unfold DataW.trod at h;rw[ht]at h;split at h <;> try (simp_all; done)
 ·
  rename_i hk;cases hk;refine⟨[],RdL.one (.nil (hmk [])),by simp,by simp⟩
 ·rename_i e' a len cap hk;cases hk;simp only at h;split at h
  ·rename_i hcap;simp only[yV,iN]at h;obtain⟨elems,hel,rest,hrest,hd⟩:=h;simp only[gD]at hd;obtain⟨rfl,rfl⟩:=hd;obtain⟨hlen,hget⟩:=sE hel;simp only[List.length_range]at hlen;have hwt:uptoBulkAll (elems.map (·.1))<=1048576:=by have hw2:uptoBulkAll (elems.map (·.1))+uptoBulkAll (rest.map (·.1))+1<=1048576:=hw;omega
   have hl:len<=1048576:=by have:=uH (elems.map (·.1));simp only[oS,hlen]at this;omega
   have each:∀ i,i<len->∃ x vs,W.cells? 0 (a.add (i*P.cellsOf e)) (P.cellsOf e)=some vs/\RdL (fun b=>b<W.heap.size) W (c x) vs/\ok x:=by
    intro i hi;have hi':i<elems.length:=by omega
    have:=hget i i elems[i] (by simp[hi]) (by simp[hi']);simp only[yV]at this;obtain⟨vs,hvs,htr⟩:=this;obtain⟨x,h1,h2⟩:=he vs elems[i].1 elems[i].2 htr (iD (uL (pK (oZ hi'))) hwt);exact⟨x,vs,hvs,h1,h2⟩
   have all:∃ xs:List X,xs.length=len/\∀ i,i<len->∃ vs,W.cells? 0 (a.add (i*P.cellsOf e)) (P.cellsOf e)=some vs/\RdL (fun b=>b<W.heap.size) W (c (xs.getD i default)) vs/\ok (xs.getD i default):=by
    clear hel hrest hget hw hwt hl hlen hcap
    induction len with
    | zero=>exact⟨[],rfl,fun i hi=>absurd hi (Nat.not_lt_zero _)⟩
    | succ len ih=>
     obtain⟨xs,h1,h2⟩:=ih fun i hi=>each i (by omega);obtain⟨x,vs,h3,h4,h5⟩:=each len (by omega);refine⟨xs++[x],by simp[h1],fun i hi=>?_⟩;by_cases hil:i<len
     ·have:(xs++[x]).getD i default=xs.getD i default:=by simp[eV (show i<xs.length by omega)]
      rw[this]; exact h2 i hil
     ·have hil:i=len:=by omega
      subst hil;have:(xs++[x]).getD i default=x:=by simp[<-h1]
      rw[this]; exact⟨vs,h3,h4,h5⟩
   obtain⟨xs,hxl,hxs⟩:=all;refine⟨xs,RdL.one ?_,by rw[hxl]; exact hl,fun x hx=>?_⟩
   ·have hsz:∀ i,i<len->(c (xs.getD i default)).length=P.cellsOf e:=by intro i hi;obtain⟨vs,h1,h2,_⟩:=hxs i hi;rw[<-h2.1];unfold World.cells? at h1;rw[aA (iT _)]at h1;have:=(sE h1).1; simpa using this
    have hcell:∀ i j,i<len->j<P.cellsOf e->∃ u,W.cell? (a.add (i*P.cellsOf e+j))=some u/\∀ x,(c (xs.getD i default))[j]? = some x->Rd (fun b=>b<W.heap.size) W x u:=by intro i j hi hj;obtain⟨vs,h1,h2,_⟩:=hxs i hi;unfold World.cells? at h1;rw[aA (iT _)]at h1;obtain⟨h3,h4⟩:=sE h1;simp only[List.length_range]at h3;have:=h4 j j vs[j] (by simp[hj]) (by simp[h3,hj]);rw[Addr.add_add]at this;exact⟨vs[j],this,fun x hx=>h2.2 j x vs[j] hx (by simp[h3,hj])⟩
    let vsf:Nat->Nat->Value:=fun i j=>(W.cell? (a.add (i*P.cellsOf e+j))).getD undef;refine .sl a cap (P.cellsOf e) vsf (n:=len) (f:=fun i=>c (xs.getD i default)) (by rw[hmk,hxl]) hcap.2.1 (fun hn=>?_) hsz (fun i j hi hj=>?_) (fun i j x hi hx=>?_)
    ·obtain⟨u,hu,_⟩:=hcell 0 0 hn hz;have hb:=World.block_lt_of_cell? W _ hu;have:(a.add (0*P.cellsOf e+0)).block=a.block:=by unfold Addr.add; split <;> rfl
     rw[this]at hb;exact hb
    ·obtain⟨u,hu,_⟩:=hcell i j hi hj;simp[vsf,hu]
    ·have hj:j<P.cellsOf e:=by rw[<-hsz i hi]; exact(dE.1 hx).1
     obtain⟨u,hu,hr⟩:=hcell i j hi hj;simp only[vsf,hu,oL];exact hr x hx
   ·obtain⟨i,hi,rfl⟩:=tQ hx;obtain⟨_,_,_,h⟩:=hxs i (by omega);simpa[cC,hi] using h
  ·cases h
def Fu(enc:TypeId×Value->H)(P:Program)(W:World)(off:Nat)(fs:List Field)(c:X->List T)(ok:X->Prop)(fuel:Nat):Prop:=
 ∀ (cs:List Value) xs,fs.mapM (fun f=>DataW.trod enc P W 0 (fun _=>true) true fuel f.type ((cs.drop f.offset).take (P.cellsOf f.type)))=some xs ->
  uptoBulkAll (xs.map (·.1))<=1048576->cs.length=off+(fs.map fun f=>P.cellsOf f.type).sum->∃ x,RdL (fun b=>b<W.heap.size) W (c x) (cs.drop off)/\ok x
theorem gQ{off:Nat}:Fu enc P W off [] (fun (_:Unit)=>[]) (fun _=>True) fuel:=by intro cs xs _ _ hl;simp at hl;exact⟨(),⟨by simp[hl],by simp⟩,trivial⟩
theorem bD{off:Nat}{f:Field}{fs:List Field}{Y:Type}{c:X->List T}{c':Y->List T}{ok:X->Prop}{ok':Y->Prop}(ho:f.offset=off)(h:fH enc P W f.type c ok fuel)
  (h':Fu enc P W (off+P.cellsOf f.type) fs c' ok' fuel):Fu enc P W off (f::fs) (fun (x:X×Y)=>c x.1++c' x.2) (fun x=>ok x.1/\ok' x.2) fuel:=by
 intro cs xs hx hw hl;rw[sK]at hx;simp only[Option.bind_eq_bind,yV]at hx;obtain⟨y,hy,ys,hys,hr⟩:=hx;simp at hr; subst hr;simp only[kO,uptoBulkAll]at hw;obtain⟨x,h1,h2⟩:=h _ _ _ hy (by omega);simp only[kO,List.sum_cons]at hl;obtain⟨x',h3,h4⟩:=h' cs ys hys (by omega) (by omega);refine⟨(x,x'),?_,h2,h4⟩;have:cs.drop off=(cs.drop f.offset).take (P.cellsOf f.type)++cs.drop (off+P.cellsOf f.type):=by rw[ho,<-List.drop_drop,lL]
 rw[this];exact h1.append h3
theorem fD{fs:Array Field}(ht:P.underlying t=some (.struct fs)){c:X->List T}{ok:X->Prop}(h:Fu enc P W 0 fs.toList c ok fuel)
  (hs:P.cellsOf t=(fs.toList.map fun f=>P.cellsOf f.type).sum):fH enc P W t c ok (fuel+1):=by
 intro cs d ps hd hw;unfold DataW.trod at hd;rw[ht]at hd;split at hd <;> try (simp_all; done)
 rename_i cs0 _ _ fs' hk;cases hk;split at hd
 ·rename_i hl;simp only[iN]at hd;obtain⟨xs,hxs,hd⟩:=hd;simp only[gD]at hd;obtain⟨rfl,_⟩:=hd;have hw2:uptoBulkAll (xs.map (·.1))+1<=1048576:=hw;have:=h _ xs hxs (by omega) (by rw[hl,hs]; simp);simpa using this
 ·cases hd
theorem fH.map{Y:Type}{c:X->List T}{ok:X->Prop}{c':Y->List T}{ok':Y->Prop}(h:fH enc P W t c ok fuel)(g:X->Y)(hc:∀ x,c' (g x)=c x)(ho:∀ x,ok x->ok' (g x)):
  fH enc P W t c' ok' fuel:=by
 intro cs d ps hd hw;obtain⟨x,h1,h2⟩:=h cs d ps hd hw;exact⟨g x,by rw[hc]; exact h1,ho x h2⟩
end
theorem RdL.agg{F:Nat->Prop}{W:World}{l:List T}{v:Value}(h:RdL F W l v.cells.toList)(hv:∃ vs,v = .agg vs):Rd F W (.agg l) v:=by obtain⟨vs,rfl⟩:=hv;simp only[Value.cells]at h;exact .agg (by simpa using h.1) fun j x v hx hv=>h.2 j x v hx (by simpa using hv)
section
variable {H:Type} {enc:TypeId×Value->H} {P:Program} {W:World} {r:Reach} {base:Nat}
theorem xC{fs:Array Field}(ht:P.underlying t=some (.struct fs)){c:X->List T}{ok:X->Prop}(hO:∀ fuel,fH enc P W t c ok fuel){d:DataW H} 
  (hv:Value.okWide P W r base t v)(h:DataW.Trod enc P W 0 (fun _=>true) true t v d ps)(hw:uptoBulk d<=1048576):∃ x,Rd (fun b=>b<W.heap.size) W (.agg (c x)) v/\ok x:=by
 obtain⟨cs,rfl,_⟩:=Go.WideShapes.okWide_struct ht hv;obtain⟨fuel,hf⟩:=h;obtain⟨x,h1,h2⟩:=hO fuel _ _ _ hf hw;exact⟨x,h1.agg ⟨cs,rfl⟩,h2⟩
theorem Qv{c:X->T}{ok:X->Prop}(hO:∀ fuel,fH enc P W t (fun x=>[c x]) ok fuel){d:DataW H} 
  (hv:v.cells=#[v])(h:DataW.Trod enc P W 0 (fun _=>true) true t v d ps)(hw:uptoBulk d<=1048576):∃ x,Rd (fun b=>b<W.heap.size) W (c x) v/\ok x:=by
 obtain⟨fuel,hf⟩:=h;obtain⟨x,h1,h2⟩:=hO fuel _ _ _ hf hw;exact⟨x,h1.2 0 _ _ (by simp) (by simp[hv]),h2⟩
theorem Mh(ht:P.underlying t=some .string){d:DataW H} 
  (hv:Value.okWide P W r base t v)(h:DataW.Trod enc P W 0 (fun _=>true) true t v d ps)(hw:uptoBulk d<=1048576):∃ x,Rd (fun b=>b<W.heap.size) W (.str x) v/\jB x:=by
 obtain⟨n,rfl⟩:=Go.WideShapes.okWide_string ht hv;exact Qv (c:=fun x=>.str x) (fY ht) rfl h hw
theorem Uw{e:TypeId}(ht:P.underlying t=some (.slice e)){c:X->T}{ok:X->Prop}(hO:∀ fuel,fH enc P W t (fun x=>[c x]) ok fuel){d:DataW H} 
  (hv:Value.okWide P W r base t v)(h:DataW.Trod enc P W 0 (fun _=>true) true t v d ps)(hw:uptoBulk d<=1048576):∃ x,Rd (fun b=>b<W.heap.size) W (c x) v/\ok x:=by
 obtain⟨a,l,q,rfl⟩:=Go.WideShapes.okWide_slice ht hv;exact Qv hO rfl h hw
end
theorem zX{W W':World}(h:Below W.heap.size W W')(may:MemPlace->Prop):W.keptBut W' may:=by
 refine⟨h.os,h.output,fun i hi=>?_⟩;rw[h.block i hi];cases W.heap[i]? with
 | none=>trivial
 | some o=>cases o <;> simp
section
variable {H:Type} {enc:TypeId×Value->H} {P:Program}
theorem qR(hl:laidOutB P=true){W W':World}(hb:Below W.heap.size W W'):∀ {ts:List TypeId} {vs:List Value} {ds:List (DataW H)} {ps:List MemPlace},
  (∀ t,t∈ts->P.readableRec t=true/\t<P.types.size)->DataW.TrodAll enc P W 0 (fun _=>true) true ts vs ds ps->(∀ x,x∈ps->x.block<W.heap.size) ->
  DataW.TrodAll enc P W' 0 (fun b=>decide (b<W.heap.size)) true ts vs ds ps
 | [],[],[],ps,_,h,_=>h
 | t::ts,v::vs,d::ds,ps,hr,h,hp=>by obtain⟨p,q,h1,h2,rfl⟩:=h;obtain⟨r1,r2⟩:=hr t (by simp);exact⟨p,q,Go.RowKit.Below.trod hl r1 r2 h1 hb (fun x hx=>hp x (kL _ hx)),qR hl hb (fun t ht=>hr t (cM _ ht)) h2 (fun x hx=>hp x (lA _ hx)),rfl⟩
 | [],_::_,_,_,_,h,_=>by simp[DataW.TrodAll]at h
 | [],[],_::_,_,_,h,_=>by simp[DataW.TrodAll]at h
 | _::_,[],_,_,_,h,_=>by simp[DataW.TrodAll]at h
 | _::_,_::_,[],_,_,h,_=>by simp[DataW.TrodAll]at h
theorem Wq(hlay:laidOutB P=true){f:Func}{s:ChangeSpec}{W W':World}{args:Array Value}{ds gs:List (DataW H)}{before:List MemPlace}{tb:TypeId}(hvars:s.vars=[])
  (hW:DataW.Whole enc P f.params.toList s.vars false W args.toList ds gs before)(hb:Below W.heap.size W W')(hres:f.resultTypes=#[tb])(htb:P.underlying tb=some .bool)
  (hread:∀ t,t∈f.params.toList->P.readableRec t=true/\t<P.types.size)(hfn:s.fn H (ds++gs)={ results:=[.lit (.bool true)],args:=ds }):
  s.post enc P f false true false false W args (.bool true) W':=by
 have hW':=hW;obtain⟨p,q,hA,hV,rfl,_⟩:=hW;rw[hvars]at hV;cases gs with
 | cons g gs=>simp[DataW.TrodVars]at hV
 | nil=>
  simp only[DataW.TrodVars]at hV;subst hV;have hlt:∀ x,x∈p->x.block<W.heap.size:=fun x hx=>by simpa using hW'.lt x (by simp[hx])
  refine⟨ds,[],p++[],[],p,[],hW',?_,?_,?_,zX hb _,fun h=>by cases h⟩
  ·rw[hfn,hres];exact⟨[],[],⟨1,by simp[DataW.trod,htb,Value.cells]⟩,rfl,rfl⟩
  ·rw[hfn];exact qR hlay hb hread hA hlt
  ·rw[hvars,hfn]; exact rfl
theorem eX.law{P:Program}{k:FuncId}{args:List PV}(h:eX P k args [] [] (Ret (.t (.bool true)))){W:World}{vs:Array Value}(hs:vs.size=args.length)
  (hv:∀ (j:Nat) x v,args[j]? = some x->vs[j]? = some v->VR (fun b=>b<W.heap.size) (fun _=>undef) W x v)(hg:GLP P (fun b=>b<W.heap.size) W):
  Calls P k vs W fun e W'=>e = .returned (.bool true)/\Below W.heap.size W W':=by
 refine(h (fun b=>b<W.heap.size) (fun _=>undef) W vs hs hv ⟨by simp,by simp,by simp⟩ (fun _ h=>h) hg).mono ?_;rintro e w' ⟨v,r,H',F',g',rfl,hr,hvr,hW⟩;unfold Ret at hr;subst hr;have:=hvr.inv_bool;subst this;exact⟨rfl,⟨hW.ext.os,hW.ext.tape,hW.ext.output,hW.ext.size,fun b hb=>hW.ext.block b hb (by rintro⟨o,x,hx,_⟩; simp at hx)⟩⟩
end
set_option maxRecDepth 20000
theorem o33{H:Type}{enc:TypeId×Value->H}{W:World}(fuel:Nat):fH enc Proofs.Tryz.prog W 33 (fun xs=>[eL aQ (xs)]) (okL 8 eP) fuel:=by
 cases fuel with
 | zero=>exact cQ
 | succ fuel=>exact fV Proofs.Tryz.underlying33 (by kernel_rfl) (by kernel_rfl) (cV Proofs.Tryz.underlying3 fuel) (fun xs=>eL aQ (xs)) (fun _=>rfl)
inductive dN:aE->Prop
 | mk0 {a b:Int} {s:ByteArray} {l:List aE} (ha:eP a) (hb:eP b) (hs:jB s) (hn:l.length<=1048576) (hl:∀ x,x∈l->dN x):dN (.mk a b s l)
theorem dN.mk{a b:Int}{s:ByteArray}{l:List aE}(ha:eP a)(hb:eP b)(hs:jB s)(hl:okL 56 dN l):dN (.mk a b s l):=.mk0 ha hb hs hl.1 hl.2
theorem Pd{H:Type}{enc:TypeId×Value->H}{W:World}:∀ fuel,fH enc Proofs.Tryz.prog W 49 aN dN fuel/\fH enc Proofs.Tryz.prog W 38 (fun xs=>[.lz (.exprs xs)]) (okL 56 dN) fuel
 | 0=>⟨cQ,cQ⟩
 | fuel+1=>by have ih:=Pd (enc:=enc) (W:=W) fuel;exact⟨(fD Proofs.Tryz.underlying49 (bD (by kernel_rfl) (cV Proofs.Tryz.underlying3 fuel) (bD (by kernel_rfl) (cV Proofs.Tryz.underlying3 fuel) (bD (by kernel_rfl) (fY Proofs.Tryz.underlying9 fuel) (bD (by kernel_rfl) ih.2 gQ)))) (by kernel_rfl)).map (fun x=>aE.mk x.1 x.2.1 x.2.2.1 x.2.2.2.1) (fun _=>rfl) (fun x h=>.mk h.1 h.2.1 h.2.2.1 h.2.2.2.1),fV Proofs.Tryz.underlying38 (by kernel_rfl) (by kernel_rfl) ih.1 (fun xs=>.lz (.exprs xs)) (fun _=>rfl)⟩
def iQ(x:aO):Prop:=jB x.Name/\okL 8 eP x.Params/\eP x.Result/\dN x.Body
theorem aTS{H:Type}{enc:TypeId×Value->H}{W:World}(fuel:Nat):fH enc Proofs.Tryz.prog W 100 aJ iQ fuel:=by
 cases fuel with
 | zero=>exact cQ
 | succ fuel=>exact(fD Proofs.Tryz.underlying100 (bD (by kernel_rfl) (fY Proofs.Tryz.underlying9 fuel) (bD (by kernel_rfl) (o33 fuel) (bD (by kernel_rfl) (cV Proofs.Tryz.underlying3 fuel) (bD (by kernel_rfl) (Pd fuel).1 gQ)))) (by kernel_rfl)).map (fun x=>aO.mk x.1 x.2.1 x.2.2.1 x.2.2.2.1) (fun _=>rfl) (fun x h=>⟨h.1,h.2.1,h.2.2.1,h.2.2.2.1⟩)
theorem o22{H:Type}{enc:TypeId×Value->H}{W:World}(fuel:Nat):fH enc Proofs.Tryz.prog W 22 (fun xs=>[eL aJ (xs)]) (okL 104 iQ) fuel:=by
 cases fuel with
 | zero=>exact cQ
 | succ fuel=>exact fV Proofs.Tryz.underlying22 (by kernel_rfl) (by kernel_rfl) (aTS fuel) (fun xs=>eL aJ (xs)) (fun _=>rfl)
def Ky(x:fM):Prop:=eP x.Kind/\eP x.Col/\jB x.Name
theorem o47{H:Type}{enc:TypeId×Value->H}{W:World}(fuel:Nat):fH enc Proofs.Tryz.prog W 47 iY Ky fuel:=by
 cases fuel with
 | zero=>exact cQ
 | succ fuel=>exact(fD Proofs.Tryz.underlying47 (bD (by kernel_rfl) (cV Proofs.Tryz.underlying3 fuel) (bD (by kernel_rfl) (cV Proofs.Tryz.underlying3 fuel) (bD (by kernel_rfl) (fY Proofs.Tryz.underlying9 fuel) gQ))) (by kernel_rfl)).map (fun x=>fM.mk x.1 x.2.1 x.2.2.1) (fun _=>rfl) (fun x h=>⟨h.1,h.2.1,h.2.2.1⟩)
theorem o39{H:Type}{enc:TypeId×Value->H}{W:World}(fuel:Nat):fH enc Proofs.Tryz.prog W 39 (fun xs=>[eL iY (xs)]) (okL 32 Ky) fuel:=by
 cases fuel with
 | zero=>exact cQ
 | succ fuel=>exact fV Proofs.Tryz.underlying39 (by kernel_rfl) (by kernel_rfl) (o47 fuel) (fun xs=>eL iY (xs)) (fun _=>rfl)
def Ld(x:gZ):Prop:=dN x.Pred/\eP x.Rep
theorem aUB{H:Type}{enc:TypeId×Value->H}{W:World}(fuel:Nat):fH enc Proofs.Tryz.prog W 103 oE Ld fuel:=by
 cases fuel with
 | zero=>exact cQ
 | succ fuel=>exact(fD Proofs.Tryz.underlying103 (bD (by kernel_rfl) (Pd fuel).1 (bD (by kernel_rfl) (cV Proofs.Tryz.underlying3 fuel) gQ)) (by kernel_rfl)).map (fun x=>gZ.mk x.1 x.2.1) (fun _=>rfl) (fun x h=>⟨h.1,h.2.1⟩)
theorem o40{H:Type}{enc:TypeId×Value->H}{W:World}(fuel:Nat):fH enc Proofs.Tryz.prog W 40 (fun xs=>[eL oE (xs)]) (okL 64 Ld) fuel:=by
 cases fuel with
 | zero=>exact cQ
 | succ fuel=>exact fV Proofs.Tryz.underlying40 (by kernel_rfl) (by kernel_rfl) (aUB fuel) (fun xs=>eL oE (xs)) (fun _=>rfl)
def xM(x:cU):Prop:=jB x.Name/\eP x.Type_/\jB x.Unit
theorem o77{H:Type}{enc:TypeId×Value->H}{W:World}(fuel:Nat):fH enc Proofs.Tryz.prog W 77 dH xM fuel:=by
 cases fuel with
 | zero=>exact cQ
 | succ fuel=>exact(fD Proofs.Tryz.underlying77 (bD (by kernel_rfl) (fY Proofs.Tryz.underlying9 fuel) (bD (by kernel_rfl) (cV Proofs.Tryz.underlying3 fuel) (bD (by kernel_rfl) (fY Proofs.Tryz.underlying9 fuel) gQ))) (by kernel_rfl)).map (fun x=>cU.mk x.1 x.2.1 x.2.2.1) (fun _=>rfl) (fun x h=>⟨h.1,h.2.1,h.2.2.1⟩)
theorem o41{H:Type}{enc:TypeId×Value->H}{W:World}(fuel:Nat):fH enc Proofs.Tryz.prog W 41 (fun xs=>[eL dH (xs)]) (okL 40 xM) fuel:=by
 cases fuel with
 | zero=>exact cQ
 | succ fuel=>exact fV Proofs.Tryz.underlying41 (by kernel_rfl) (by kernel_rfl) (o77 fuel) (fun xs=>eL dH (xs)) (fun _=>rfl)
def jJ(x:aG):Prop:=eP x.Op/\okL 8 eP x.In/\jB x.Source/\eP x.Schema/\okL 56 dN x.Exprs/\eP x.Kind/\eP x.Size/\eP x.Step/\okL 8 eP x.Key/\okL 8 eP x.Key2/\eP x.Before/\eP x.After/\eP x.Keep/\okL 32 Ky x.Aggs/\okL 64 Ld x.Seq/\okL 40 xM x.Cols
theorem o43{H:Type}{enc:TypeId×Value->H}{W:World}(fuel:Nat):fH enc Proofs.Tryz.prog W 43 aL jJ fuel:=by
 cases fuel with
 | zero=>exact cQ
 | succ fuel=>exact(fD Proofs.Tryz.underlying43 (bD (by kernel_rfl) (cV Proofs.Tryz.underlying3 fuel) (bD (by kernel_rfl) (o33 fuel) (bD (by kernel_rfl) (fY Proofs.Tryz.underlying9 fuel) (bD (by kernel_rfl) (cV Proofs.Tryz.underlying3 fuel) (bD (by kernel_rfl) (Pd fuel).2 (bD (by kernel_rfl) (cV Proofs.Tryz.underlying3 fuel) (bD (by kernel_rfl) (cV Proofs.Tryz.underlying3 fuel) (bD (by kernel_rfl) (cV Proofs.Tryz.underlying3 fuel) (bD (by kernel_rfl) (o33 fuel) (bD (by kernel_rfl) (o33 fuel) (bD (by kernel_rfl) (cV Proofs.Tryz.underlying3 fuel) (bD (by kernel_rfl) (cV Proofs.Tryz.underlying3 fuel) (bD (by kernel_rfl) (cV Proofs.Tryz.underlying3 fuel) (bD (by kernel_rfl) (o39 fuel) (bD (by kernel_rfl) (o40 fuel) (bD (by kernel_rfl) (o41 fuel) gQ)))))))))))))))) (by kernel_rfl)).map (fun x=>aG.mk x.1 x.2.1 x.2.2.1 x.2.2.2.1 x.2.2.2.2.1 x.2.2.2.2.2.1 x.2.2.2.2.2.2.1 x.2.2.2.2.2.2.2.1 x.2.2.2.2.2.2.2.2.1 x.2.2.2.2.2.2.2.2.2.1 x.2.2.2.2.2.2.2.2.2.2.1 x.2.2.2.2.2.2.2.2.2.2.2.1 x.2.2.2.2.2.2.2.2.2.2.2.2.1 x.2.2.2.2.2.2.2.2.2.2.2.2.2.1 x.2.2.2.2.2.2.2.2.2.2.2.2.2.2.1 x.2.2.2.2.2.2.2.2.2.2.2.2.2.2.2.1) (fun _=>rfl) (fun x h=>⟨h.1,h.2.1,h.2.2.1,h.2.2.2.1,h.2.2.2.2.1,h.2.2.2.2.2.1,h.2.2.2.2.2.2.1,h.2.2.2.2.2.2.2.1,h.2.2.2.2.2.2.2.2.1,h.2.2.2.2.2.2.2.2.2.1,h.2.2.2.2.2.2.2.2.2.2.1,h.2.2.2.2.2.2.2.2.2.2.2.1,h.2.2.2.2.2.2.2.2.2.2.2.2.1,h.2.2.2.2.2.2.2.2.2.2.2.2.2.1,h.2.2.2.2.2.2.2.2.2.2.2.2.2.2.1,h.2.2.2.2.2.2.2.2.2.2.2.2.2.2.2.1⟩)
theorem o23{H:Type}{enc:TypeId×Value->H}{W:World}(fuel:Nat):fH enc Proofs.Tryz.prog W 23 (fun xs=>[eL aL (xs)]) (okL 248 jJ) fuel:=by
 cases fuel with
 | zero=>exact cQ
 | succ fuel=>exact fV Proofs.Tryz.underlying23 (by kernel_rfl) (by kernel_rfl) (o43 fuel) (fun xs=>eL aL (xs)) (fun _=>rfl)
def cR(x:aD):Prop:=okL 104 iQ x.Funcs/\okL 248 jJ x.Nodes
theorem o25{H:Type}{enc:TypeId×Value->H}{W:World}(fuel:Nat):fH enc Proofs.Tryz.prog W 25 aH cR fuel:=by
 cases fuel with
 | zero=>exact cQ
 | succ fuel=>exact(fD Proofs.Tryz.underlying25 (bD (by kernel_rfl) (o22 fuel) (bD (by kernel_rfl) (o23 fuel) gQ)) (by kernel_rfl)).map (fun x=>aD.mk x.1 x.2.1) (fun _=>rfl) (fun x h=>⟨h.1,h.2.1⟩)
def nF(x:aV):Prop:=eP x.Old/\eP x.New/\eP x.Why
theorem o52{H:Type}{enc:TypeId×Value->H}{W:World}(fuel:Nat):fH enc Proofs.Tryz.prog W 52 aW nF fuel:=by
 cases fuel with
 | zero=>exact cQ
 | succ fuel=>exact(fD Proofs.Tryz.underlying52 (bD (by kernel_rfl) (cV Proofs.Tryz.underlying3 fuel) (bD (by kernel_rfl) (cV Proofs.Tryz.underlying3 fuel) (bD (by kernel_rfl) (cV Proofs.Tryz.underlying3 fuel) gQ))) (by kernel_rfl)).map (fun x=>aV.mk x.1 x.2.1 x.2.2.1) (fun _=>rfl) (fun x h=>⟨h.1,h.2.1,h.2.2.1⟩)
theorem o26{H:Type}{enc:TypeId×Value->H}{W:World}(fuel:Nat):fH enc Proofs.Tryz.prog W 26 (fun xs=>[eL aW (xs)]) (okL 24 nF) fuel:=by
 cases fuel with
 | zero=>exact cQ
 | succ fuel=>exact fV Proofs.Tryz.underlying26 (by kernel_rfl) (by kernel_rfl) (o52 fuel) (fun xs=>eL aW (xs)) (fun _=>rfl)
end Go.PL
namespace Go.PL
open Go
set_option maxRecDepth 20000
variable {Y:Type} {a rb rest s:ByteArray} {bad:Bool} {c:UInt8} {f:Nat->Bool} {fs:List aO} {i k:Nat} {l p t:List UInt8} {m:List (List Int×Bool)} {ms:List aV} {n r:Int} {q:bX}
section
def Sq{α:Type}(b:Bool)(x:Option α)(Q:α->Prop):Prop:=(∀ y,x=some y->Q y)/\(b=true->x.isSome=true)
abbrev Sp {α:Type}(x:Option α)(Q:α->Prop):Prop:=Sq true x Q
section
variable {α β:Type} {b:Bool}
theorem aB{y:α}{Q:α->Prop}:Sq b (some y) Q↔Q y:=⟨fun h=>h.1 y rfl,fun h=>⟨fun z hz=>by cases hz; exact h,fun _=>rfl⟩⟩
theorem nM{Q:α->Prop}:Sq b (none:Option α) Q↔b=false:=⟨fun h=>by cases b with | false=>rfl | true=>exact absurd (h.2 rfl) (by simp),fun h=>⟨fun _ hz=>(by cases hz),fun hb=>(by rw[h]at hb; cases hb)⟩⟩
theorem dT{x:Option α}{f:α->Option β}{Q:β->Prop}:Sq b (x.bind f) Q↔Sq b x (fun r=>Sq b (f r) Q):=by
 cases x with
 | none=>exact nM.trans nM.symm
 | some r=>exact(aB (Q:=fun r=>Sq b (f r) Q)).symm
theorem My{c:Prop}[Decidable c]{x:Option α}{Q:α->Prop}(hc:c)(h:Sq b x Q):Sq b (if c then x else none) Q:=by rw[aA hc]; exact h
theorem Sq.imp{x:Option α}{P Q:α->Prop}(h:Sq b x P)(hq:∀ y,P y->Q y):Sq b x Q:=⟨fun y hy=>hq y (h.1 y hy),h.2⟩
theorem Sq.of_eq{x:Option α}{y:α}{Q:α->Prop}(h:x=some y)(hq:Q y):Sq b x Q:=by rw[h]; exact aB.2 hq
theorem Sp.get{x:Option α}{Q:α->Prop}(h:Sp x Q):∃ y,x=some y/\Q y:=by obtain⟨y,hy⟩:=Cq.1 (h.2 rfl);exact⟨y,hy,h.1 y hy⟩
theorem Sp.eq{x:Option α}{y:α}(h:Sp x (fun z=>z=y)):x=some y:=by obtain⟨z,h1,rfl⟩:=h.get; exact h1
theorem Sq.bind{x:Option α}{f:α->Option β}{Q:β->Prop}(P:α->Prop)(h:Sq b x P)(h':∀ y,P y->Sq b (f y) Q):Sq b (x.bind f) Q:=dT.2 (h.imp h')
theorem aU{c:Bool}{x y:Option α}{Q:α->Prop}(h:c=true->Sq b x Q)(h':c=false->Sq b y Q):Sq b (if c=true then x else y) Q:=by
 cases c with
 | true=>exact h rfl
 | false=>exact h' rfl
end
theorem sD{a b:Int}(h:a=b):¬ ((a != b)=true):=by simp[h]
theorem sF{a b:Int}(h:a≠b):(a != b)=true:=by simpa using h
theorem vJ{a b:Int}(h:a≠b):¬ ((a==b)=true):=by simpa using h
theorem oI{a b:Int}(h:a=b):(a==b)=true:=by simpa using h
theorem bW{p:Prop}[Decidable p](h:¬ p):¬ (decide p=true):=by simpa using h
theorem bT{p:Prop}[Decidable p](h:p):decide p=true:=by simpa using h
section
variable {S R:Type} {b:Bool} {bd:S->Option (S⊕R)}
theorem Sq.while(I:S->Prop)(μ:S->Nat){Q:R->Prop}(h:∀ s,I s->Sq b (bd s) (sel (fun s'=>I s'/\μ s' < μ s) Q)){s:S}(hs:I s):Sq b (cE bd s) Q:=by
 have:∀ (k:Nat) (s:S),μ s<=k->I s->Sq b (cE bd s) Q:=by
  intro k
  induction k with
  | zero=>
   intro s hk hs;have h1:=h s hs;rw[qH];cases hb:bd s with
   | none=>rw[hb]at h1; exact nM.2 (nM.1 h1)
   | some z=>
    rw[hb]at h1;have h2:=aB.1 h1;cases z with
    | inl s'=>exact absurd h2.2 (by omega)
    | inr r=>exact aB.2 h2
  | succ k ih=>
   intro s hk hs;have h1:=h s hs;rw[qH];cases hb:bd s with
   | none=>rw[hb]at h1; exact nM.2 (nM.1 h1)
   | some z=>
    rw[hb]at h1;have h2:=aB.1 h1;cases z with
    | inl s'=>exact ih s' (by have:=h2.2; omega) h2.1
    | inr r=>exact aB.2 h2
 exact this (μ s) s (eT _) hs
theorem lP(f:Nat->S)(n:Nat){r:R}(h:∀ i,i<n->bd (f i)=some (.inl (f (i+1))))(h':bd (f n)=some (.inr r)):cE bd (f 0)=some r:=by
 have:∀ k,k<=n->cE bd (f (n-k))=some r:=by
  intro k
  induction k with
  | zero=>intro _; exact cF h'
  | succ k ih=>intro hk;rw[bH (h (n-(k+1)) (by omega)),show n-(k+1)+1=n-k by omega];exact ih (by omega)
 simpa using this n (eT n)
end
section
variable {P:Program} {A R:Type}
theorem aFF{C:A->Option R->Prop}(c0:∀ a,C a none)(B:{f:A->Option R // ∀ a,C a (f a)}->A->Tr P R)(ok:∀ f a,C a (B f a).den)(I:A->Prop)(μ:A->Nat)(Q:A->R->Prop)
  (h:∀ b f a,I a->(∀ a',I a'->μ a' < μ a->Sq b (f.1 a') (Q a'))->Sq b (B f a).den (Q a)):∀ n a,I a->Sq (decide (μ a<n)) ((Uo c0 B ok n).1 a) (Q a):=by
 intro n
 induction n with
 | zero=>intro a ha; exact⟨fun y hy=>(by cases hy),fun hb=>by simp at hb⟩
 | succ n ih=>intro a ha;refine h _ _ a ha fun a' ha' hm=>?_;have h1:=ih a' ha';exact⟨h1.1,fun hb=>h1.2 (by simp at hb ⊢; omega)⟩
theorem dL{C:A->Option R->Prop}(c0:∀ a,C a none)(B:{f:A->Option R // ∀ a,C a (f a)}->A->Tr P R)(ok:∀ f a,C a (B f a).den)(I:A->Prop)(μ:A->Nat)(Q:A->R->Prop)
  (h:∀ b f a,I a->(∀ a',I a'->μ a' < μ a->Sq b (f.1 a') (Q a'))->Sq b (B f a).den (Q a))(b:Bool)(a:A)(ha:I a):Sq b (kB c0 B ok a) (Q a):=by
 have h1:=aFF c0 B ok I μ Q h;unfold kB Lim;split
 ·rename_i hh;obtain⟨n,hn⟩:=hh.choose_spec;exact aB.2 ((h1 n a ha).1 _ hn)
 ·rename_i hh;exfalso;have h2:=h1 (μ a+1) a ha;obtain⟨y,hy⟩:=Cq.1 (h2.2 (by simp));exact hh ⟨y,_,hy⟩
end
end
section
theorem sI(n:Int):IntKind.i64.wrap n=(n+9223372036854775808) % 18446744073709551616-9223372036854775808:=by simp only[IntKind.wrap,IntKind.bits,IntKind.signed];simp;omega
theorem fE(h1:-9223372036854775808<=n)(h2:n<=9223372036854775807):IntKind.i64.wrap n=n:=by rw[sI]; omega
theorem Ot(n:Int):-9223372036854775808<=IntKind.i64.wrap n/\IntKind.i64.wrap n<=9223372036854775807:=by rw[sI]; omega
theorem Ah(a c:Int):IntKind.i64.wrap (IntKind.i64.wrap a+c)=IntKind.i64.wrap (a+c):=by simp only[sI]; omega
theorem Uh(a c:Int):IntKind.i64.wrap (a+IntKind.i64.wrap c)=IntKind.i64.wrap (a+c):=by simp only[sI]; omega
theorem bF{n:Nat}(h:n<9223372036854775807):IntKind.i64.wrap ((n:Int)+1)=((n+1:Nat):Int):=by rw[fE] <;> omega
section
variable {α:Type} [Inhabited α]
theorem yN(l r:List α)(k:Nat):(l++r).getD k default=if k<l.length then l.getD k default else r.getD (k-l.length) default:=by simp only[cC,List.getElem?_append];split <;> rfl
theorem iO{l:List α}(h:k<l.length):l.getD k default=l[k]:=by simp[h]
theorem bS{l:List α}(h:k<l.length):l.getD k default∈l:=by rw[iO h]; exact oZ h
theorem yI{l r:List α}(h:l.length=r.length)(h':∀ k,k<l.length->l.getD k default=r.getD k default):l=r:=by
 apply List.ext_getElem h;intro k h1 h2;have:=h' k h1
 rwa [iO h1,iO h2]at this
theorem dM{l:List α}(h:k<l.length):l.take (k+1)=l.take k++[l.getD k default]:=by rw[iO h,List.take_succ_eq_append_getElem h]
theorem Tm{l:List α}(h:k<l.length):l.drop k=l.getD k default::l.drop (k+1):=by rw[iO h,At h]
theorem oP(l:List α)(i k:Nat)(x:α):(l.set i x).getD k default=if k=i/\i<l.length then x else l.getD k default:=by
 simp only[cC,oD];by_cases h1:i=k
 ·subst h1;by_cases h2:i<l.length <;> simp[h2]
 ·rw[aC h1,aC (by omega)]
end
end
section
theorem sT(p q:Prop)[Decidable p][Decidable q]:(if decide p=true then some (decide q) else some false)=some (decide (p/\q)):=by by_cases hp:p <;> simp[hp]
end
section
def gX(n:Int):Prop:=-9223372036854775808<=n/\n<=9223372036854775807
end
section
theorem Ey{P:Program}{R:Type}{n:Nat}{bps:List PV}{x:Option R}{ret:R->PV}{h:Con P k bps x ret}{B:R->Tr P Y}{r:R}(hx:x=some r):(Tr.ca n h B).den=(B r).den:=by subst hx; rfl
theorem jZ{P:Program}{n:Nat}{p:Prop}[Decidable p]{t:Tr P Y}(hp:p):(Tr.grd n p t).den=t.den:=aA hp
def iV(n:Int):ByteArray:=⟨(Lib.itoa n).toArray⟩
theorem kR(h:gX n):(iV n).size<=21:=by have:=Lib.itoa_length_le n h.1 h.2;unfold iV;show (Lib.itoa n).toArray.size<=21;simpa using this
theorem vO(h:gX n):Ws n=some (iV n):=by unfold Ws; rw[aA (show -9223372036854775808<=n/\n<=9223372036854775807 from h)]; rfl
theorem sz1(x:UInt8):(⟨#[x]⟩:ByteArray).size=1:=rfl
def jM(n:Int):ByteArray:=iV n++⟨#[59]⟩
theorem Ma(n:Int):(jM n).size=(iV n).size+1:=jT
theorem kE(h:gX n):(jM n).size<=22:=by have h1:=kR h;rw[Ma];exact Nat.succ_le_succ h1
theorem aDB(h:gX n):G51 n=some (jM n):=by unfold G51 T51;have:=kR h;simp -implicitDefEqProofs only[Tr.den,vO h,aI];rw[aA (by rw[sz1]; omega)];rfl
theorem aKD(n:Nat)(h:n<=1000000000000):aMJ (n:Int)=some (jM (n:Int)):=by unfold aMJ aPM;simp only[Tr.den];rw[aC (bW (by omega)),aDB (n:=(n:Int)) ⟨by omega,by omega⟩];rfl
def oK(s:ByteArray):ByteArray:=((iV s.size++⟨#[58]⟩)++s)++⟨#[44]⟩
theorem tW(h:s.size<=1073741824):(oK s).size<=s.size+23:=by have:=kR (n:=(s.size:Int)) ⟨by omega,by omega⟩;unfold oK;rw[jT,jT,jT,sz1,sz1];omega
theorem aMY(h:s.size<=1073741824):G52 s=some (oK s):=by
 have h1:=kR (n:=(s.size:Int)) ⟨by omega,by omega⟩;have h2:Ws (s.size:Int)=some (iV s.size):=vO ⟨by omega,by omega⟩;generalize hi:iV (s.size:Int)=z at h1 h2;have e1:(z++(⟨#[58]⟩:ByteArray)).size=z.size+1:=jT;have e2:((z++(⟨#[58]⟩:ByteArray))++s).size=z.size+1+s.size:=by rw[jT,e1]
 unfold G52 T52;refine(Ey h2).trans ?_;refine(jZ ?_).trans ((jZ ?_).trans ((jZ ?_).trans ?_))
 ·rw[sz1]; omega
 ·rw[e1]; omega
 ·rw[e2,sz1]; omega
 ·unfold oK;rw[hi];rfl
end
section
structure okB (n:aG):Prop where
 b:0<=n.Before/\n.Before<=10000
 a:0<=n.After/\n.After<=10000
end
section
theorem jP{S R:Type}{b:Bool}{bd:S->Option (S⊕R)}(idx:S->Int)(N:Nat)(hN:N<=1000000000000000)(I:S->Prop){Q:R->Prop}
  (h:∀ s (k:Nat),I s->idx s=k->k<=N->Sq b (bd s) (sel (fun s'=>idx s'=IntKind.i64.wrap ((k:Int)+1)/\k<N/\I s') Q)){s:S}(hs:I s)(h0:idx s=0):Sq b (cE bd s) Q:=by
 refine Sq.while (fun s=>I s/\∃ k:Nat,idx s=k/\k<=N) (fun s=>N-(idx s).toNat) (fun s hs=>?_) ⟨hs,0,h0,by omega⟩;obtain⟨hI,k,hk,hkN⟩:=hs;refine(h s k hI hk hkN).imp fun z hz=>?_;cases z with
 | inr r=>exact hz
 | inl s'=>obtain⟨q1,q2,q3⟩:=hz;rw[bF (by omega)]at q1;exact⟨⟨q3,k+1,q1,by omega⟩,by rw[q1,hk]; omega⟩
theorem dN.len{e:aE}(h:dN e):e.Args.length<=1048576:=by cases h; assumption
theorem dN.arg{e:aE}(h:dN e):∀ x,x∈e.Args->dN x:=by cases h; assumption
theorem rD{e x:aE}(h:x∈e.Args):SizeOf.sizeOf x<SizeOf.sizeOf e:=by
 cases e with
 | mk a b s l=>have:=List.sizeOf_lt_of_mem h;simp only[aE.Args]at this;simp only[aE.mk.sizeOf_spec];omega
theorem Mt(e:aE)(h:dN e):Sp (G79 e) (fun _=>True):=by
 refine dL (C:=fun (a:aE) (x:Option Int)=>Con Proofs.Tryz.prog 70 [.t (aT a)] x (fun (y:Int)=>.t (.int .i64 (y)))) (fun a=>⟨bP Proofs.Tryz.func70 (by kernel_rfl),fun _ h=>nomatch h⟩) (fun rec a=>T79 rec a) (fun rec a=>aDD rec a)
  dN (fun e=>SizeOf.sizeOf e) (fun _ _=>True) (fun b f e he hrec=>?_) true e h
 have hl:=he.len;unfold T79;simp only[Tr.den,dT];refine jP (fun s:Int×Int=>s.2) e.Args.length (by omega) (fun _=>True) (fun s k _ hk hkN=>?_) trivial rfl;obtain⟨v1,v2⟩:=s;simp only at hk;subst hk;unfold Lv;simp only[Tr.den,aP];by_cases hc:k<e.Args.length
 ·rw[aA (bT (by omega)),aA (by omega)];refine Sq.bind _ (hrec _ (he.arg _ (bS hc)) (rD (bS hc))) fun r _=>aB.2 ⟨rfl,hc,trivial⟩
 ·rw[aC (bW (by omega))];exact aB.2 (aB.2 trivial)
theorem aDL(e:aE)(h:dN e):Sp (G80 e) (fun _=>True):=by
 refine dL (C:=fun (a:aE) (x:Option Int)=>Con Proofs.Tryz.prog 71 [.t (aT a)] x (fun (y:Int)=>.t (.int .i64 (y)))) (fun a=>⟨bP Proofs.Tryz.func71 (by kernel_rfl),fun _ h=>nomatch h⟩) (fun rec a=>T80 rec a) (fun rec a=>Md rec a)
  dN (fun e=>SizeOf.sizeOf e) (fun _ _=>True) (fun b f e he hrec=>?_) true e h
 have hl:=he.len;unfold T80;simp only[Tr.den,dT];refine jP (fun s:Int×Int=>s.2) e.Args.length (by omega) (fun _=>True) (fun s k _ hk hkN=>?_) trivial rfl;obtain⟨v1,v2⟩:=s;simp only at hk;subst hk;unfold wJ;simp only[Tr.den,aP];by_cases hc:k<e.Args.length
 ·rw[aA (bT (by omega)),aA (by omega)];refine Sq.bind _ (hrec _ (he.arg _ (bS hc)) (rD (bS hc))) fun r _=>aB.2 ⟨rfl,hc,trivial⟩
 ·rw[aC (bW (by omega))];exact aB.2 (aB.2 trivial)
theorem Oq(fs:List Int)(e:aE)(hf:fs.length<=1100000)(h:dN e):Sp (aSP fs e) (fun _=>True):=by
 refine dL (C:=fun (a:(List Int)×aE) (x:Option Int)=>Con Proofs.Tryz.prog 99 [.t (eL aQ (a.1)),.t (aT a.2)] x (fun (y:Int)=>.t (.int .i64 (y)))) (fun a=>⟨bP Proofs.Tryz.func99 (by kernel_rfl),fun _ h=>nomatch h⟩) (fun rec a=>Xa rec a.1 a.2) (fun rec a=>Pk rec a.1 a.2)
  (fun a=>a.1.length<=1100000/\dN a.2) (fun a=>SizeOf.sizeOf a.2) (fun _ _=>True) (fun b f a ha hrec=>?_) true (fs,e) ⟨hf,h⟩
 obtain⟨fs,e⟩:=a;obtain⟨hf,he⟩:=ha;simp only at hf he hrec ⊢;have hl:=he.len;unfold Xa;simp only[Tr.den,dT];refine jP (fun s:List Int×Int=>s.2) e.Args.length (by omega) (fun s=>s.1.length=s.2.toNat) (fun s k hI hk hkN=>?_) rfl rfl;obtain⟨v1,v2⟩:=s;simp only at hk hI;subst hk;unfold Se;simp only[Tr.den,aP]at hI ⊢;by_cases hc:k<e.Args.length
 ·rw[aA (bT (by omega)),aA (by omega)];refine Sq.bind _ (hrec (fs,e.Args.getD k default) ⟨hf,he.arg _ (bS hc)⟩ (rD (bS hc))) fun r _=>?_;rw[aA (by simp only[gP,Ay]; omega)];refine aB.2 ⟨rfl,hc,?_⟩;rw[bF (by omega)]; simp; omega
 ·rw[aC (bW (by omega))];refine aB.2 ?_;simp only[sel];have hv:v1.length=e.Args.length:=by omega
  have rest:Sq b ((cE (fun s=>(Fb s).den) (1,v1,0)).bind (sel (fun b10=>((if (e.Op==22)=true then (if decide (e.N>=0)=true then some (decide (e.N<(fs.length:Int))) else some false) else some false)).bind fun j11=>
    ((if j11=true then (if 0<=e.N/\e.N<(fs.length:Int) then some (if (1099511627776:Int)<IntKind.i64.wrap (b10+fs.getD e.N.toNat default) then (1099511627776:Int) else IntKind.i64.wrap (b10+fs.getD e.N.toNat default)) else none) else some b10)).bind fun j12=>some j12) some)) (fun _=>True):=by
   rw[dT];refine jP (fun s:Int×List Int×Int=>s.2.2) v1.length (by omega) (fun s=>s.2.1=v1) (fun s k hI hk hkN=>?_) rfl rfl;obtain⟨w1,w2,w3⟩:=s;simp only at hk hI;subst hk hI;unfold Fb;simp only[Tr.den,aP];by_cases hc:k<w2.length
   ·rw[aA (bT (by omega)),aA (by omega),aA hc];exact aB.2 ⟨rfl,hc,rfl⟩
   ·rw[aC (bW (by omega))];refine aB.2 ?_;simp only[sel,sT];by_cases h22:(e.Op==22)=true
    ·rw[aA h22];simp only[aI];by_cases hr:e.N>=0/\e.N<(fs.length:Int)
     ·rw[aA (bT hr),aA hr]; exact aB.2 trivial
     ·rw[aC (bW hr)]; exact aB.2 trivial
    ·rw[aC h22]; exact aB.2 trivial
  by_cases h21:(e.Op==21)=true
  ·rw[aA h21];simp only[aI];by_cases h3:((v1.length:Int)==3)=true
   ·rw[aA h3];have h3':v1.length=3:=by have:=lQ.1 h3; omega
    rw[aA (by omega),aA (by simp; omega),aA (by omega),aA (by simp; omega),aA (by omega),aA (by simp; omega)];exact aB.2 trivial
   ·rw[aC h3]; exact rest
  ·rw[aC h21];simp only[aI,cS,cO];exact rest
theorem okEs.get{l:List aE}(h:okL 56 dN l)(hk:k<l.length):dN (l.getD k default):=h.2 _ (bS hk)
end
section
theorem Cg:G82 []=some true:=by unfold G82 T82;simp only[Tr.den];rw[cF (r:=.inl ()) (by unfold Nu; simp[Tr.den])];rfl
theorem qI(a b c:Int):Zy a b c=some (decide (b<=a/\a<=c)):=by unfold Zy aDY;simp only[Tr.den,sT,aI]
end
section
def bl(b:ByteArray):List UInt8:=b.data.toList
theorem pD(a b:ByteArray):bl (a++b)=bl a++bl b:=by unfold bl; rw[ByteArray.data_append,Array.toList_append]
theorem mA{b:ByteArray}(h:bl a=bl b):a=b:=by cases a; cases b; simp[bl]at h; simp[h]
theorem pX{d:Nat}(h:d<10):(UInt8.ofNat (48+d)).toNat=48+d:=by rw[UInt8.toNat_ofNat']; omega
def aMW(l:List UInt8):Nat:=l.foldl (fun a b=>a*10+(b.toNat-48)) 0
theorem Hy(u:Nat):aMW (Lib.decDigits u)=u:=by
 induction u using Nat.strongRecOn with
 | _ u ih=>
  by_cases h:u<10
  ·rw[Lib.decDigits,dif_pos h];simp only[aMW,qZ,List.foldl_nil];rw[pX h]; omega
  ·rw[Lib.decDigits,dif_neg h];have:=ih (u / 10) (by omega);unfold aMW at this ⊢;rw[List.foldl_append,this];simp only[qZ,List.foldl_nil];rw[pX (by omega)]; omega
theorem pS(u:Nat):∀ b,b∈Lib.decDigits u->48<=b.toNat/\b.toNat<=57:=by
 induction u using Nat.strongRecOn with
 | _ u ih=>
  intro b hb;by_cases h:u<10
  ·rw[Lib.decDigits,dif_pos h,fQ]at hb;rw[hb,pX h]; omega
  ·rw[Lib.decDigits,dif_neg h,gA,fQ]at hb;rcases hb with hb | rfl
   ·exact ih (u / 10) (by omega) b hb
   ·rw[pX (by omega)]; omega
theorem Yb(n:Int):∀ b,b∈Lib.itoa n->b.toNat=45\/(48<=b.toNat/\b.toNat<=57):=by
 intro b hb;unfold Lib.itoa at hb;split at hb
 ·rcases bB.1 hb with rfl | hb
  ·exact .inl rfl
  ·exact .inr (pS _ b hb)
 ·exact .inr (pS _ b hb)
theorem Of(n:Int)(h:58<=c.toNat):∀ b,b∈Lib.itoa n->b≠c:=by rintro b hb rfl;have:=Yb n b hb;omega
theorem wC(n:Int):bl (iV n)=Lib.itoa n:=rfl
theorem mK(n:Int):bl (jM n)=Lib.itoa n++[59]:=by unfold jM; rw[pD,wC]; rfl
theorem uB(s:ByteArray):bl (oK s)=Lib.itoa s.size++58::(bl s++[44]):=by unfold oK;rw[pD,pD,pD,wC];simp[bl]
end
section
theorem w8(h0:0<=n)(h1:n<=255):IntKind.u8.wrap n=n:=by simp only[IntKind.wrap,IntKind.bits,IntKind.signed];simp;omega
theorem aTN(x:Int):zY (([x]:List Int)).length (eF cU8 ([x]:List Int))=⟨#[UInt8.ofNat x.toNat]⟩:=rfl
def Gn(u:Nat):ByteArray:=⟨(Lib.decDigits u).toArray⟩
theorem pU(u:Nat)(h:u<=9223372036854775808):(Gn u).size<=21:=by
 have h1:=Lib.itoa_length_le (-(u:Int)) (by omega) (by omega);show (Lib.decDigits u).toArray.size<=21;rw[mQ];by_cases hu:u=0
 ·subst hu; rw[Lib.decDigits,dif_pos (by decide)]; decide
 ·rw[Lib.itoa_neg u (by omega)]at h1;simp only[gP]at h1; omega
theorem aJU(b:Bool)(n:Int)(h:n<=0 /\ -9223372036854775808<=n):Sq b (aJM n) (fun d=>d=Gn n.natAbs):=by
 refine dL (C:=fun (a:Int) (x:Option (ByteArray))=>Con Proofs.Tryz.prog 64 [.t (.int .i64 (a))] x (fun (y:ByteArray)=>.t (.str (y)))) (fun a=>⟨bP Proofs.Tryz.func64 (by kernel_rfl),fun _ h=>nomatch h⟩) (fun rec a=>aAW rec a) (fun rec a=>Rg rec a)
  (fun n=>n<=0 /\ -9223372036854775808<=n) (fun n=>n.natAbs) (fun n d=>d=Gn n.natAbs) (fun b f n hn hrec=>?_) b n h
 obtain⟨u,rfl⟩:∃ u:Nat,n = -(u:Int):=⟨n.natAbs,by omega⟩;have hu:u<=9223372036854775808:=by omega
 have e1:Int.tmod (-(u:Int)) 10 = -((u % 10:Nat):Int):=by rw[Int.neg_tmod]; rfl
 have e2:Int.tdiv (-(u:Int)) 10 = -((u / 10:Nat):Int):=by rw[Int.neg_tdiv]; rfl
 have e3:IntKind.u8.wrap (IntKind.i64.wrap (48-Int.tmod (-(u:Int)) 10))=((48+u % 10:Nat):Int):=by rw[e1,fE (by omega) (by omega),w8 (by omega) (by omega)]; omega
 have e4:IntKind.i64.wrap (Int.tdiv (-(u:Int)) 10) = -((u / 10:Nat):Int):=by rw[e2,fE (by omega) (by omega)]
 have ea:(-(u:Int)).natAbs=u:=by omega
 unfold aAW;simp only[Tr.den];rw[e3,e4,aTN,aP,ea];by_cases hs:u<10
 ·rw[aA (bT (by omega))];refine aB.2 ?_;unfold Gn;rw[Lib.decDigits,dif_pos hs,Nat.mod_eq_of_lt hs]
 ·rw[aC (bW (by omega))];refine Sq.bind _ (hrec _ ⟨by omega,by omega⟩ (by rw[ea]; omega)) fun r hr=>?_;subst hr;rw[show (-((u / 10:Nat):Int)).natAbs=u / 10 by omega];have hz:=pU (u / 10) (by omega);rw[aA (by rw[sz1]; omega)];refine aB.2 (mA ?_);rw[pD];show Lib.decDigits (u / 10)++[UInt8.ofNat (48+u % 10)]=Lib.decDigits u;rw[Lib.decDigits.eq_1 u,dif_neg hs]
theorem Df(u:Nat)(h:u<=9223372036854775808):aJM (-(u:Int))=some (Gn u):=by have:=Sp.eq (aJU true (-(u:Int)) ⟨by omega,by omega⟩);rw[show (-(u:Int)).natAbs=u by omega]at this;exact this
theorem tU(u:Nat):iV (u:Int)=Gn u:=by unfold iV Gn; rw[Lib.itoa_nonneg]
theorem Vf(u:Nat)(h:1<=u):iV (-(u:Int))=(⟨#[45]⟩:ByteArray)++Gn u:=by refine mA ?_;rw[pD];show Lib.itoa (-(u:Int))=[45]++Lib.decDigits u;rw[Lib.itoa_neg u h]; rfl
theorem aHB{P:Program}{n:Nat}{c:Bool}{t e:Tr P Y}(h:c=true):(Tr.ite n c t e).den=t.den:=aA h
theorem aKQ{P:Program}{n:Nat}{c:Bool}{t e:Tr P Y}(h:¬ c=true):(Tr.ite n c t e).den=e.den:=aC h
theorem xV(h:gX n):G55 n=some (jM n):=by
 obtain⟨h0,h1⟩:=h;unfold G55 T55;by_cases hn:n<0
 ·obtain⟨u,rfl⟩:∃ u:Nat,n = -(u:Int):=⟨n.natAbs,by omega⟩;have hz:=pU u (by omega);refine(aHB (bT hn)).trans ((Ey (Df u (by omega))).trans ((jZ ?_).trans ((jZ ?_).trans ?_)))
  ·rw[sz1]; omega
  ·rw[jT,sz1,sz1]; omega
  ·rw[<-Vf u (by omega)]; rfl
 ·obtain⟨u,rfl⟩:∃ u:Nat,n=(u:Int):=⟨n.natAbs,by omega⟩;have hz:=pU u (by omega);have e:IntKind.i64.wrap (0-(u:Int)) = -(u:Int):=by rw[show (0:Int)-(u:Int) = -(u:Int) by omega,fE (by omega) (by omega)]
  refine(aKQ (bW hn)).trans ((Ey (by rw[e]; exact Df u (by omega))).trans ((jZ ?_).trans ?_))
  ·rw[sz1]; omega
  ·rw[<-tU]; rfl
theorem aMZ(h:s.size<=1000000000000):G56 s=some (oK s):=by
 have hz:=pU s.size (by omega);have e:IntKind.i64.wrap (0-(s.size:Int)) = -(s.size:Int):=by rw[show (0:Int)-(s.size:Int) = -(s.size:Int) by omega,fE (by omega) (by omega)]
 have h2:aJM (IntKind.i64.wrap (0-(s.size:Int)))=some (iV (s.size:Int)):=by rw[e,tU]; exact Df s.size (by omega)
 rw[<-tU]at hz;generalize hi:iV (s.size:Int)=z at hz h2;have e1:(z++(⟨#[58]⟩:ByteArray)).size=z.size+1:=jT;have e2:((z++(⟨#[58]⟩:ByteArray))++s).size=z.size+1+s.size:=by rw[jT,e1]
 unfold G56 T56;refine(Ey h2).trans ((jZ ?_).trans ((jZ ?_).trans ((jZ ?_).trans ?_)))
 ·rw[sz1]; omega
 ·rw[e1]; omega
 ·rw[e2,sz1]; omega
 ·unfold oK;rw[hi];rfl
theorem aHY(n:Nat)(h:n<=1000000000000):aRG (n:Int)=some (jM (n:Int)):=by unfold aRG aNQ;simp only[Tr.den];rw[aC (bW (by omega)),xV (n:=(n:Int)) ⟨by omega,by omega⟩];rfl
end
section
theorem yR{P:Program}{A R:Type}{C C':A->Option R->Prop}(c0:∀ a,C a none)(c0':∀ a,C' a none)
  (B:{f:A->Option R // ∀ a,C a (f a)}->A->Tr P R)(B':{f:A->Option R // ∀ a,C' a (f a)}->A->Tr P R)(ok:∀ f a,C a (B f a).den)(ok':∀ f a,C' a (B' f a).den)
  (h:∀ f g,f.1=g.1->∀ a,(B f a).den=(B' g a).den):∀ n,(Uo c0 B ok n).1=(Uo c0' B' ok' n).1
 | 0=>rfl
 | n+1=>funext fun a=>h _ _ (yR c0 c0' B B' ok ok' h n) a
theorem Lk{P:Program}{A R:Type}{C C':A->Option R->Prop}(c0:∀ a,C a none)(c0':∀ a,C' a none)
  (B:{f:A->Option R // ∀ a,C a (f a)}->A->Tr P R)(B':{f:A->Option R // ∀ a,C' a (f a)}->A->Tr P R)(ok:∀ f a,C a (B f a).den)(ok':∀ f a,C' a (B' f a).den)
  (h:∀ f g,f.1=g.1->∀ a,(B f a).den=(B' g a).den)(a:A):kB c0 B ok a=kB c0' B' ok' a:=by
 unfold kB;simp only[yR c0 c0' B B' ok ok' h]
end
section
theorem cB{S R:Type}{b:Bool}{bd:S->Option (S⊕R)}(idx:S->Int)(N:Nat)(hN:N<=1000000000000000)(I:S->Prop){Q:R->Prop}
  (h:∀ s (k:Nat),I s->idx s=k->k<=N->Sq b (bd s) (sel (fun s'=>idx s'=IntKind.i64.wrap ((k:Int)+1)/\k<N/\I s') Q)){s:S}(hs:I s)(h0:idx s=0):Sq b (cE bd s) Q:=by
 refine Sq.while (fun s=>I s/\∃ k:Nat,idx s=k/\k<=N) (fun s=>N-(idx s).toNat) (fun s hs=>?_) ⟨hs,0,h0,by omega⟩;obtain⟨hI,k,hk,hkN⟩:=hs;refine(h s k hI hk hkN).imp fun z hz=>?_;cases z with
 | inr r=>exact hz
 | inl s'=>obtain⟨q1,q2,q3⟩:=hz;rw[bF (by omega)]at q1;exact⟨⟨q3,k+1,q1,by omega⟩,by rw[q1,hk]; omega⟩
end
section
inductive OkI (ar:Nat->Nat)(n:Nat):Nat->Nat->aE->Prop
 | mk {nc np:Nat} {e:aE} (hs:e.S.size<=1048576) (hl:e.Args.length<=1048576) (ho:0<=e.Op/\e.Op<=22)
   (hA:∀ i,i<e.Args.length->OkI ar n nc np (e.Args.getD i default))
   (c3:e.Op=3->0<=e.N/\e.N<nc) (c4:e.Op=4->0<=e.N/\e.N<np) (c1:e.Op=6\/e.Op=7\/e.Op=20->1<=e.Args.length) (c2:8<=e.Op/\e.Op<=19->2<=e.Args.length)
   (c21:e.Op=21->3<=e.Args.length) (c22:e.Op=22->0<=e.N/\e.N<n/\e.Args.length=ar e.N.toNat):OkI ar n nc np e
end
section
theorem Pe(n:Int):aGR n=some (decide (0<=n/\n<3)):=by
 by_cases h:0<=n
 ·simp[aGR,aEY,Tr.den,h]
 ·simp[aGR,aEY,Tr.den,h]
def aIP(op:Int):Int:=
 if 0<=op/\op<=5 then 0 else if op=6\/op=7\/op=20 then 1 else if op=21 then 3 else if op=22 then -1 else if 5<op/\op<21 then 2 else -1
theorem aHN(op:Int):Yc op=some (aIP op):=by
 have hs:op=0\/op=1\/op=2\/op=3\/op=4\/op=5\/op=6\/op=7\/op=20\/op=21\/op=22\/(op<0\/(8<=op/\op<=19)\/22<op):=by omega
 rcases hs with h | h | h | h | h | h | h | h | h | h | h | h
 iterate 11 (subst h; rfl)
 have n0:(op==0)=false:=by simp; omega
 have n1:(op==1)=false:=by simp; omega
 have n2:(op==2)=false:=by simp; omega
 have n3:(op==3)=false:=by simp; omega
 have n4:(op==4)=false:=by simp; omega
 have n5:(op==5)=false:=by simp; omega
 have n6:(op==6)=false:=by simp; omega
 have n7:(op==7)=false:=by simp; omega
 have n20:(op==20)=false:=by simp; omega
 have n21:(op==21)=false:=by simp; omega
 have n22:(op==22)=false:=by simp; omega
 have q1:¬ (0<=op/\op<=5):=by omega
 have q2:¬ (op=6\/op=7\/op=20):=by omega
 have q3:¬ op=21:=by omega
 have q4:¬ op=22:=by omega
 unfold Yc aEA aIP;rw[aC q1,aC q2,aC q3,aC q4];simp only[Tr.den,n0,n1,n2,n3,n4,n5,n6,n7,n20,n21,n22,aI,cS,cO];by_cases h1:op>5
 ·have h1':5<op:=h1;by_cases h2:op<21
  ·rw[aA (bT h1),aA ⟨h1',h2⟩,mI h2]; rfl
  ·rw[aA (bT h1),aC (fun h=>h2 h.2),iC h2]; rfl
 ·have:¬ (5<op/\op<21):=by omega
  rw[aC (bW h1),aC this]; rfl
theorem Om(l:List Int)(n:Int):Sp (aPI l n) (fun r=>r.2=true->0<=n/\n<l.length):=by
 unfold aPI aPD;simp only[Tr.den];by_cases h1:n<0
 ·rw[aA (bT h1)];exact aB.2 (fun h=>by cases h)
 ·rw[aC (bW h1)];by_cases h2:n>=(l.length:Int)
  ·simp only[aI,mI h2,dY];exact aB.2 (fun h=>by cases h)
  ·simp only[aI,iC h2,cS,cO];rw[aA (by omega),aA (by omega),Pe];exact aB.2 (fun _=>by omega)
theorem aHT(fs:List aO)(n:Int)(l:List Int)(hl:l.length<=1048576):Sp (aRF fs n l) (fun r=>r.2=true->0<=n/\n<fs.length/\l.length=(fs.getD n.toNat default).Params.length):=by
 unfold aRF aOJ;simp only[Tr.den];by_cases h1:n<0
 ·rw[aA (bT h1)];exact aB.2 (fun h=>by cases h)
 ·rw[aC (bW h1)];by_cases h2:n>=(fs.length:Int)
  ·simp only[aI,mI h2,dY];exact aB.2 (fun h=>by cases h)
  ·simp only[aI,iC h2,cS,cO];rw[aA (by omega)];by_cases h3:((fs.getD n.toNat default).Params.length:Int)=(l.length:Int)
   ·rw[aC (by simpa using h3)];refine dT.2 (cB (fun s:Int=>s) l.length (by omega) (fun _=>True) (fun s k _ hk hkN=>?_) trivial rfl);subst hk;unfold Qy;simp only[Tr.den,aP];by_cases hc:k<l.length
    ·rw[aA (bT (by omega)),aA (by omega),aA (by omega)];split
     ·exact aB.2 (aB.2 (fun h=>by cases h))
     ·exact aB.2 ⟨rfl,hc,trivial⟩
    ·rw[aC (bW (by omega))];exact aB.2 (aB.2 (fun _=>by omega))
   ·rw[aA (by simpa using h3)];exact aB.2 (fun h=>by cases h)
end
section
theorem Sq.of{α:Type}{b:Bool}{x:Option α}{Q:α->Prop}(h:Sp x Q):Sq b x Q:=⟨h.1,fun _=>h.2 rfl⟩
inductive cL:aE->Prop
 | mk {e:aE} (hs:e.S.size<=1048576) (hl:e.Args.length<=1048576) (hA:∀ i,i<e.Args.length->cL (e.Args.getD i default)):cL e
theorem dQ{e x:aE}(h:x∈e.Args):SizeOf.sizeOf x<SizeOf.sizeOf e:=by
 cases e with
 | mk a b s l=>have:=List.sizeOf_lt_of_mem h;simp only[aE.Args]at this;simp only[aE.mk.sizeOf_spec];omega
abbrev arF (fs:List aO)(k:Nat):Nat:=(fs.getD k default).Params.length
theorem aFB(fs:List aO)(cs ps:List Int)(e:aE)(he:cL e):Sp (Xo fs cs ps e) (fun r=>r.2=true->OkI (arF fs) fs.length cs.length ps.length e):=by
 refine dL (C:=fun (a:(List aO)×(List Int)×(List Int)×aE) (x:Option (Int×Bool))=>Con Proofs.Tryz.prog 145 [.t (eL aJ (a.1)),.t (eL aQ (a.2.1)),.t (eL aQ (a.2.2.1)),.t (aT a.2.2.2)] x (fun (y:Int×Bool)=>.tup [.t (.int .i64 (y.1)),.t (.bool (y.2))])) (fun a=>⟨bP Proofs.Tryz.func145 (by kernel_rfl),fun _ h=>nomatch h⟩) (fun rec a=>Vq rec a.1 a.2.1 a.2.2.1 a.2.2.2) (fun rec a=>Oo rec a.1 a.2.1 a.2.2.1 a.2.2.2)
  (fun a=>cL a.2.2.2) (fun a=>SizeOf.sizeOf a.2.2.2) (fun a r=>r.2=true->OkI (arF a.1) a.1.length a.2.1.length a.2.2.1.length a.2.2.2) (fun b r a ha hrec=>?_) true (fs,cs,ps,e) he
 clear he fs cs ps e;obtain⟨fs,cs,ps,e⟩:=a;simp only at ha hrec ⊢;cases ha with
 | mk hs hl hA=>
 have hr:∀ i,i<e.Args.length->Sq b (r.1 (fs,cs,ps,e.Args.getD i default)) (fun r=>r.2=true->OkI (arF fs) fs.length cs.length ps.length (e.Args.getD i default)):=fun i hi=>hrec _ (hA i hi) (dQ (bS hi));unfold Vq;simp only[Tr.den];refine dT.2 (cB (fun s:List Int×Int=>s.2) e.Args.length (by omega) (fun s=>(s.1.length:Int)=s.2/\∀ i:Nat,(i:Int)<s.2->OkI (arF fs) fs.length cs.length ps.length (e.Args.getD i default)) (fun s k hI hk hkN=>?_) ⟨rfl,fun i hi=>absurd hi (by show ¬ ((i:Int)<0); omega)⟩ rfl);obtain⟨b3,v2⟩:=s;obtain⟨hbl,hbs⟩:=hI;simp only at hk hbl hbs;subst hk;unfold Pj;simp only[Tr.den,aP];by_cases hc:k<e.Args.length
 ·rw[aA (bT (by omega)),aA (by omega)];refine Sq.bind _ (hr k hc) fun v hv=>?_;by_cases hv2:v.2=true
  ·rw[aC (by rw[hv2]; decide),aA (by simp only[eJ]; omega)];refine aB.2 ⟨rfl,hc,?_,fun i hi=>?_⟩
   ·simp only[dB,eJ]; rw[bF (by omega)]; omega
   ·simp only at hi;rw[bF (by omega)]at hi;rcases Nat.lt_or_ge i k with h | h
    ·exact hbs i (by omega)
    ·have:i=k:=by omega
     subst this; exact hv hv2
  ·rw[aA (by simp only[Bool.not_eq_true]at hv2; rw[hv2]; rfl)];exact aB.2 (aB.2 (fun h=>by cases h))
 ·rw[aC (bW (by omega))];refine aB.2 ?_;have hbe:b3.length=e.Args.length:=by omega
  have hA':∀ i,i<e.Args.length->OkI (arF fs) fs.length cs.length ps.length (e.Args.getD i default):=fun i hi=>hbs i (by omega);simp only[sel];refine Sq.bind (fun s:List Int×Bool=>s.1=b3) (by split <;> exact aB.2 rfl) (fun s hsb=>?_);obtain⟨j5,j6⟩:=s;simp only at hsb;subst hsb;cases j6 with
  | true=>exact aB.2 (fun h=>by cases h)
  | false=>
   simp only[cS,cO];by_cases h22:e.Op=22
   ·rw[aA (by rw[h22]; rfl)];refine Sq.bind _ (Sq.of (aHT fs e.N j5 (by omega))) fun r hr=>aB.2 (fun h=>?_);have h3:=hr h;exact .mk hs hl (by omega) hA' (fun h=>by omega) (fun h=>by omega) (fun h=>by omega) (fun h=>by omega) (fun h=>by omega) (fun _=>⟨h3.1,h3.2.1,by rw[<-hbe]; exact h3.2.2⟩)
   ·rw[aC (by simpa using h22),aHN];simp only[aI];by_cases hN:aIP e.Op=(j5.length:Int)
    ·rw[aC (by simpa using hN)];have hh:(0<=e.Op/\e.Op<=21)/\(e.Op=6\/e.Op=7\/e.Op=20->1<=j5.length)/\(8<=e.Op/\e.Op<=19->2<=j5.length)/\(e.Op=21->3<=j5.length):=by
      unfold aIP at hN
      repeat' split at hN
      all_goals omega
     obtain⟨ho,c1,c2,c21⟩:=hh;have fin:(e.Op=3->0<=e.N/\e.N<cs.length)->(e.Op=4->0<=e.N/\e.N<ps.length)->OkI (arF fs) fs.length cs.length ps.length e:=fun c3 c4=>
      .mk hs hl (by omega) hA' c3 c4 (fun h=>by have:=c1 h; omega) (fun h=>by have:=c2 h; omega) (fun h=>by have:=c21 h; omega) (fun h=>absurd h h22)
     clear hN;by_cases h3:e.Op=3
     ·simp (decide:=true) only[h3,↓reduceIte];refine Sq.bind _ (Sq.of (Om cs e.N)) fun r hr=>aB.2 (fun h=>fin (fun _=>hr h) (fun h=>by omega))
     by_cases h4:e.Op=4
     ·simp (decide:=true) only[h4,↓reduceIte];refine Sq.bind _ (Sq.of (Om ps e.N)) fun r hr=>aB.2 (fun h=>fin (fun h=>by omega) (fun _=>hr h))
     have fin':=fin (fun h=>absurd h h3) (fun h=>absurd h h4);by_cases hu:e.Op=0\/e.Op=1\/e.Op=2\/e.Op=5
     ·rcases hu with h | h | h | h
      all_goals simp (decide:=true) only[h,↓reduceIte]
      all_goals repeat' (first | exact aB.2 (fun _=>fin') | split)
     by_cases hu1:e.Op=6\/e.Op=7\/e.Op=20
     ·have g0:(0:Int)<(j5.length:Int):=by have:=c1 hu1; omega
      have g0':Int.toNat 0<j5.length:=by show 0<j5.length; omega
      rcases hu1 with h | h | h
      all_goals simp (decide:=true) only[h,g0,g0',and_self,↓reduceIte]
      all_goals repeat' (first | exact aB.2 (fun _=>fin') | split)
     have l2:2<=j5.length:=by
      by_cases h:e.Op=21
      ·have:=c21 h; omega
      ·exact c2 (by omega)
     have g0:(0:Int)<(j5.length:Int):=by omega
     have g0':Int.toNat 0<j5.length:=by show 0<j5.length; omega
     have g1:(1:Int)<(j5.length:Int):=by omega
     have g1':Int.toNat 1<j5.length:=by show 1<j5.length; omega
     have hop:e.Op=8\/e.Op=9\/e.Op=10\/e.Op=11\/e.Op=12\/e.Op=13\/e.Op=14\/e.Op=15\/e.Op=16\/e.Op=17\/e.Op=18\/e.Op=19\/e.Op=21:=by omega
     rcases hop with h | h | h | h | h | h | h | h | h | h | h | h | h
     iterate 12
      ·simp (decide:=true) only[h,g0,g0',g1,g1',and_self,↓reduceIte,aI]
       repeat' (first | exact aB.2 (fun _=>fin') | split)
     have l3:=c21 h;have g2:(2:Int)<(j5.length:Int):=by omega
     have g2':Int.toNat 2<j5.length:=by show 2<j5.length; omega
     simp (decide:=true) only[h,g0,g0',g1,g1',g2,g2',and_self,↓reduceIte,aI]
     repeat' (first | exact aB.2 (fun _=>fin') | split)
    ·rw[aA (by simpa using hN)];exact aB.2 (fun h=>by cases h)
end
section
theorem Pf(e:aE)(h:cL e):Sp (G80 e) (fun _=>True):=by
 refine dL (C:=fun (a:aE) (x:Option (Int))=>Con Proofs.Tryz.prog 71 [.t (aT a)] x (fun (y:Int)=>.t (.int .i64 (y)))) (fun a=>⟨bP Proofs.Tryz.func71 (by kernel_rfl),fun _ h=>nomatch h⟩) (fun rec a=>T80 rec a) (fun rec a=>Md rec a)
  cL (fun e=>SizeOf.sizeOf e) (fun _ _=>True) (fun b f e he hrec=>?_) true e h
 cases he with
 | mk hs hl hA=>
 unfold T80;simp only[Tr.den,dT];refine cB (fun s:Int×Int=>s.2) e.Args.length (by omega) (fun _=>True) (fun s k _ hk hkN=>?_) trivial rfl;obtain⟨v1,v2⟩:=s;simp only at hk;subst hk;unfold wJ;simp only[Tr.den,aP];by_cases hc:k<e.Args.length
 ·rw[aA (bT (by omega)),aA (by omega)];refine Sq.bind _ (hrec _ (hA k hc) (dQ (bS hc))) fun r _=>aB.2 ⟨rfl,hc,trivial⟩
 ·rw[aC (bW (by omega))];exact aB.2 (aB.2 trivial)
theorem Hc(fs:List aO)(cs ps:List Int)(e:aE)(he:cL e):Sp (aKK fs cs ps e) (fun r=>r.2=true->OkI (arF fs) fs.length cs.length ps.length e):=by
 unfold aKK aGB;simp only[Tr.den];refine Sq.bind _ (Pf e he) fun r _=>?_;split
 ·exact aB.2 (fun h=>by cases h)
 ·refine Sq.bind _ (aFB fs cs ps e he) fun r2 h2=>?_;split
  ·exact aB.2 (fun h=>by cases h)
  ·rename_i h3;exact aB.2 (fun _=>h2 (by simpa using h3))
theorem Ys(fs:List aO)(hl:fs.length<=1048576)(hb:∀ i,i<fs.length->cL (fs.getD i default).Body/\(fs.getD i default).Params.length<=1048576):
  Sp (G82 fs) (fun ok=>ok=true->fs.length<=20/\∀ i,i<fs.length->OkI (arF (fs.take i)) (fs.take i).length 0 (fs.getD i default).Params.length (fs.getD i default).Body):=by
 unfold G82 T82;simp only[Tr.den];refine dT.2 (cB (fun s:Int=>s) fs.length (by omega) (fun s=>∀ i:Nat,(i:Int)<s->OkI (arF (fs.take i)) (fs.take i).length 0 (fs.getD i default).Params.length (fs.getD i default).Body) (fun s k hI hk hkN=>?_) (fun i hi=>absurd hi (by show ¬ ((i:Int)<0); omega)) rfl);subst hk;unfold Nu;simp only[Tr.den,aP];by_cases hc:k<fs.length
 ·rw[aA (bT (by omega))];by_cases h20:(k:Int)<=20
  ·simp only[aI,mI h20,dY];rw[aA (by omega)];have hp:=(hb k hc).2;refine dT.2 (cB (fun s:Int=>s) (fs.getD k default).Params.length (by omega) (fun _=>True) (fun s m _ hm hmN=>?_) trivial rfl);subst hm;unfold aCE;simp only[Tr.den,aP];by_cases hm:m<(fs.getD k default).Params.length
   ·rw[aA (bT (by omega)),aA (by omega),Pe];simp only[aI];split
    ·exact aB.2 (aB.2 (aB.2 (fun h=>by cases h)))
    ·exact aB.2 ⟨rfl,hm,trivial⟩
   ·rw[aC (bW (by omega))];refine aB.2 ?_;simp only[sel];rw[aA ⟨by omega,by omega,by omega⟩];have e1:(fs.drop (Int.toNat 0)).take ((k:Int)-0).toNat=fs.take k:=by rw[show ((k:Int)-0).toNat=k by omega]; rfl
    rw[e1,aA ⟨by omega,by omega,by omega⟩];refine Sq.bind _ (Sq.of (Hc (fs.take k) [] (fs.getD k default).Params (fs.getD k default).Body (hb k hc).1)) fun r5 h5=>?_;by_cases ho:r5.2=true
    ·rw[aC (by rw[ho]; decide)];refine Sq.bind (fun _=>True) (by split <;> exact aB.2 trivial) fun j6 _=>?_;cases j6 with
     | true=>exact aB.2 (aB.2 (fun h=>by cases h))
     | false=>
      refine aB.2 ⟨rfl,hc,fun i hi=>?_⟩;rw[bF (by omega)]at hi;rcases Nat.lt_or_ge i k with h | h
      ·exact hI i (by omega)
      ·have:i=k:=by omega
       subst this; exact h5 ho
    ·rw[aA (by simp only[Bool.not_eq_true]at ho; rw[ho]; rfl)];exact aB.2 (aB.2 (fun h=>by cases h))
  ·simp only[aI,iC h20,cS,cO];refine aB.2 (aB.2 (fun h=>?_));have:=gI h;omega
 ·rw[aC (bW (by omega))];simp only[aI,cS,cO];refine aB.2 (aB.2 (fun h=>⟨by have:=gI h; omega,fun i hi=>hI i (by omega)⟩))
end
section
theorem dN.bnd{e:aE}(h:dN e):cL e:=by
 induction h with
 | mk0 ha hb hs hn hl ih=>exact .mk hs hn (fun i hi=>ih _ (bS hi))
theorem sB{n:Nat}(h:okL n iQ fs):fs.length<=1048576/\∀ i,i<fs.length->cL (fs.getD i default).Body/\(fs.getD i default).Params.length<=1048576:=
 ⟨h.1,fun i hi=>by have h1:=h.2 _ (bS hi);exact⟨h1.2.2.2.bnd,h1.2.1.1⟩⟩
end
section
theorem Pl(fs:List aO)(e:aE)(hl:okL 104 iQ fs)(h:dN e):Sp (G81 fs e) (fun _=>True):=by
 have hl1:=hl.1;unfold G81 T81;simp only[Tr.den,dT];refine jP (fun s:List Int×Int=>s.2) fs.length (by omega) (fun s=>s.1.length=s.2.toNat) (fun s k hI hk hkN=>?_) rfl rfl;obtain⟨v1,v2⟩:=s;simp only at hk hI;subst hk;simp only[aP]at hI;unfold Wr;simp only[Tr.den,aP];by_cases hc:k<fs.length
 ·rw[aA (bT (by omega)),aA (by omega)];refine Sq.bind _ (Sq.of (Oq v1 _ (by omega) (hl.2 _ (bS hc)).2.2.2)) fun r _=>?_;rw[aA (by simp only[gP,Ay]; omega)];refine aB.2 ⟨rfl,hc,?_⟩;simp only;rw[bF (by omega)]; simp; omega
 ·rw[aC (bW (by omega))];refine aB.2 ?_;simp only[sel,dT];exact(Sq.of (Oq v1 e (by omega) h)).imp fun _ _=>aB.2 trivial
theorem aIH(fs:List aO)(n:aG)(hl:okL 104 iQ fs)(h:jJ n):Sp (G33 fs n) (fun r=>r=true->n.Key.length<=20/\n.Seq.length<=8):=by
 obtain⟨_,_,_,_,hE,_,_,_,_,_,_,_,_,_,hS,_⟩:=h;have hE1:=hE.1;have hS1:=hS.1;have hl1:=hl.1;unfold G33 T33;simp only[Tr.den,dT];refine jP (fun s:Int=>s) fs.length (by omega) (fun _=>True) (fun s k _ hk hkN=>?_) trivial rfl;subst hk;unfold Zx;simp only[Tr.den,aP,sT,aI];by_cases hc:((k:Int)<(fs.length:Int))/\(k:Int)<6
 ·rw[aA (bT hc),aA (by omega)];refine Sq.bind _ (Mt _ (hl.2 _ (bS (show k<fs.length by omega))).2.2.2) fun r _=>?_;refine Sq.bind (fun _=>True) ?_ (fun j _=>?_)
  ·by_cases h1:r>100
   ·rw[aA (bT h1)]; exact aB.2 trivial
   ·rw[aC (bW h1),aA (by omega)]; exact aB.2 trivial
  ·cases j with
   | true=>exact aB.2 (aB.2 fun h=>by cases h)
   | false=>exact aB.2 ⟨rfl,by omega,trivial⟩
 ·rw[aC (bW hc)];refine aB.2 ?_;simp only[sel,dT];refine jP (fun s:Int=>s) n.Exprs.length (by omega) (fun _=>True) (fun s k _ hk hkN=>?_) trivial rfl;subst hk;unfold Wo;simp only[Tr.den,aP,sT,aI];by_cases hc:((k:Int)<(n.Exprs.length:Int))/\(k:Int)<13
  ·rw[aA (bT hc),aA (by omega)];have he:=okEs.get hE (show k<n.Exprs.length by omega);refine Sq.bind _ (Sq.of (Mt _ he)) fun r _=>?_;refine Sq.bind (fun _=>True) ?_ (fun j _=>?_)
   ·by_cases h1:r>200
    ·rw[aA (bT h1)]; exact aB.2 trivial
    ·rw[aC (bW h1),aA (by omega)];refine Sq.bind _ (Sq.of (aDL _ he)) fun r _=>?_;by_cases h2:r>12
     ·rw[aA (bT h2)]; exact aB.2 trivial
     ·rw[aC (bW h2),aA (by omega)];refine Sq.bind _ (Sq.of (Pl fs _ hl he)) fun r _=>aB.2 trivial
   ·cases j with
    | true=>exact aB.2 (aB.2 fun h=>by cases h)
    | false=>exact aB.2 ⟨rfl,by omega,trivial⟩
  ·rw[aC (bW hc)];refine aB.2 ?_;simp only[sel,dT];refine jP (fun s:Int=>s) n.Seq.length (by omega) (fun _=>True) (fun s k _ hk hkN=>?_) trivial rfl;subst hk;unfold aBY;simp only[Tr.den,aP,sT,aI];by_cases hc:((k:Int)<(n.Seq.length:Int))/\(k:Int)<9
   ·rw[aA (bT hc),aA (by omega)];have he:=(hS.2 _ (bS (show k<n.Seq.length by omega))).1;refine Sq.bind _ (Sq.of (Mt _ he)) fun r _=>?_;refine Sq.bind (fun _=>True) ?_ (fun j _=>?_)
    ·by_cases h1:r>200
     ·rw[aA (bT h1)]; exact aB.2 trivial
     ·rw[aC (bW h1),aA (by omega)];refine Sq.bind _ (Sq.of (aDL _ he)) fun r _=>?_;by_cases h2:r>12
      ·rw[aA (bT h2)]; exact aB.2 trivial
      ·rw[aC (bW h2),aA (by omega)];refine Sq.bind _ (Sq.of (Pl fs _ hl he)) fun r _=>aB.2 trivial
    ·cases j with
     | true=>exact aB.2 (aB.2 fun h=>by cases h)
     | false=>exact aB.2 ⟨rfl,by omega,trivial⟩
   ·rw[aC (bW hc)];refine aB.2 ?_;simp only[sel];exact aB.2 fun h=>by have:=gI h; omega
theorem aKM(fs:List aO)(hl:okL 104 iQ fs):Sp (G82 fs) (fun _=>True):=(Ys fs (sB hl).1 (sB hl).2).imp fun _ _=>trivial
end
section
def yB(a:Nat)(b:UInt8):Nat:=a*10+(b.toNat-48)
theorem Db:∀ (l:List UInt8) (a:Nat),a<=l.foldl yB a
 | [],a=>eT _
 | b::l,a=>by rw[qZ];refine iD ?_ (Db l _);unfold yB; omega
theorem Av:∀ (l:List UInt8) (a:Nat),(∀ b,b∈l->48<=b.toNat/\b.toNat<=57)->l.foldl yB a<18446744073709551616->Lib.parseUint10 a l = .ok (l.foldl yB a)
 | [],a,_,_=>rfl
 | b::l,a,h,hl=>by have h0:=h b dW;rw[qZ]at hl ⊢;have h1:=Db l (yB a b);have e:a*10+(b.toNat-48)=yB a b:=rfl;unfold Lib.parseUint10;rw[aA h0,aC (by omega),aC (by omega),e];exact Av l _ (fun c hc=>h c (cM _ hc)) hl
theorem tN(u:Nat):Lib.decDigits u≠[]:=by
 unfold Lib.decDigits;split
 ·simp
 ·simp
theorem rV(u:Nat)(h:u<18446744073709551616):Lib.parseMag (Lib.decDigits u) = .ok u:=by unfold Lib.parseMag;rw[aC (tN u)];have e:(Lib.decDigits u).foldl yB 0=u:=Hy u;rw[Av _ 0 (pS u) (by rw[e]; exact h),e]
theorem Vl(h:gX n):Lib.atoiAll (Lib.itoa n) = .ok n:=by
 obtain⟨h1,h2⟩:=h;unfold Lib.itoa;split
 ·rename_i hn;unfold Lib.atoiAll;have e:(45:UInt8).toNat=45:=rfl;simp only[e,or_true,dY];rw[rV _ (by omega)];simp only[not_true_eq_false,false_and,cO,true_and];rw[aC (by omega)]
  congr 1; omega
 ·rename_i hn;have hm:=rV n.toNat (by omega);have hd:=pS n.toNat;generalize hl:Lib.decDigits n.toNat=l at hm hd;cases l with
  | nil=>exact absurd hl (tN _)
  | cons c r=>
   have hc:=hd c dW;unfold Lib.atoiAll;simp only;rw[aC (by omega),hm];have e:¬ (c.toNat=45):=by omega
   simp only[e,not_false_eq_true,true_and,cO,false_and];rw[aC (by omega)]
   congr 1; omega
theorem Ez:∀ (k u:Nat),u<10 ^ (k+1)->Lib.nDigits u<=k+1
 | 0,u,h=>by rw[Lib.nDigits_small (by simpa using h)]; exact eT _
 | k+1,u,h=>by
  unfold Lib.nDigits;split
  ·omega
  ·have:=Ez k (u / 10) (by rw[Nat.pow_succ]at h; omega);omega
theorem zD(h:gX n):(Lib.itoa n).length<=20:=by
 obtain⟨h1,h2⟩:=h;have hk:∀ u:Nat,u<=9223372036854775808->(Lib.decDigits u).length<=19:=fun u hu=>by rw[Lib.decDigits_length];exact Ez 18 u (by omega)
 unfold Lib.itoa;split
 ·have:=hk n.natAbs (by omega);rw[gP]; omega
 ·have:=hk n.toNat (by omega);omega
theorem qT{c:UInt8}:∀ (l t:List UInt8),(∀ b,b∈l->b≠c)->Lib.indexByte (l++c::t) c=(l.length:Int)
 | [],t,_=>by simp[Lib.indexByte]
 | b::l,t,h=>by
  have h1:=qT l t fun x hx=>h x (cM _ hx);have h2:(b==c)=false:=by simpa using h b dW
  rw[Gq];unfold Lib.indexByte;rw[h2,h1];have h3:((l.length:Int) == -1)=false:=by rw[rN]; omega
  simp only[h3,cS,cO,gP];omega
theorem dX(s:ByteArray)(a b:Nat):bl (s.extract a b)=((bl s).take b).drop a:=by unfold bl;rw[ByteArray.data_extract,Array.toList_extract];simp[List.drop_take]
theorem bR(s:ByteArray):(bl s).length=s.size:=by unfold bl; rw[gV]; rfl
end
section
def mkB(l:List UInt8):ByteArray:=⟨l.toArray⟩
theorem mZ(l:List UInt8):bl (mkB l)=l:=by unfold bl mkB; simp
theorem Gl{b:ByteArray}(h:bl b=l):b=mkB l:=mA (by rw[h,mZ])
theorem aEZ(b:ByteArray):(!(b.toList==b.toList))=false:=by simp
theorem pB(b:ByteArray):(b.toList==b.toList)=true:=by simp
theorem To(l:List UInt8)(c:UInt8)(t:List UInt8)(k:Nat)(h:l.length<k):(l++c::t).take k=l++c::t.take (k-l.length-1):=by rw[List.take_append,fK (by omega)];obtain⟨q,hq⟩:∃ q,k-l.length=q+1:=⟨k-l.length-1,by omega⟩;rw[hq,List.take_succ_cons]; rfl
end
section
theorem pI:gX 0:=⟨by omega,by omega⟩
theorem wZ{b:ByteArray}(h:(a.toList==b.toList)=true):bl a=bl b:=by have h:=lQ.1 h;rw[ByteArray.toList_eq,ByteArray.toList_eq]at h;exact h
theorem Pc{b:ByteArray}(h:i<b.size):(bl b)[i]? = some (b[i]?.getD 0):=by have h':i<b.data.size:=h;rw[getElem?_pos b i h];unfold bl;rw[uR,Ai h'];rfl
theorem aAB{b:ByteArray}(h:i<b.size):bl b=(bl b).take i++(b[i]?.getD 0)::(bl b).drop (i+1):=by
 have hl:i<(bl b).length:=by rw[bR]; exact h
 have h1:=Pc h;rw[eS hl]at h1;have h1:=uK h1
 conv=>lhs; rw[<-lL i (bl b),At hl,h1]
theorem gE(b:ByteArray)(i j:Nat):(b.extract i j).size<=b.size:=by rw[<-bR,dX,iH,dC,bR]; omega
end
section
theorem Ep{b:ByteArray}(h:bl b=p++c::t):p.length<b.size/\b[p.length]?.getD 0=c:=by
 have h1:p.length<b.size:=by have:=congrArg List.length h;rw[bR,dB,gP]at this;omega
 refine⟨h1,?_⟩;have h2:=Pc h1;rw[h]at h2;simp at h2;exact h2.symm
def Eb(l:List UInt8)(k:Nat):Nat:=(l.take k).foldl yB 0
theorem Ui(h:k<l.length):Eb l (k+1)=Eb l k*10+((l.getD k 0).toNat-48):=by unfold Eb;rw[List.take_succ_eq_append_getElem h,List.foldl_append,qZ,List.foldl_nil];unfold yB;simp[h]
theorem aKN(l:List UInt8)(k:Nat):Eb l k<=l.foldl yB 0:=by
 unfold Eb
 conv=>rhs; rw[<-lL k l,List.foldl_append]
 exact Db _ _
theorem Ag(a:ByteArray)(pre:List UInt8)(u:Nat)(hu:u<=9223372036854775808)(hl:pre.length<=1)(ha:bl a=pre++Lib.decDigits u):
  cE (fun s=>(pW a (pre.length:Int) s).den) (0,(pre.length:Int))=some (.inl (-(u:Int))):=by
 obtain⟨l,hl0⟩:∃ l,Lib.decDigits u=l:=⟨_,rfl⟩;have hdm:=pS u;have hv:l.foldl yB 0=u:=by rw[<-hl0]; exact Hy u
 have hll:l.length<=19:=by rw[<-hl0,Lib.decDigits_length];exact Ez 18 u (by omega)
 rw[hl0]at ha hdm;have hsz:a.size=pre.length+l.length:=by rw[<-bR,ha,dB]
 have key:=lP (bd:=fun s=>(pW a (pre.length:Int) s).den) (fun k=>(-(Eb l k:Int),((pre.length+k:Nat):Int))) l.length (r:=.inl (-(u:Int))) (fun k hk=>?_) ?_
 ·exact key
 ·have hm:=hdm (l.getD k 0) (by rw[cC,eS hk]; exact oZ hk);have hat:a[pre.length+k]?.getD 0=l.getD k 0:=by have h1:=Pc (b:=a) (i:=pre.length+k) (by omega);rw[ha,fI (by omega)]at h1;rw[show pre.length+k-pre.length=k by omega]at h1;rw[cC,h1]; rfl
  have h1:=Ui hk;have h2:=aKN l (k+1);rw[<-hat]at hm h1;unfold pW;simp only[Tr.den,aP];rw[aA (bT (by omega)),aA (by omega),aC (bW (by omega)),aA (by omega),aC (bW (by omega)),iC (by omega)];simp only[aI,cS,cO];rw[aA (by omega),w8 (by omega) (by omega),fE (n:=(((a[pre.length+k]?.getD 0).toNat:Int)-48)) (by omega) (by omega),fE (n:=10 * -(Eb l k:Int)) (by omega) (by omega),fE (by omega) (by omega),bF (by omega)]
  congr 4
  omega
 ·have hv':Eb l l.length=u:=by unfold Eb; rw[List.take_length]; exact hv
  unfold pW;simp only[Tr.den,hv'];rw[aC (bW (by omega))]
theorem Sr(hn:gX n)(ha:bl a=Lib.itoa n):Zf a=some (n,true):=by
 have hL:=zD hn;have hsz:a.size=(Lib.itoa n).length:=by rw[<-bR,ha]
 have fin:∀ r:ByteArray,r=jM n->(r.toList==(a++(⟨#[59]⟩:ByteArray)).toList)=true:=fun r hr=>by have:r=a++(⟨#[59]⟩:ByteArray):=mA (by rw[hr,mK,pD,ha]; rfl);rw[this]; exact pB _
 obtain⟨h1,h2⟩:=hn;unfold Zf aJL;simp only[Tr.den];by_cases h0:n<0
 ·have hi:Lib.itoa n=[45]++Lib.decDigits n.natAbs:=by unfold Lib.itoa; rw[aA h0]; rfl
  have hc:=Ep (p:=[]) (c:=45) (ha.trans hi);have hc2:a[(0:Int).toNat]?.getD 0=45:=hc.2;have hpos:0<a.size:=hc.1;rw[aA (bT (by omega)),aA (by omega),hc2];rw[show ((((45:UInt8).toNat:Int))==45)=true from rfl];simp only[aI,dY];have hb:=Ag a [45] n.natAbs (by omega) (eT 1) (ha.trans hi);rw[show (([45]:List UInt8).length:Int)=1 from rfl]at hb;rw[hb];simp only[aI,sel];rw[aC (by decide)];have e:-(n.natAbs:Int)=n:=by omega
  rw[e,aI,xV ⟨h1,h2⟩,aI,aA (by rw[sz1]; omega),fin _ rfl]
 ·have hi:Lib.itoa n=[]++Lib.decDigits n.toNat:=by unfold Lib.itoa; rw[aC h0]; rfl
  have hd:=pS n.toNat;obtain⟨j1,hj1,hj⟩:∃ j:Option Bool,j=some false/\(if decide ((a.size:Int)>0)=true then if 0<=(0:Int)/\(0:Int)<(a.size:Int) then some (((a[(0:Int).toNat]?.getD 0).toNat:Int)==45) else none else some false)=j:=by
   refine⟨_,?_,rfl⟩;cases hq:Lib.decDigits n.toNat with
   | nil=>exact absurd hq (tN _)
   | cons c r=>rw[hq]at hi hd;have hc:=Ep (p:=[]) (c:=c) (ha.trans hi);have hc2:a[(0:Int).toNat]?.getD 0=c:=hc.2;have hpos:0<a.size:=hc.1;have:=hd c dW;rw[aA (bT (by omega)),aA (by omega),hc2,rN.2 (by omega)]
  rw[hj,hj1];simp only[aI,cS,cO];have hb:=Ag a [] n.toNat (by omega) (iT 1) (ha.trans hi);rw[show (([]:List UInt8).length:Int)=0 from rfl]at hb;rw[hb];simp only[aI,sel];rw[aA (by decide)];have e:IntKind.i64.wrap (0 - -(n.toNat:Int))=n:=by rw[fE (by omega) (by omega)]; omega
  rw[e,aI,xV ⟨h1,h2⟩,aI,aA (by rw[sz1]; omega),fin _ rfl]
theorem Bf{b:Bool}(hn:gX n)(hc:58<=c.toNat)(hr:bl rb=Lib.itoa n++c::t)(hsz:rb.size<=100000000000):rG (c.toNat:Int) ⟨rb,b⟩=some (n,mkB t,b):=by
 have hL:=zD hn;have hS:rb.size=(Lib.itoa n).length+1+t.length:=by rw[<-bR,hr,dB,gP]; omega
 have hc0:=(Ep hr).2;have hno:=Of n hc;have key:=lP (bd:=fun s=>(kC (c.toNat:Int) ⟨rb,b⟩ s).den) (fun k=>(k:Int)) (Lib.itoa n).length (r:=.inl ((Lib.itoa n).length:Int)) (fun k hk=>?_) ?_
 ·have e1:rb.extract 0 (Lib.itoa n).length=mkB (Lib.itoa n):=Gl (by rw[dX,hr,wU]; rfl);have e5:rb.extract (IntKind.i64.wrap (((Lib.itoa n).length:Int)+1)).toNat rb.size=mkB t:=Gl (by rw[dX,hr,bF (by omega),aP,fK (by rw[<-hr,bR]; omega)];simp[List.drop_append]);unfold rG xZ;simp only[Tr.den];rw[show (0:Int)=((0:Nat):Int) from rfl,key];simp only[aI,sel,aP,hc0];rw[aC (bW (by omega)),aA (by omega),aC (sD rfl),aA (by omega),e1,Sr hn (mZ _)];simp only[aI,iZ,cS,cO];rw[aA ⟨by rw[bF (by omega)]; omega,by rw[bF (by omega)]; omega,by omega⟩,e5]
 ·have hat:rb[k]?.getD 0≠c:=by have h1:=Pc (b:=rb) (i:=k) (by omega);rw[hr,eV hk,eS hk]at h1;rw[<-uK h1];exact hno _ (oZ hk)
  unfold kC;simp only[Tr.den,aP];rw[aA (bT (by omega)),aA (bT (by omega)),aA (by omega),sF (fun h=>hat (UInt8.toNat_inj.1 (by omega)))];simp only[aI,dY];rw[bF (by omega)]
 ·unfold kC;simp only[Tr.den,aP,hc0];rw[aA (bT (by omega)),aA (bT (by omega)),aA (by omega),bne_self_eq_false];simp only[aI,cS,cO]
theorem Xs{b:Bool}(hn:gX n)(hr:bl rb=bl (jM n)++t)(hsz:rb.size<=100000000000):xF ⟨rb,b⟩=some (n,mkB t,b):=by unfold xF Hi;simp only[Tr.den];rw[show (59:Int)=((59:UInt8).toNat:Int) from rfl,Bf (t:=t) hn (by decide) (by rw[hr,mK]; simp) hsz];rfl
theorem Ad{b:Bool}(hn:gX n)(h0:0<=n)(hc:58<=c.toNat)(hr:bl rb=Lib.itoa n++c::t)(hsz:rb.size<=100000000000):rQ (c.toNat:Int) ⟨rb,b⟩=some (n,mkB t,b):=by unfold rQ wI;simp only[Tr.den];rw[Bf hn hc hr hsz];simp only[aI];rw[aC (bW (by omega))]
theorem Uk{b:Bool}(hn:gX n)(h0:0<=n)(hr:bl rb=bl (jM n)++t)(hsz:rb.size<=100000000000):rH ⟨rb,b⟩=some (n,mkB t,b):=by unfold rH yM;simp only[Tr.den];rw[show (59:Int)=((59:UInt8).toNat:Int) from rfl,Ad (t:=t) hn h0 (by decide) (by rw[hr,mK]; simp) hsz];rfl
theorem Tw{b:Bool}(hr:bl rb=c::t)(hsz:rb.size<=100000000000):rJ (c.toNat:Int) ⟨rb,b⟩=some (true,mkB t,b):=by have hc0:=Ep (p:=[]) (c:=c) (t:=t) hr;have hc1:rb[(0:Int).toNat]?.getD 0=c:=hc0.2;have hp:0<rb.size:=hc0.1;have e5:rb.extract (1:Int).toNat (rb.size:Int).toNat=mkB t:=Gl (by rw[dX,hr,aP,fK (by rw[<-hr,bR]; omega)]; rfl);unfold rJ yQ;simp only[Tr.den];rw[aC (vJ (by omega)),aA (by omega),hc1,aC (sD rfl),aA (by omega),e5]
theorem Yt(hs:s.size<=100000000000)(hr:bl rb=bl (oK s)++t)(hsz:rb.size<=100000000000):uJ ⟨rb,false⟩=some (s,mkB t,false):=by
 have hr':bl rb=Lib.itoa (s.size:Int)++(58:UInt8)::(bl s++44::t):=by rw[hr,uB]; simp
 have h1:=Ad (n:=(s.size:Int)) (c:=58) (b:=false) ⟨by omega,by omega⟩ (by omega) (by decide) hr' hsz;rw[show ((58:UInt8).toNat:Int)=58 from rfl]at h1;obtain⟨q,hq⟩:∃ q,mkB (bl s++44::t)=q:=⟨_,rfl⟩;rw[hq]at h1;have hbq:bl q=bl s++44::t:=by rw[<-hq,mZ]
 have hS:q.size=s.size+1+t.length:=by rw[<-bR,hbq,dB,gP,bR]; omega
 have hS2:rb.size=(Lib.itoa (s.size:Int)).length+1+q.size:=by rw[<-bR,hr',dB,gP,<-hbq,bR]; omega
 have e1:bl (q.extract ((s.size:Int):Int).toNat (q.size:Int).toNat)=(44:UInt8)::t:=by rw[dX,hbq,aP,aP,fK (by rw[<-hbq,bR]; omega),<-bR s,List.drop_left]
 have e2:q.extract (0:Int).toNat ((s.size:Int)).toNat=s:=mA (by rw[dX,hbq,aP,<-bR,wU]; rfl);have h2:=Tw (c:=44) (b:=false) e1 (by rw[<-bR,e1,gP]; omega);rw[show ((44:UInt8).toNat:Int)=44 from rfl]at h2;unfold uJ Iv;simp only[Tr.den,h1,aI,cS,cO];rw[iC (by omega)];simp only[cS,cO];rw[aA (by omega),aA (by omega),h2];simp only[aI,iZ,cS,cO,e2]
end
section
def RdW(q:bX)(p:List UInt8)(rest:ByteArray)(bad:Bool):Prop:=rest.size<=q.rest_.size/\((bad=true/\rest.size=0)\/(bad=q.bad_/\bl q.rest_=p++bl rest))
theorem RdW.fail:RdW q p ⟨#[]⟩ true:=⟨iT _,.inl ⟨rfl,rfl⟩⟩
theorem RdW.ok(h:RdW q p rest bad)(hb:bad=false):q.bad_=false/\bl q.rest_=p++bl rest:=by
 rcases h.2 with h | ⟨h1,h2⟩
 ·rw[hb]at h; cases h.1
 ·exact⟨by rw[<-h1,hb],h2⟩
theorem RdW.trans{p':List UInt8}{rest':ByteArray}{bad':Bool}(h:RdW q p rest bad)(h':RdW ⟨rest,bad⟩ p' rest' bad'):RdW q (p++p') rest' bad':=by
 refine⟨iD h'.1 h.1,?_⟩;rcases h'.2 with hb | ⟨h1,h2⟩
 ·exact .inl hb
 ·simp only at h1 h2;rcases h.2 with⟨hb,h0⟩ | ⟨h3,h4⟩
  ·have:=congrArg List.length h2;rw[bR,dB,bR]at this;exact .inl ⟨by rw[h1,hb],by omega⟩
  ·exact .inr ⟨by rw[h1,h3],by rw[h4,h2,gF]⟩
def RG(q:bX):Prop:=q.bad_=true->q.rest_.size=0
theorem RdW.good(h:RdW q p rest bad)(hg:RG q):RG ⟨rest,bad⟩:=fun hb=>by
 rcases h.2 with⟨_,h1⟩ | ⟨h1,_⟩
 ·exact h1
 ·have h2:=hg (by rw[<-h1]; exact hb);have:=h.1;simp only; omega
theorem Zz(h:l[i]? = some c):l=l.take i++c::l.drop (i+1):=by
 obtain⟨hi,hc⟩:=dE.1 h
 conv=>lhs; rw[<-lL i l,At hi,hc]
theorem xR(q:bX):Zk q=some (⟨#[]⟩,true):=rfl
theorem Co(e:UInt8)(lo:Int)(hlo:lo<=0)(q:bX)(hs:q.rest_.size<=1000000000000):Sp (yH (e.toNat:Int) lo q) (fun r=>gX r.1/\lo<=r.1/\RdW q (Lib.itoa r.1++[e]) r.2.1 r.2.2):=by
 obtain⟨hd,hhd⟩:∃ hd,q.rest_.extract (0:Int).toNat (if (21:Int)<((q.rest_:ByteArray).size:Int) then (21:Int) else ((q.rest_:ByteArray).size:Int)).toNat=hd:=⟨_,rfl⟩;have hm0:0<=(if (21:Int)<((q.rest_:ByteArray).size:Int) then (21:Int) else ((q.rest_:ByteArray).size:Int))/\(if (21:Int)<((q.rest_:ByteArray).size:Int) then (21:Int) else ((q.rest_:ByteArray).size:Int))<=(q.rest_.size:Int):=by split <;> omega
 generalize hM:(if (21:Int)<((q.rest_:ByteArray).size:Int) then (21:Int) else ((q.rest_:ByteArray).size:Int))=M at hhd hm0;have hbl:bl hd=(bl q.rest_).take M.toNat:=by rw[<-hhd,dX]; rfl
 have hdl:hd.size<=q.rest_.size:=by rw[<-hhd]; exact gE _ _ _
 have e1:Zp hd (e.toNat:Int)=some (Lib.indexByte (bl hd) e):=by unfold Zp;rw[show ((e.toNat:Int)).toNat.toUInt8=e by simp]; rfl
 have hge:=Lib.indexByte_ge (bl hd) e;unfold yH By;simp only[Tr.den,hM,hhd,e1,aI,xR];rw[aA ⟨by omega,hm0.1,hm0.2⟩];generalize hI:Lib.indexByte (bl hd) e=i at hge;refine aU (fun _=>aB.2 ⟨pI,hlo,.fail⟩) fun h0=>?_;have h0:=jH h0;obtain⟨k,rfl⟩:∃ k:Nat,i=k:=⟨i.toNat,by omega⟩;have hk:=(Lib.indexByte_some hI).1;have hkl:k<(bl hd).length:=(dE.1 hk).1;rw[bR]at hkl;have hcut:bl q.rest_=(bl hd).take k++e::(bl q.rest_).drop (k+1):=by
  have h1:(bl q.rest_)[k]? = some e:=by
   rw[hbl,gJ]at hk;split at hk
   ·exact hk
   ·cases hk
  have h2:k<M.toNat:=by
   rw[hbl,gJ]at hk;split at hk
   ·assumption
   ·cases hk
  have h3:=Zz h1;rw[hbl,List.take_take,Nat.min_eq_left (by omega)];exact h3
 rw[aA (by omega)];simp only[aP];have hxl:bl (hd.extract (0:Int).toNat k)=(bl hd).take k:=by rw[dX]; rfl
 have hxs:(hd.extract (0:Int).toNat k).size<=hd.size:=gE _ _ _;generalize hd.extract (0:Int).toNat k=x at hxl hxs;unfold aDH;rw[aA (by omega)];simp only[aI];cases hA:Lib.atoiAll x.data.toList with
 | ok v=>
  simp only[sel,Tr.den];have hv:gX v:=Lib.atoiAll_bounds hA;rw[vO hv];simp only[aI];rw[aA (by omega)];refine Sq.bind (fun j:Bool=>j=false->bl x=Lib.itoa v/\lo<=v) (aU (fun _=>aB.2 fun h=>by cases h) fun h=>aB.2 fun h'=>⟨?_,by have:=jH h'; omega⟩) fun j hj=>?_
  ·have h:=wZ (a:=iV v) (b:=x) (by simpa using h);rw[<-h]; exact wC v
  ·refine aU (fun _=>aB.2 ⟨pI,hlo,.fail⟩) fun h=>?_;obtain⟨h1,h2⟩:=hj h;rw[bF (by omega),aA (by omega)];refine aB.2 ⟨hv,h2,gE _ _ _,.inr ⟨rfl,?_⟩⟩;simp only;rw[dX,aP,fK (by rw[bR]; omega),<-h1,hxl,gF];exact hcut
 | _=>exact aB.2 ⟨pI,hlo,.fail⟩
theorem aNK(q:bX)(hs:q.rest_.size<=1000000000000):Sp (Ge q) (fun r=>gX r.1/\RdW q (bl (jM r.1)) r.2.1 r.2.2):=by unfold Ge Qs;simp only[Tr.den];refine Sq.bind _ (Co 59 _ (by omega) q hs) fun r hr=>aB.2 ⟨hr.1,?_⟩;rw[mK]; exact hr.2.2
theorem aKO(q:bX)(hs:q.rest_.size<=1000000000000):Sp (yW q) (fun r=>gX r.1/\0<=r.1/\RdW q (bl (jM r.1)) r.2.1 r.2.2):=by unfold yW Dz;simp only[Tr.den];refine Sq.bind _ (Co 59 _ (by omega) q hs) fun r hr=>aB.2 ⟨hr.1,hr.2.1,?_⟩;rw[mK]; exact hr.2.2
theorem aAJ(c:UInt8)(a:ByteArray)(hs:a.size<=1000000000000):Sp (Wm a ⟨#[c]⟩) (fun r=>r.1.size<=a.size/\(r.2=true->bl a=c::bl r.1)):=by
 have hc1:((⟨#[c]⟩:ByteArray).size:Int)=1:=rfl;have h1:Sp (aBP a ⟨#[c]⟩) (fun r=>r=true->∃ t,bl a=c::t):=by
  unfold aBP aID;simp only[Tr.den];refine Sq.bind (fun r:Bool=>r=true->∃ t,bl a=c::t) (aU (fun h=>?_) fun _=>aB.2 fun h=>by cases h) fun r hr=>aB.2 hr;have h:=gI h;rw[aA (by omega)];refine aB.2 fun h'=>?_;have h':=wZ h';rw[dX,hc1]at h';have h':(bl a).take 1=[c]:=h';cases hb:bl a with
  | nil=>rw[hb]at h'; cases h'
  | cons x t=>rw[hb]at h'; simp at h'; exact⟨t,by rw[h']⟩
 unfold Wm aIM;simp only[Tr.den];refine Sq.bind _ ?_ fun r hr=>aB.2 hr;unfold aHG aDZ;simp only[Tr.den];refine Sq.bind _ h1 fun r hr=>aU (fun _=>aB.2 ⟨eT _,fun h=>by cases h⟩) fun h=>?_;obtain⟨t,ht⟩:=hr (by simpa using h);have hl:=congrArg List.length ht;rw[bR,gP]at hl;rw[hc1,aA (by omega)];refine aB.2 ⟨gE _ _ _,fun _=>?_⟩;simp only;rw[dX,aP,fK (by rw[bR]; omega),ht]; rfl
theorem aGD(c:UInt8)(q:bX)(hs:q.rest_.size<=1000000000000):Sp (zC ⟨#[c]⟩ q) (fun r=>RdW q [c] r.1 r.2):=by unfold zC Dc;simp only[Tr.den,xR];refine Sq.bind _ (aAJ c q.rest_ hs) fun r hr=>?_;refine Sq.bind (fun j:ByteArray×Bool=>RdW q [c] j.1 j.2) (aU (fun _=>aB.2 .fail) fun h=>aB.2 ⟨hr.1,.inr ⟨rfl,hr.2 (by simpa using h)⟩⟩) fun j hj=>aB.2 hj
theorem aME(q:bX)(hg:RG q)(hs:q.rest_.size<=1000000000000):Sp (Hd q) (fun r=>r.1.size<=q.rest_.size/\RdW q (bl (oK r.1)) r.2.1 r.2.2):=by
 unfold Hd Sl;simp only[Tr.den,xR];refine Sq.bind _ (Co 58 0 (Int.le_refl 0) q hs) fun r hr=>?_;obtain⟨h1,h2,h3⟩:=hr;have h3s:=h3.1;refine aU (fun _=>aB.2 ⟨iT _,.fail⟩) fun h=>?_;have h:=jH h;rw[aA (by omega),aA (by omega)];have hx:=gE r.2.1 r.1.toNat (r.2.1.size:Int).toNat;refine Sq.bind _ (aGD 44 _ (by simp only; omega)) fun r3 hr3=>?_;refine aU (fun hb=>aB.2 ⟨iT _,?_⟩) fun hb=>?_
 ·have hle:r3.1.size<=q.rest_.size:=by have:=hr3.1; simp only at this; omega
  rw[hb];refine⟨hle,?_⟩;rcases hr3.2 with⟨_,h0⟩ | ⟨h4,h5⟩
  ·exact .inl ⟨rfl,h0⟩
  ·simp only at h4 h5;have h6:=(h3.good hg) (by rw[<-h4]; exact hb);have:=congrArg List.length h5;rw[bR,dB,bR,eJ]at this;simp only at h6;omega
 ·obtain⟨h4,h5⟩:=hr3.ok hb;simp only at h4 h5;obtain⟨h6,h7⟩:=h3.ok h4;have hxs:=gE r.2.1 (0:Int).toNat r.1.toNat;refine aB.2 ⟨by simp only; omega,by have:=hr3.1; simp only at this ⊢; omega,.inr ⟨by rw[hb,h6],?_⟩⟩;have hn:((r.2.1.extract (0:Int).toNat r.1.toNat).size:Int)=r.1:=by rw[<-bR,dX,show (0:Int).toNat=0 from rfl,List.drop_zero,dC,bR]; omega
  simp only;rw[uB,hn,h7,dX,show (0:Int).toNat=0 from rfl,List.drop_zero];rw[dX,aP,fK (by rw[bR]; omega)]at h5;have h8:bl r.2.1=(bl r.2.1).take r.1.toNat++(44::bl r3.1):=by
   conv=>lhs; rw[<-lL r.1.toNat (bl r.2.1),h5]
   rfl
  conv=>lhs; rw[h8]
  simp
end
section
def RdP(q:aF)(p:List UInt8)(rest:ByteArray)(bad:Bool):Prop:=rest.size<=q.Rest.size/\(bad=true\/(bad=q.Bad/\bl q.Rest=p++bl rest))
theorem RdP.fail{q:aF}:RdP q p ⟨#[]⟩ true:=⟨iT _,.inl rfl⟩
theorem RdP.ok{q:aF}(h:RdP q p rest bad)(hb:bad=false):q.Bad=false/\bl q.Rest=p++bl rest:=by
 rcases h.2 with h | ⟨h1,h2⟩
 ·rw[hb]at h; cases h
 ·exact⟨by rw[<-h1,hb],h2⟩
theorem RdP.trans{q:aF}{p':List UInt8}{rest':ByteArray}{bad':Bool}(h:RdP q p rest bad)(h':RdP ⟨rest,bad⟩ p' rest' bad'):RdP q (p++p') rest' bad':=by
 refine⟨iD h'.1 h.1,?_⟩;rcases h'.2 with hb | ⟨h1,h2⟩
 ·exact .inl hb
 ·simp only at h1 h2;rcases h.2 with hb | ⟨h3,h4⟩
  ·exact .inl (by rw[h1,hb])
  ·exact .inr ⟨by rw[h1,h3],by rw[h4,h2,gF]⟩
theorem aFY(a:ByteArray)(hs:a.size<=1000000000000):Sp (Zf a) (fun r=>gX r.1/\(r.2=true->bl (jM r.1)=bl a++[59])):=by
 unfold Zf aJL;simp only[Tr.den];refine Sq.bind (fun _=>True) ?_ fun j1 _=>?_
 ·refine aU (fun h=>?_) (fun _=>aB.2 trivial);have h:=gI h;rw[aA (by omega)]; exact aB.2 trivial
 refine Sq.bind (fun j2:Int=>j2=0\/j2=1) (aU (fun _=>aB.2 (.inr rfl)) (fun _=>aB.2 (.inl rfl))) fun j2 hj=>?_;refine Sq.bind (fun z:Int⊕(Int×Bool)=>match z with | .inl b=>gX b | .inr r=>r=(0,false)) ?_ fun z hz=>?_
 ·refine Sq.while (fun s:Int×Int=>gX s.1/\0<=s.2/\s.2<=(a.size:Int)+1) (fun s=>a.size+1-s.2.toNat) (fun s hI=>?_) ⟨⟨by omega,by omega⟩,by omega,by omega⟩;obtain⟨v3,v4⟩:=s;obtain⟨h1,h2,h3⟩:=hI;simp only at h1 h2 h3;unfold pW;simp only[Tr.den];by_cases hc:v4<(a.size:Int)
  ·rw[aA (bT hc),aA ⟨h2,hc⟩];refine Sq.bind (fun _=>True) (aU (fun _=>aB.2 trivial) fun _=>?_) fun j6 _=>?_
   ·rw[aA ⟨h2,hc⟩];exact aU (fun _=>aB.2 trivial) (fun _=>aB.2 trivial)
   ·refine aU (fun _=>aB.2 rfl) fun _=>?_;rw[aA ⟨h2,hc⟩];have e:IntKind.i64.wrap (v4+1)=v4+1:=fE (by omega) (by omega);refine aB.2 ⟨⟨Ot _,?_,?_⟩,?_⟩ <;> simp only <;> rw[e] <;> omega
  ·rw[aC (bW hc)];exact aB.2 h1
 ·cases z with
  | inr r=>subst hz; exact aB.2 ⟨pI,fun h=>by cases h⟩
  | inl b=>simp only[sel];refine Sq.bind gX (aU (fun _=>aB.2 (Ot _)) (fun _=>aB.2 hz)) fun j7 h7=>?_;rw[xV h7];rw[aI];refine My (by have:(⟨#[59]⟩:ByteArray).size=1:=rfl; omega) ?_;refine aB.2 ⟨h7,fun h=>?_⟩;rw[wZ h,pD]; rfl
theorem Oa(e:UInt8)(q:aF)(hs:q.Rest.size<=1000000000000):Sp (rG (e.toNat:Int) q) (fun r=>gX r.1/\RdP q (Lib.itoa r.1++[e]) r.2.1 r.2.2):=by
 have e0:nL q=some (0,⟨#[]⟩,true):=rfl;unfold rG xZ;simp only[Tr.den];refine Sq.bind (fun z:Int⊕(Int×ByteArray×Bool)=>∃ v:Int,z = .inl v/\0<=v/\v<=(q.Rest.size:Int)) ?_ fun z hz=>?_
 ·refine Sq.while (fun v:Int=>0<=v/\v<=(q.Rest.size:Int)) (fun v=>q.Rest.size-v.toNat) (fun v hI=>?_) ⟨by omega,by omega⟩;unfold kC;simp only[Tr.den];refine Sq.bind (fun j:Bool=>j=true->v<(q.Rest.size:Int)) ?_ fun j hj=>?_
  ·refine aU (fun h=>?_) (fun _=>aB.2 (fun h=>by cases h));have h:=gI h;refine aU (fun _=>?_) (fun _=>aB.2 (fun h=>by cases h));rw[aA ⟨hI.1,h⟩];exact aB.2 fun _=>h
  ·refine aU (fun h=>?_) (fun _=>aB.2 ⟨v,rfl,hI.1,hI.2⟩);have h:=hj h;have e1:IntKind.i64.wrap (v+1)=v+1:=fE (by omega) (by omega);rw[e1];exact aB.2 ⟨⟨by omega,by omega⟩,by omega⟩
 ·obtain⟨v,rfl,h0,h1⟩:=hz;simp only[sel,e0,aI];refine aU (fun _=>aB.2 ⟨pI,.fail⟩) fun h=>?_;have h:=jH h;rw[aA ⟨h0,by omega⟩];refine aU (fun _=>aB.2 ⟨pI,.fail⟩) fun he=>?_;have he:((q.Rest[v.toNat]?.getD 0).toNat:Int)=(e.toNat:Int):=by rw[Dl]at he; exact he
  have he:q.Rest[v.toNat]?.getD 0=e:=UInt8.toNat_inj.1 (by omega);rw[aA ⟨by omega,h0,h1⟩];refine Sq.bind _ (aFY _ (iD (gE _ _ _) hs)) fun r hr=>?_;refine aU (fun _=>aB.2 ⟨pI,.fail⟩) fun h2=>?_;have e1:IntKind.i64.wrap (v+1)=v+1:=fE (by omega) (by omega);rw[e1,aA ⟨by omega,by omega,by omega⟩];have h3:=hr.2 (by simpa using h2);rw[mK,dX]at h3;have h3:=List.append_cancel_right h3;refine aB.2 ⟨hr.1,gE _ _ _,.inr ⟨rfl,?_⟩⟩;have hc:=aAB (b:=q.Rest) (i:=v.toNat) (by omega);rw[he]at hc;have e2:bl (q.Rest.extract (v+1).toNat (q.Rest.size:Int).toNat)=(bl q.Rest).drop (v.toNat+1):=by rw[dX,show (v+1).toNat=v.toNat+1 by omega,fK (by rw[bR]; omega)]
  have e3:Lib.itoa r.1=(bl q.Rest).take v.toNat:=h3;simp only;rw[e2,e3,gF];exact hc
theorem Qh(e:UInt8)(q:aF)(hs:q.Rest.size<=1000000000000):Sp (rQ (e.toNat:Int) q) (fun r=>gX r.1/\0<=r.1/\RdP q (Lib.itoa r.1++[e]) r.2.1 r.2.2):=by unfold rQ wI;simp only[Tr.den];refine Sq.bind _ (Oa e q hs) fun r hr=>?_;refine aU (fun _=>?_) fun h=>aB.2 ⟨hr.1,by have:=jH h; simp only; omega,hr.2⟩;rw[show nL ⟨r.2.1,r.2.2⟩=some (0,⟨#[]⟩,true) from rfl];exact aB.2 ⟨pI,Int.le_refl 0,.fail⟩
theorem aLS(q:aF)(hs:q.Rest.size<=1000000000000):Sp (xF q) (fun r=>gX r.1/\RdP q (bl (jM r.1)) r.2.1 r.2.2):=by unfold xF Hi;simp only[Tr.den];refine Sq.bind _ (Oa 59 q hs) fun r hr=>aB.2 ?_;rw[mK]; exact hr
theorem aEG(q:aF)(hs:q.Rest.size<=1000000000000):Sp (rH q) (fun r=>gX r.1/\0<=r.1/\RdP q (bl (jM r.1)) r.2.1 r.2.2):=by unfold rH yM;simp only[Tr.den];refine Sq.bind _ (Qh 59 q hs) fun r hr=>aB.2 ?_;rw[mK]; exact hr
theorem aKE(e:UInt8)(q:aF)(hs:q.Rest.size<=1000000000000):Sp (rJ (e.toNat:Int) q) (fun r=>r.2.1.size<=q.Rest.size/\(r.1=false->r.2.2=true)/\(r.1=true->r.2.2=q.Bad/\bl q.Rest=e::bl r.2.1)):=by
 have e0:nL q=some (0,⟨#[]⟩,true):=rfl;unfold rJ yQ;simp only[Tr.den,e0,aI];refine aU (fun _=>aB.2 ⟨iT _,fun _=>rfl,fun h=>by cases h⟩) fun h=>?_;have h:0<q.Rest.size:=by rw[rN]at h; omega
 rw[aA ⟨by omega,by omega⟩];refine aU (fun _=>aB.2 ⟨iT _,fun _=>rfl,fun h=>by cases h⟩) fun he=>?_;have he:((q.Rest[(0:Int).toNat]?.getD 0).toNat:Int)=(e.toNat:Int):=by rw[Dl]at he; exact he
 have he:q.Rest[(0:Int).toNat]?.getD 0=e:=UInt8.toNat_inj.1 (by omega);rw[aA ⟨by omega,by omega,by omega⟩];refine aB.2 ⟨gE _ _ _,fun h=>Bool.noConfusion h,fun _=>⟨rfl,?_⟩⟩;have hc:=aAB (b:=q.Rest) (i:=0) h;simp only;rw[dX,fK (by rw[bR]; omega)];refine hc.trans ?_;rw[show q.Rest[(0:Nat)]?.getD 0=e from he];rfl
theorem aMX(q:aF)(hs:q.Rest.size<=1000000000000):Sp (uJ q) (fun r=>r.1.size<=q.Rest.size/\RdP q (bl (oK r.1)) r.2.1 r.2.2):=by
 unfold uJ Iv;simp only[Tr.den];refine Sq.bind _ (Qh 58 q hs) fun r hr=>?_;obtain⟨h1,h2,h3⟩:=hr;have hsz:=h3.1;refine Sq.bind (fun j:Bool=>j=false->r.2.2=false/\r.1<(r.2.1.size:Int)) ?_ fun j hj=>?_
 ·refine aU (fun _=>aB.2 (fun h=>by cases h)) fun hb=>aB.2 fun h=>⟨hb,?_⟩;have:=jH h; omega
 refine aU (fun _=>?_) fun hb=>?_
 ·rw[show nL ⟨r.2.1,r.2.2⟩=some (0,⟨#[]⟩,true) from rfl];exact aB.2 ⟨iT _,.fail⟩
 ·obtain⟨h4,h5⟩:=hj hb;obtain⟨h6,h7⟩:=h3.ok h4;rw[aA ⟨by omega,h2,by omega⟩,aA ⟨by omega,by omega,by omega⟩];refine Sq.bind _ (aKE 44 ⟨r.2.1.extract (r.1:Int).toNat (r.2.1.size:Int).toNat,r.2.2⟩ (iD (gE _ _ _) (by omega))) fun r4 hr4=>?_;obtain⟨g1,g2,g3⟩:=hr4;have g1:r4.2.1.size<=r.2.1.size:=iD g1 (gE _ _ _);refine aU (fun hb=>aB.2 ⟨iT _,by simp only; omega,.inl (g2 (by simpa using hb))⟩) fun hb=>?_;obtain⟨g4,g5⟩:=g3 (by simpa using hb);have hn:((r.2.1.extract (0:Int).toNat (r.1).toNat).size:Int)=r.1:=by rw[<-bR,dX,iH,dC,bR]; omega
  refine aB.2 ⟨iD (gE _ _ _) hsz,by simp only; omega,.inr ⟨by simp only at g4; rw[g4,h4,h6],?_⟩⟩;simp only at g5 ⊢;rw[uB,hn,h7];rw[dX,fK (by rw[bR]; omega)]at g5;rw[dX];simp only[Int.toNat_zero,List.drop_zero,gF,Gq,List.nil_append];rw[<-g5,lL]
theorem aOP(q:aF):Sp (Hv q) (fun r=>r=true->q.Bad=false/\bl q.Rest=[]):=by unfold Hv Qn;simp only[Tr.den];refine Sq.bind (fun j:Bool=>j=true->q.Bad=false/\bl q.Rest=[]) (aU (fun h=>aB.2 fun h'=>⟨by simpa using h,by rw[wZ h']; rfl⟩) fun _=>aB.2 fun h=>by cases h) fun j hj=>aB.2 hj
end
section
theorem tR{lo:Int}{b:Bool}(hn:gX n)(hlo:lo<=n)(hc:58<=c.toNat)(hr:bl rb=Lib.itoa n++c::t)(hsz:rb.size<=100000000000):
  yH (c.toNat:Int) lo ⟨rb,b⟩=some (n,mkB t,b):=by
 have hL:=zD hn;have hS:rb.size=(Lib.itoa n).length+1+t.length:=by rw[<-bR,hr,dB,gP]; omega
 obtain⟨hd,hhd⟩:∃ hd,rb.extract (0:Int).toNat (if (21:Int)<((rb:ByteArray).size:Int) then (21:Int) else ((rb:ByteArray).size:Int)).toNat=hd:=⟨_,rfl⟩;have hm:(if (21:Int)<((rb:ByteArray).size:Int) then (21:Int) else ((rb:ByteArray).size:Int)).toNat=min 21 rb.size:=by split <;> omega
 have hm0:0<=(if (21:Int)<((rb:ByteArray).size:Int) then (21:Int) else ((rb:ByteArray).size:Int))/\(if (21:Int)<((rb:ByteArray).size:Int) then (21:Int) else ((rb:ByteArray).size:Int))<=(rb.size:Int):=by split <;> omega
 have hbl:bl hd=Lib.itoa n++c::t.take (min 21 rb.size-(Lib.itoa n).length-1):=by rw[<-hhd,dX,hr,hm,To _ _ _ _ (by omega)]; rfl
 have hdl:(hd.size:Int)>=(Lib.itoa n).length:=by rw[<-bR,hbl,dB]; omega
 have e1:Zp hd (c.toNat:Int)=some ((Lib.itoa n).length:Int):=by unfold Zp;rw[show hd.data.toList=bl hd from rfl,hbl,show ((c.toNat:Int)).toNat.toUInt8=c by simp,qT _ _ (Of n hc)]
 have e2:hd.extract (0:Int).toNat ((Lib.itoa n).length:Int).toNat=iV n:=mA (by rw[dX,hbl,wC,aP,wU]; rfl);have e3:aDH (iV n)=some (.inl n):=by unfold aDH;rw[show (iV n).data.toList=Lib.itoa n from rfl,Vl hn];simp only;rw[aA (by have:=kR hn; omega)]
 have e5:rb.extract (IntKind.i64.wrap (((Lib.itoa n).length:Int)+1)).toNat ((rb:ByteArray).size:Int).toNat=mkB t:=Gl (by rw[dX,hr,bF (by omega),aP,fK (by rw[<-hr,bR]; omega)];simp[List.drop_append]);unfold yH By;simp only[Tr.den,hhd,e1,e2,e3,aI];rw[aA ⟨by omega,hm0.1,hm0.2⟩,aC (bW (by omega)),aA ⟨by omega,by omega,by omega⟩];simp only[sel,Tr.den,vO hn,aEZ,aI];rw[aA ⟨by omega,by omega,by omega⟩];simp only[cS,cO,aI];rw[aC (bW (by omega)),aA ⟨by rw[bF (by omega)]; omega,by rw[bF (by omega)]; omega,by omega⟩,e5]
theorem Wy{b:Bool}(hn:gX n)(hr:bl rb=bl (jM n)++t)(hsz:rb.size<=100000000000):Ge ⟨rb,b⟩=some (n,mkB t,b):=by unfold Ge Qs;simp only[Tr.den];rw[show (59:Int)=((59:UInt8).toNat:Int) from rfl,tR (t:=t) hn hn.1 (by decide) (by rw[hr,mK]; simp) hsz];rfl
theorem Tl{b:Bool}(hn:gX n)(h0:0<=n)(hr:bl rb=bl (jM n)++t)(hsz:rb.size<=100000000000):yW ⟨rb,b⟩=some (n,mkB t,b):=by unfold yW Dz;simp only[Tr.den];rw[show (59:Int)=((59:UInt8).toNat:Int) from rfl,tR (t:=t) hn h0 (by decide) (by rw[hr,mK]; simp) hsz];rfl
theorem Tb{p:ByteArray}{b:Bool}(h:bl a=bl p++t):zC p ⟨a,b⟩=some (mkB t,b):=by
 have hS:a.size=p.size+t.length:=by rw[<-bR,h,dB,bR]
 have e1:a.extract (0:Int).toNat ((p:ByteArray).size:Int).toNat=p:=mA (by rw[dX,h,aP,<-bR,wU]; rfl);have e2:a.extract (((p:ByteArray).size:Int):Int).toNat (a.size:Int).toNat=mkB t:=Gl (by rw[dX,h,aP,aP,fK (by rw[dB,bR]; omega),<-bR p,List.drop_left]);have h1:aBP a p=some true:=by unfold aBP aID;simp only[Tr.den,e1,pB];rw[aA (bT (by omega)),aA ⟨by omega,by omega,by omega⟩];rfl
 have h2:aHG a p=some (mkB t,true):=by unfold aHG aDZ;simp only[Tr.den,h1,aI,iZ,cS,cO];rw[aA ⟨by omega,by omega,by omega⟩,e2]
 have h3:Wm a p=some (mkB t,true):=by unfold Wm aIM;simp only[Tr.den,h2,aI]
 unfold zC Dc;simp only[Tr.den,h3,aI,iZ,cS,cO]
theorem aDG(hs:s.size<=100000000000)(hr:bl rb=bl (oK s)++t)(hsz:rb.size<=100000000000):Hd ⟨rb,false⟩=some (s,mkB t,false):=by
 have hr':bl rb=Lib.itoa (s.size:Int)++(58:UInt8)::(bl s++44::t):=by rw[hr,uB]; simp
 have h1:=tR (n:=(s.size:Int)) (lo:=0) (c:=58) (b:=false) ⟨by omega,by omega⟩ (by omega) (by decide) hr' hsz;rw[show ((58:UInt8).toNat:Int)=58 from rfl]at h1;obtain⟨q,hq⟩:∃ q,mkB (bl s++44::t)=q:=⟨_,rfl⟩;rw[hq]at h1;have hbq:bl q=bl s++44::t:=by rw[<-hq,mZ]
 have hS:q.size=s.size+1+t.length:=by rw[<-bR,hbq,dB,gP,bR]; omega
 have e1:bl (q.extract ((s.size:Int):Int).toNat (q.size:Int).toNat)=bl (⟨#[44]⟩:ByteArray)++t:=by rw[dX,hbq,aP,aP,fK (by rw[<-hbq,bR]; omega),<-bR s,List.drop_left]; rfl
 have e2:q.extract (0:Int).toNat ((s.size:Int)).toNat=s:=mA (by rw[dX,hbq,aP,<-bR,wU]; rfl);unfold Hd Sl;simp only[Tr.den,h1,aI];rw[aC (bW (by omega)),aA ⟨by omega,by omega,by omega⟩,aA ⟨by omega,by omega,by omega⟩,Tb e1];simp only[aI,cS,cO,e2]
theorem aBN:Iu ⟨mkB [],false⟩=some true:=by unfold Iu Ri;simp only[Tr.den,Bool.not_false,dY,aI];exact congrArg some (pB _)
end
section
structure aSZ (n:aG):Prop where
 op:0<=n.Op/\n.Op<=8
 w:n.Op=4->(1<=n.Size/\n.Size<=10000)/\(n.Kind=0\/(n.Kind=1/\(1<=n.Step/\n.Step<=10000)/\Int.tmod n.Size n.Step=0)\/(n.Kind=2/\1<=n.Step/\n.Step<=n.Size))
 t:n.Op=5->(1<=n.Size/\n.Size<=10000)/\1<=n.Keep/\n.Keep<=100
 j:n.Op=6->okB n
 a:n.Op=7->1<=n.Keep/\n.Keep<=10000
 p:n.Op=8->(1<=n.Size/\n.Size<=10000)/\1<=n.Seq.length/\n.Seq.length<=8
theorem aEQ{s t:Int}(hs:1<=s/\s<=10000)(_h1:1<=t)(h:Int.tmod s t=0):t<=10000:=by rw[Int.tmod_eq_emod_of_nonneg (by omega)]at h;have:=Int.le_of_dvd (by omega) (Int.dvd_of_emod_eq_zero h);omega
theorem aKS(n:aG):Sp (G83 n) (fun r=>r=true->aSZ n):=by
 have oth:∀ {P:Prop} {k m:Int},n.Op=k->k≠m->n.Op=m->P:=fun h1 h2 h3=>absurd (h1.symm.trans h3) h2;unfold G83 T83;simp only[Tr.den,qI,aI];by_cases h4:n.Op=4
 ·rw[aA (oI h4)];refine aU (fun _=>aB.2 fun h=>by cases h) fun q=>?_;have hz:1<=n.Size/\n.Size<=10000:=by simpa using q
  have mk:(n.Kind=0\/(n.Kind=1/\(1<=n.Step/\n.Step<=10000)/\Int.tmod n.Size n.Step=0)\/(n.Kind=2/\1<=n.Step/\n.Step<=n.Size))->aSZ n:=fun h=>
   ⟨by omega,fun _=>⟨hz,h⟩,oth h4 (by decide),oth h4 (by decide),oth h4 (by decide),oth h4 (by decide)⟩
  refine aU (fun h0=>aB.2 fun _=>mk (.inl (lQ.1 h0))) fun _=>aU (fun h1=>aU (fun _=>aB.2 fun h=>by cases h) fun h2=>?_) fun _=>aU (fun h2=>aB.2 fun h=>mk (.inr (.inr ⟨lQ.1 h2,gI h⟩))) fun _=>aB.2 fun h=>by cases h
  have h2:=jH h2;exact My (by omega) (aB.2 fun h=>mk (.inr (.inl ⟨lQ.1 h1,⟨by omega,aEQ hz (by omega) (lQ.1 h)⟩,lQ.1 h⟩)))
 ·rw[aC (vJ h4)];by_cases h5:n.Op=5
  ·rw[aA (oI h5)];refine Sq.bind (fun j:Bool=>j=true->(1<=n.Size/\n.Size<=10000)/\1<=n.Keep/\n.Keep<=100) (aU (fun q=>aB.2 fun q2=>⟨gI q,gI q2⟩) fun _=>aB.2 fun h=>by cases h) fun j hj=>aB.2 fun h=>
    ⟨by omega,oth h5 (by decide),fun _=>hj h,oth h5 (by decide),oth h5 (by decide),oth h5 (by decide)⟩
  ·rw[aC (vJ h5)];by_cases h6:n.Op=6
   ·rw[aA (oI h6)];refine Sq.bind (fun j:Bool=>j=true->okB n) (aU (fun q=>aB.2 fun q2=>⟨gI q,gI q2⟩) fun _=>aB.2 fun h=>by cases h) fun j hj=>aB.2 fun h=>
     ⟨by omega,oth h6 (by decide),oth h6 (by decide),fun _=>hj h,oth h6 (by decide),oth h6 (by decide)⟩
   ·rw[aC (vJ h6)];by_cases h7:n.Op=7
    ·rw[aA (oI h7)];exact aB.2 fun h=>⟨by omega,oth h7 (by decide),oth h7 (by decide),oth h7 (by decide),fun _=>gI h,oth h7 (by decide)⟩
    ·rw[aC (vJ h7)];by_cases h8:n.Op=8
     ·rw[aA (oI h8)];refine Sq.bind (fun j:Bool=>j=true->(1<=n.Size/\n.Size<=10000)/\1<=n.Seq.length/\n.Seq.length<=8) (aU (fun q=>aB.2 fun q2=>⟨gI q,by have:=gI q2; omega⟩) fun _=>aB.2 fun h=>by cases h) fun j hj=>aB.2 fun h=>
       ⟨by omega,oth h8 (by decide),oth h8 (by decide),oth h8 (by decide),oth h8 (by decide),fun _=>hj h⟩
     ·rw[aC (vJ h8)];exact aB.2 fun h=>⟨gI h,fun h=>absurd h h4,fun h=>absurd h h5,fun h=>absurd h h6,fun h=>absurd h h7,fun h=>absurd h h8⟩
end
section
variable {α β:Type} {b:Bool}
theorem Sp.ret{y:α}{P:α->Prop}(h:P y):Sq b (some y) P:=aB.2 h
theorem Sp.triv{y:α}:Sq b (some y) (fun _=>True):=aB.2 trivial
theorem Sp.bind{x:Option α}{f:α->Option β}{Q:β->Prop}(P:α->Prop)(h:Sq b x P)(h':∀ y,P y->Sq b (f y) Q):Sq b (Option.bind x f) Q:=Sq.bind P h h'
theorem Sp.iteB{c:Bool}{x y:Option α}{P:α->Prop}(h:c=true->Sq b x P)(h':c=false->Sq b y P):Sq b (if c=true then x else y) P:=aU h h'
theorem Sp.iteD{c:Prop}[Decidable c]{x y:Option α}{P:α->Prop}(h:c->Sq b x P)(h':¬ c->Sq b y P):Sq b (if (decide c)=true then x else y) P:=aU (fun hc=>h (gI hc)) (fun hc=>h' (jH hc))
theorem Sp.iteN{m:Int}{x y:Option α}{P:α->Prop}(h:m≠n->Sq b x P)(h':m=n->Sq b y P):Sq b (if (m != n)=true then x else y) P:=by
 by_cases hc:m=n
 ·rw[aC (sD hc)]; exact h' hc
 ·rw[aA (sF hc)]; exact h hc
theorem Sp.iteE{m:Int}{x y:Option α}{P:α->Prop}(h:m=n->Sq b x P)(h':m≠n->Sq b y P):Sq b (if (m==n)=true then x else y) P:=by
 by_cases hc:m=n
 ·rw[aA (oI hc)]; exact h hc
 ·rw[aC (vJ hc)]; exact h' hc
theorem Sp.guard{c:Prop}[Decidable c]{x:Option α}{P:α->Prop}(hc:c)(h:Sq b x P):Sq b (if c then x else none) P:=My hc h
theorem Sp.imp'{x:Option α}{P Q:α->Prop}(h:Sq b x P)(hq:∀ y,P y->Q y):Sq b x Q:=h.imp hq
end
theorem Sp.count{S R:Type}{bb:Bool}{bd:S->Option (S⊕R)}(idx:S->Int)(N:Nat)(I:S->Prop)(Q:R->Prop)(hN:N<=1000000000000000)
  (h:∀ s (k:Nat),I s->idx s=k->k<=N->Sq bb (bd s) (fun x=>match x with | .inl s'=>k<N/\idx s'=IntKind.i64.wrap ((k:Int)+1)/\I s' | .inr r=>Q r))(s:S)(hs:I s)(h0:idx s=0):
  Sq bb (cE bd s) Q:=
 cB idx N hN I (fun s k hs hk hkN=>(h s k hs hk hkN).imp fun z hz=>by
  cases z with
  | inl s'=>exact⟨hz.2.1,hz.1,hz.2.2⟩
  | inr r=>exact hz) hs h0
theorem Sp.allB{bb:Bool}{bd:Int->Option (Int⊕(Unit⊕Bool))}(N:Nat)(P:Nat->Prop)(hN:N<=1000000000000000)
  (h:∀ i:Nat,i<N->Sq bb (bd i) (fun x=>match x with | .inl s'=>s'=IntKind.i64.wrap ((i:Int)+1)/\P i | .inr (.inr r)=>r=false | .inr (.inl _)=>False))(hf:bd (N:Int)=some (.inr (.inl ()))):
  Sq bb (cE bd 0) (fun R=>match R with | .inl _=>∀ i,i<N->P i | .inr y=>y=false):=by
 refine Sp.count (fun s=>s) N (fun s=>∀ i:Nat,(i:Int)<s->P i) _ hN (fun s k hs hk hkN=>?_) 0 (by intro i hi; omega) rfl;subst hk;by_cases hk:k=N
 ·subst hk; rw[hf]; exact Sp.ret (fun i hi=>hs i (by omega))
 ·refine(h k (by omega)).imp fun x hx=>?_;rcases x with s' | (_ | r)
  ·refine⟨by omega,hx.1,fun i hi=>?_⟩;obtain⟨hx1,hx2⟩:=hx;rw[hx1,bF (by omega)]at hi;by_cases hik:i=k
   ·subst hik; exact hx2
   ·exact hs i (by omega)
  ·exact hx.elim
  ·exact hx
def dG{A B:Type}[Inhabited A][Inhabited B](p:A->B->Bool)(l:List A)(r:List B):Bool:=decide (l.length=r.length)&&(List.range l.length).all fun i=>p (l.getD i default) (r.getD i default)
theorem xQ{A B:Type}[Inhabited A][Inhabited B]{p q:A->B->Bool}{l:List A}{r:List B}(h:∀ i,i<l.length->i<r.length->p (l.getD i default) (r.getD i default)=q (l.getD i default) (r.getD i default)):dG p l r=dG q l r:=by
 unfold dG;by_cases hl:l.length=r.length
 ·simp only[hl,decide_true,jC];rw[qV,eO,eO];constructor
  ·intro h' i hi;have hi2:i<r.length:=by simpa using hi
   rw[<-h i (by omega) hi2]; exact h' i hi
  ·intro h' i hi;have hi2:i<r.length:=by simpa using hi
   rw[h i (by omega) hi2]; exact h' i hi
 ·simp[hl]
theorem mS{A B:Type}[Inhabited A][Inhabited B]{p:A->B->Bool}{l:List A}{r:List B}:dG p l r=true↔l.length=r.length/\∀ i,i<l.length->p (l.getD i default) (r.getD i default)=true:=by unfold dG;simp only[cJ,kP,eO,jV]
theorem aE.eta(e:aE):aE.mk e.Op e.N e.S e.Args=e:=by cases e; rfl
def aE.zero:aE:=.mk 0 0 ⟨#[]⟩ []
theorem cL.get{e:aE}(h:cL e):e.S.size<=1048576/\e.Args.length<=1048576/\∀ i,i<e.Args.length->cL (e.Args.getD i default):=by cases h with | mk a b c=>exact⟨a,b,c⟩
theorem cL.mem{e x:aE}(h:cL e)(hx:x∈e.Args):cL x:=by
 obtain⟨i,hi,rfl⟩:=tQ hx;have:=h.get.2.2 i hi
 rwa [iO hi]at this
theorem cL.of{e:aE}(hs:e.S.size<=1048576)(hl:e.Args.length<=1048576)(hA:∀ x,x∈e.Args->cL x):cL e:=.mk hs hl fun _i hi=>hA _ (bS hi)
theorem cL.zero:cL .zero:=.mk (iT _) (iT _) (fun i hi=>absurd hi (Nat.not_lt_zero i))
theorem cL.ind{M:aE->Prop}(h:∀ e,cL e->(∀ x,x∈e.Args->cL x/\M x)->M e){e:aE}(he:cL e):M e:=by
 induction he with
 | @mk e hs hl hA ih=>refine h e (.mk hs hl hA) fun x hx=>?_;obtain⟨i,hi,rfl⟩:=tQ hx;have h1:=ih i hi;have h2:=hA i hi;rw[iO hi]at h1 h2;exact⟨h2,h1⟩
def mX:aE->Int
 | .mk _ _ _ xs=>1+go xs
where go:List aE->Int
 | []=>0
 | x::xs=>mX x+go xs
theorem Rn:∀ xs,mX.go xs=(xs.map mX).sum
 | []=>rfl
 | x::xs=>by simp only[mX.go,kO,List.sum_cons,Rn xs]
theorem Pt(e:aE):mX e=1+(e.Args.map mX).sum:=by cases e with | mk a b s l=>rw[mX,Rn]; rfl
theorem If{l:List aE}(h:k<l.length):((l.take (k+1)).map mX).sum=((l.take k).map mX).sum+mX (l.getD k default):=by rw[dM h]; simp[List.sum_append]
theorem aQU(b:Bool)(e:aE)(h:cL e):Sq b (G79 e) (fun y=>y=IntKind.i64.wrap (mX e)):=by
 unfold G79 H79;refine dL _ _ _ cL (fun e=>SizeOf.sizeOf e) (fun e y=>y=IntKind.i64.wrap (mX e)) (fun b f e he hrec=>?_) b e h;obtain⟨hs,hl,hA⟩:=he.get;unfold T79;simp only[Tr.den];refine dT.2 (cB (fun s=>s.2) e.Args.length (by omega) (fun s=>s.1=IntKind.i64.wrap (1+((e.Args.take s.2.toNat).map mX).sum)) (fun s k hI hk hkN=>?_) rfl rfl);obtain⟨v1,v2⟩:=s;simp only at hk hI;subst hk;simp only[aP]at hI;subst hI;unfold Lv;simp only[Tr.den,aP];by_cases hc:k<e.Args.length
 ·rw[aA (bT (by omega)),aA (by omega)];refine Sq.bind _ (hrec _ (hA k hc) (dQ (bS hc))) fun r hr=>aB.2 ⟨rfl,hc,?_⟩;subst hr;simp only;rw[bF (by omega),aP,Uh,Ah,If hc]
  congr 1; omega
 ·rw[aC (bW (by omega))];refine aB.2 (aB.2 ?_);rw[Pt,fK (by omega)]
theorem Wb(b:Bool)(e:aE)(m:Int)(h:cL e):Sq b (Jg e m) (fun y=>y=IntKind.i64.wrap (m+mX e)):=by
 unfold Jg Jv;refine dL _ _ _ (fun a=>cL a.1) (fun a=>SizeOf.sizeOf a.1) (fun a y=>y=IntKind.i64.wrap (a.2+mX a.1)) (fun b f a he hrec=>?_) b (e,m) h;obtain⟨e,m⟩:=a;simp only at he hrec;obtain⟨hs,hl,hA⟩:=he.get;have hr:∀ i,i<e.Args.length->∀ v,Sq b (f.1 (e.Args.getD i default,v)) (fun y=>y=IntKind.i64.wrap (v+mX (e.Args.getD i default))):=fun i hi v=>hrec (_,v) (hA i hi) (dQ (bS hi));unfold Cf Yy Mo;simp only[Tr.den,aI];refine dT.2 (cB (fun s=>s.2) e.Args.length (by omega) (fun s=>s.1=IntKind.i64.wrap (m+1+((e.Args.take s.2.toNat).map mX).sum)) (fun s k hI hk hkN=>?_) (by simp) rfl);obtain⟨v1,v2⟩:=s;simp only at hk hI;subst hk;simp only[aP]at hI;subst hI;unfold Aj;simp only[Tr.den,aP];by_cases hc:k<e.Args.length
 ·rw[aA (bT (by omega)),aA (by omega)];refine Sq.bind _ (hr k hc _) fun r hr=>aB.2 ⟨rfl,hc,?_⟩;subst hr;simp only;rw[bF (by omega),aP,Ah,If hc]
  congr 1; omega
 ·rw[aC (bW (by omega))];refine aB.2 (aB.2 ?_);rw[Pt,fK (by omega)]
  congr 1; omega
theorem Vw{A B:Type}[Inhabited A]{f:A->Option B}{l:List A}(h:k<l.length)(hf:f (l.getD k default)=none):l.mapM f=none:=by
 have e:l=l.take k++l.getD k default::l.drop (k+1):=by rw[<-Tm h,lL]
 rw[e,List.mapM_append,sK,hf];cases List.mapM f (l.take k) <;> rfl
theorem Td{A B:Type}[Inhabited A]{f:A->Option B}{l:List A}(h:k<l.length){acc:List B}{y:B}(h1:(l.take k).mapM f=some acc)(h2:f (l.getD k default)=some y):(l.take (k+1)).mapM f=some (acc++[y]):=by rw[dM h,List.mapM_append,h1,sK,h2];rfl
theorem oX{A B:Type}{f:A->Option B}:∀ {l:List A} {r:List B},l.mapM f=some r->r.length=l.length/\∀ y,y∈r->∃ x,x∈l/\f x=some y
 | [],r,h=>by simp at h; subst h; simp
 | x::l,r,h=>by
  rw[sK]at h;simp only[Option.bind_eq_bind,yV]at h;obtain⟨y,hy,ys,hys,hr⟩:=h;simp at hr; subst hr;obtain⟨h1,h2⟩:=oX hys;refine⟨by simp[h1],fun z hz=>?_⟩;rcases bB.1 hz with rfl | hz
  ·exact⟨x,by simp,hy⟩
  ·obtain⟨x',h3,h4⟩:=h2 z hz; exact⟨x',cM _ h3,h4⟩
def aNR{B R:Type}(r:R)(x:Option (List B)):List B⊕R:=match x with | some ys=>.inl ys | none=>.inr r
theorem vW{A B R:Type}[Inhabited A]{b:Bool}(l:List A){bd:List B×Int->Option ((List B×Int)⊕(List B⊕R))}(f:A->Option B)(r:R)(hN:l.length<=1000000000000)
  (h:∀ (acc:List B) (k:Nat),k<l.length->acc.length=k->Sq b (bd (acc,(k:Int))) (fun z=>z=match f (l.getD k default) with | some y=>.inl (acc++[y],IntKind.i64.wrap ((k:Int)+1)) | none=>.inr (.inr r)))
  (hf:∀ acc:List B,acc.length=l.length->Sq b (bd (acc,(l.length:Int))) (fun z=>z = .inr (.inl acc))):Sq b (cE bd ([],0)) (fun z=>z=aNR r (l.mapM f)):=by
 refine cB (fun s=>s.2) l.length (by omega) (fun s=>(l.take s.2.toNat).mapM f=some s.1) (fun s k hI hk hkN=>?_) rfl rfl;obtain⟨acc,v⟩:=s;simp only at hk hI;subst hk;simp only[aP]at hI;have hal:acc.length=k:=by rw[(oX hI).1,dC]; omega
 by_cases hc:k<l.length
 ·refine(h acc k hc hal).imp fun z hz=>?_;subst hz;cases hx:f (l.getD k default) with
  | none=>simp only[sel]; rw[Vw hc hx]; rfl
  | some y=>simp only[sel];refine⟨trivial,hc,?_⟩;rw[bF (by omega),aP];exact Td hc hI hx
 ·have:k=l.length:=by omega
  subst this;refine(hf acc hal).imp fun z hz=>?_;subst hz;simp only[sel];rw[fK (eT _)]at hI;rw[hI]; rfl
theorem aFS(b:Bool)(e:aE)(h:cL e):Sq b (aMA e) (fun y=>y=e):=by
 unfold aMA aQG;refine dL _ _ _ cL (fun e=>SizeOf.sizeOf e) (fun e y=>y=e) (fun b f e he hrec=>?_) b e h;obtain⟨hs,hl,hA⟩:=he.get;unfold aIY;simp only[Tr.den];refine dT.2 ((cB (fun s=>s.2) e.Args.length (by omega) (fun s=>s.1=e.Args.take s.2.toNat) (fun s k hI hk hkN=>?_) rfl rfl:Sq b _ (fun z:List aE⊕aE=>z = .inl e.Args)).imp fun z hz=>?_)
 ·obtain⟨v1,v2⟩:=s;simp only at hk hI;subst hk;simp only[aP]at hI;subst hI;unfold Sn;simp only[Tr.den,aP];by_cases hc:k<e.Args.length
  ·rw[aA (bT (by omega)),aA (by omega)];refine Sq.bind _ (hrec _ (hA k hc) (dQ (bS hc))) fun r hr=>?_;subst hr;rw[aA (by rw[dC]; omega)];refine aB.2 ⟨rfl,hc,?_⟩;simp only;rw[bF (by omega),aP,dM hc]
  ·rw[aC (bW (by omega))];refine aB.2 ?_;simp only[sel];rw[fK (by omega)]
 ·subst hz;exact aB.2 (aE.eta e)
theorem aEC(b:Bool)(e:aE)(h:cL e):Sq b (aLX e) (fun y=>y=e):=by
 unfold aLX aMG;refine dL _ _ _ cL (fun e=>SizeOf.sizeOf e) (fun e y=>y=e) (fun b f e he hrec=>?_) b e h;obtain⟨hs,hl,hA⟩:=he.get;unfold aIS;simp only[Tr.den];refine dT.2 ((cB (fun s=>s.2) e.Args.length (by omega) (fun s=>s.1=e.Args.take s.2.toNat) (fun s k hI hk hkN=>?_) rfl rfl:Sq b _ (fun z:List aE⊕aE=>z = .inl e.Args)).imp fun z hz=>?_)
 ·obtain⟨v1,v2⟩:=s;simp only at hk hI;subst hk;simp only[aP]at hI;subst hI;unfold Pz;simp only[Tr.den,aP];by_cases hc:k<e.Args.length
  ·rw[aA (bT (by omega)),aA (by omega)];refine Sq.bind _ (hrec _ (hA k hc) (dQ (bS hc))) fun r hr=>?_;subst hr;rw[aA (by rw[dC]; omega)];refine aB.2 ⟨rfl,hc,?_⟩;simp only;rw[bF (by omega),aP,dM hc]
  ·rw[aC (bW (by omega))];refine aB.2 ?_;simp only[sel];rw[fK (by omega)]
 ·subst hz;exact aB.2 (aE.eta e)
def jD(op:Int)(l:List aE):aE->Option aE
 | .mk o n s xs=>match o==op with
  | true=>match decide (n<0) || decide (n>=(l.length:Int)) with
   | true=>none
   | false=>some (l.getD n.toNat default)
  | false=>(go xs).map (aE.mk o n s)
where go:List aE->Option (List aE)
 | []=>some []
 | x::xs=>match jD op l x with
  | none=>none
  | some y=>(go xs).map (y::·)
theorem Rk(op:Int)(l:List aE):∀ xs,jD.go op l xs=xs.mapM (jD op l)
 | []=>rfl
 | x::xs=>by simp only[jD.go,sK,Rk op l xs];cases jD op l x <;> simp <;> cases List.mapM (jD op l) xs <;> rfl
theorem Cw(op:Int)(l:List aE)(e:aE):jD op l e=match e.Op==op with
  | true=>match decide (e.N<0) || decide (e.N>=(l.length:Int)) with
   | true=>none
   | false=>some (l.getD e.N.toNat default)
  | false=>(e.Args.mapM (jD op l)).map (aE.mk e.Op e.N e.S):=by
 cases e with | mk a b s xs=>simp only[jD,aE.Op,aE.N,aE.S,aE.Args,Rk]; rfl
theorem aCN{op:Int}{l:List aE}(hl:∀ x,x∈l->cL x){e:aE}(h:cL e):∀ r,jD op l e=some r->cL r:=by
 refine cL.ind (M:=fun e=>∀ r,jD op l e=some r->cL r) (fun e he ih r hr=>?_) h;rw[Cw]at hr;split at hr
 ·split at hr
  ·cases hr
  ·rename_i h2;cases hr;simp only[Bool.or_eq_false_iff,Ee]at h2;exact hl _ (bS (by omega))
 ·simp only[iN]at hr;obtain⟨ys,hys,rfl⟩:=hr;obtain⟨h1,h2⟩:=oX hys;refine .of he.get.1 (by show ys.length<=_; rw[h1]; exact he.get.2.1) (fun y hy=>?_);obtain⟨x,hx,hxy⟩:=h2 y hy;exact(ih x hx).2 y hxy
def ofM(x:Option aE):aE×Bool:=match x with | some e=>(e,true) | none=>(.zero,false)
theorem aHX(b:Bool)(e:aE)(op:Int)(l:List aE)(h:cL e)(hl:∀ x,x∈l->cL x):Sq b (aOW e op l) (fun y=>y=ofM (jD op l e)):=by
 unfold aOW aOC;refine dL _ _ _ (fun a=>cL a.1/\∀ x,x∈a.2.2->cL x) (fun a=>SizeOf.sizeOf a.1) (fun a y=>y=ofM (jD a.2.1 a.2.2 a.1)) (fun b f a ha hrec=>?_) b (e,op,l) ⟨h,hl⟩;clear h hl e op l;obtain⟨e,op,l⟩:=a;obtain⟨he,hl⟩:=ha;simp only at he hl hrec;obtain⟨hs,hlen,hA⟩:=he.get;have hr:∀ i,i<e.Args.length->Sq b (f.1 (e.Args.getD i default,op,l)) (fun y=>y=ofM (jD op l (e.Args.getD i default))):=fun i hi=>hrec (_,op,l) ⟨hA i hi,hl⟩ (dQ (bS hi));unfold aDT;simp only[Tr.den];rw[Cw];cases ho:(e.Op==op) with
 | true=>
  simp only[dY];by_cases h1:e.N<0
  ·simp only[h1,decide_true,dY,aI,Bool.true_or];exact aB.2 rfl
  ·by_cases h2:e.N>=(l.length:Int)
   ·simp only[h1,h2,decide_false,decide_true,cS,cO,dY,aI,sV];exact aB.2 rfl
   ·simp only[h1,h2,decide_false,Bool.or_false,cS,cO,aI];rw[aA (by constructor <;> omega)];exact Sq.bind _ (aFS b _ (hl _ (bS (by omega)))) fun r hr=>aB.2 (by rw[hr]; rfl)
 | false=>
  simp only[cS,cO];refine Sq.bind _ (vW e.Args (jD op l) (aE.zero,false) (by omega) (fun acc k hk hal=>?_) (fun acc hal=>?_)) fun z hz=>?_
  ·unfold Er;simp only[Tr.den,aP];rw[aA (bT (by omega)),aA (by omega)];refine Sq.bind _ (hr k hk) fun r hr=>?_;subst hr;cases jD op l (e.Args.getD k default) with
   | none=>exact aB.2 rfl
   | some y=>simp only[ofM,iZ,cS,cO];rw[aA (by simp only[eJ]; omega)];exact aB.2 rfl
  ·unfold Er;simp only[Tr.den];rw[aC (bW (by omega))];exact aB.2 rfl
  ·subst hz;cases e.Args.mapM (jD op l) with
   | none=>exact aB.2 rfl
   | some ys=>exact aB.2 rfl
theorem aHW(b:Bool)(e:aE)(op:Int)(l:List aE)(h:cL e)(hl:∀ x,x∈l->cL x):Sq b (aMC e op l) (fun y=>y=ofM (jD op l e)):=by
 unfold aMC aMS;refine dL _ _ _ (fun a=>cL a.1/\∀ x,x∈a.2.2->cL x) (fun a=>SizeOf.sizeOf a.1) (fun a y=>y=ofM (jD a.2.1 a.2.2 a.1)) (fun b f a ha hrec=>?_) b (e,op,l) ⟨h,hl⟩;clear h hl e op l;obtain⟨e,op,l⟩:=a;obtain⟨he,hl⟩:=ha;simp only at he hl hrec;obtain⟨hs,hlen,hA⟩:=he.get;have hr:∀ i,i<e.Args.length->Sq b (f.1 (e.Args.getD i default,op,l)) (fun y=>y=ofM (jD op l (e.Args.getD i default))):=fun i hi=>hrec (_,op,l) ⟨hA i hi,hl⟩ (dQ (bS hi));unfold aFQ;simp only[Tr.den];rw[Cw];cases ho:(e.Op==op) with
 | true=>
  simp only[dY];by_cases h1:e.N<0
  ·simp only[h1,decide_true,dY,aI,Bool.true_or];exact aB.2 rfl
  ·by_cases h2:e.N>=(l.length:Int)
   ·simp only[h1,h2,decide_false,decide_true,cS,cO,dY,aI,sV];exact aB.2 rfl
   ·simp only[h1,h2,decide_false,Bool.or_false,cS,cO,aI];rw[aA (by constructor <;> omega)];exact Sq.bind _ (aEC b _ (hl _ (bS (by omega)))) fun r hr=>aB.2 (by rw[hr]; rfl)
 | false=>
  simp only[cS,cO];refine Sq.bind _ (vW e.Args (jD op l) (aE.zero,false) (by omega) (fun acc k hk hal=>?_) (fun acc hal=>?_)) fun z hz=>?_
  ·unfold Dw;simp only[Tr.den,aP];rw[aA (bT (by omega)),aA (by omega)];refine Sq.bind _ (hr k hk) fun r hr=>?_;subst hr;cases jD op l (e.Args.getD k default) with
   | none=>exact aB.2 rfl
   | some y=>simp only[ofM,iZ,cS,cO];rw[aA (by simp only[eJ]; omega)];exact aB.2 rfl
  ·unfold Dw;simp only[Tr.den];rw[aC (bW (by omega))];exact aB.2 rfl
  ·subst hz;cases e.Args.mapM (jD op l) with
   | none=>exact aB.2 rfl
   | some ys=>exact aB.2 rfl
def aNM(e:aE):Bool:=decide (IntKind.i64.wrap (mX e)>1000)
def zI(bs:List (Option aE))(o n:Int)(s:ByteArray)(ys:List aE):Option aE:=match o==22 with
 | true=>match bs.getD n.toNat none with
  | none=>none
  | some b=>some ((jD 4 ys b).getD .zero)
 | false=>some (aE.mk o n s ys)
def tE:Option aE->Option aE
 | none=>none
 | some r=>match aNM r with | true=>none | false=>some r
def hU(bs:List (Option aE)):aE->Option aE
 | .mk o n s xs=>match go xs with
  | none=>none
  | some ys=>tE (zI bs o n s ys)
where go:List aE->Option (List aE)
 | []=>some []
 | x::xs=>match hU bs x with
  | none=>none
  | some y=>(go xs).map (y::·)
theorem Qj(bs:List (Option aE)):∀ xs,hU.go bs xs=xs.mapM (hU bs)
 | []=>rfl
 | x::xs=>by simp only[hU.go,sK,Qj bs xs];cases hU bs x <;> simp <;> cases List.mapM (hU bs) xs <;> rfl
theorem Cc(bs:List (Option aE))(e:aE):hU bs e=match e.Args.mapM (hU bs) with | none=>none | some ys=>tE (zI bs e.Op e.N e.S ys):=by cases e with | mk a b s xs=>simp only[hU,aE.Op,aE.N,aE.S,aE.Args,Qj]
inductive cH (n:Nat):aE->Prop
 | mk {e:aE} (h:e.Op=22->0<=e.N/\e.N<(n:Int)) (hl:∀ i,i<e.Args.length->cH n (e.Args.getD i default)):cH n e
theorem cH.get{n:Nat}{e:aE}(h:cH n e):(e.Op=22->0<=e.N/\e.N<(n:Int))/\∀ i,i<e.Args.length->cH n (e.Args.getD i default):=by cases h with | mk a b=>exact⟨a,b⟩
def toB(x:Option aE):dS:=match x with | some e=>⟨e,true⟩ | none=>⟨.zero,false⟩
def Fv(bs:List (Option aE)):Prop:=∀ y,some y∈bs->cL y
theorem Fv.get{bs:List (Option aE)}(h:Fv bs){y:aE}(hy:bs.getD i none=some y):cL y:=by
 by_cases hi:i<bs.length
 ·refine h y ?_;rw[<-hy,show bs.getD i none=bs[i] by simp[hi]];exact oZ hi
 ·simp[hi]at hy
theorem yP{bs:List (Option aE)}(hb:Fv bs){o:Int}{ys:List aE}(hs:s.size<=1048576)(hn:ys.length<=1048576)(hy:∀ y,y∈ys->cL y){r:aE}(h:zI bs o n s ys=some r):cL r:=by
 unfold zI at h;split at h
 ·split at h
  ·cases h
  ·rename_i q hq;cases h;cases hp:jD 4 ys q with
   | none=>exact cL.zero
   | some z=>exact aCN hy (hb.get hq) z hp
 ·cases h; exact .of hs hn hy
theorem Is{x:Option aE}{r:aE}(h:tE x=some r):x=some r:=by
 unfold tE at h;split at h
 ·cases h
 ·split at h
  ·cases h
  ·exact h
theorem oR{bs:List (Option aE)}(hb:Fv bs){e:aE}(h:cL e):∀ r,hU bs e=some r->cL r:=by
 refine cL.ind (M:=fun e=>∀ r,hU bs e=some r->cL r) (fun e he ih r hr=>?_) h;rw[Cc]at hr;split at hr
 ·cases hr
 ·rename_i ys hys;obtain⟨h1,h2⟩:=oX hys;refine yP hb he.get.1 (by rw[h1]; exact he.get.2.1) (fun y hy=>?_) (Is hr);obtain⟨x,hx,hxy⟩:=h2 y hy;exact(ih x hx).2 y hxy
theorem aFW(bs:List (Option aE))(i:Nat)(h:i<bs.length):(bs.map toB).getD i default=toB (bs.getD i none):=by simp[h]
def Fp(r:aE):Int×Int×ByteArray×List aE:=(r.Op,r.N,r.S,r.Args)
theorem aBV{bs:List (Option aE)}(hb:Fv bs){e:aE}(he:cL e){ys:List aE}(hm:e.Args.mapM (hU bs)=some ys):ys.length<=1048576/\∀ y,y∈ys->cL y:=by obtain⟨h1,h2⟩:=oX hm;refine⟨by rw[h1]; exact he.get.2.1,fun y hy=>?_⟩;obtain⟨x,hx,hxy⟩:=h2 y hy;exact oR hb (he.mem hx) y hxy
theorem Ae(b:Bool){bs:List (Option aE)}(hb:Fv bs)(e:aE)(h:cL e)(hc:cH bs.length e):Sq b (Li e (bs.map toB)) (fun y=>y=toB (hU bs e)):=by
 unfold Li Jj;refine dL _ _ _ (fun a=>cL a.1/\cH bs.length a.1/\a.2=bs.map toB) (fun a=>SizeOf.sizeOf a.1) (fun a y=>y=toB (hU bs a.1)) (fun b f a ha hrec=>?_) b (e,bs.map toB) ⟨h,hc,rfl⟩;clear h hc e;obtain⟨e,l⟩:=a;obtain⟨he,hc,hl⟩:=ha;simp only at he hc hl hrec;subst hl;obtain⟨hs,hlen,hA⟩:=he.get;have hr:∀ i,i<e.Args.length->Sq b (f.1 (e.Args.getD i default,bs.map toB)) (fun y=>y=toB (hU bs (e.Args.getD i default))):=fun i hi=>hrec (_,_) ⟨hA i hi,hc.get.2 i hi,rfl⟩ (dQ (bS hi));unfold Dx;simp only[Tr.den];rw[Cc];refine Sq.bind _ (vW e.Args (hU bs) (toB none) (by omega) (fun acc k hk hal=>?_) (fun acc hal=>?_)) fun z hz=>?_
 ·unfold uG;simp only[Tr.den,aP];rw[aA (bT (by omega)),aA (by omega)];refine Sq.bind _ (hr k hk) fun r hr=>?_;subst hr;cases hU bs (e.Args.getD k default) with
  | none=>exact aB.2 rfl
  | some y=>simp only[toB,iZ,cS,cO];rw[aA (by simp only[eJ]; omega)];exact aB.2 rfl
 ·unfold uG;simp only[Tr.den];rw[aC (bW (by omega))];exact aB.2 rfl
 ·subst hz;cases hm:e.Args.mapM (hU bs) with
  | none=>exact aB.2 rfl
  | some ys=>
   obtain⟨hyl,hyb⟩:=aBV hb he hm;simp only[aNR,sel];refine Sq.bind (fun z=>z=match zI bs e.Op e.N e.S ys with | none=>.inr (toB none) | some r=>.inl (Fp r)) ?_ fun z hz=>?_
   ·unfold zI;cases ho:(e.Op==22) with
    | true=>
     have ho':e.Op=22:=by simpa using ho
     obtain⟨q1,q2⟩:=hc.get.1 ho';have hi:e.N.toNat<bs.length:=by omega
     simp only[dY,oS];rw[aA ⟨q1,q2⟩,aA hi,aFW bs _ hi];cases hbb:bs.getD e.N.toNat none with
     | none=>exact aB.2 rfl
     | some q=>simp only[toB,iZ,cS,cO];refine Sq.bind _ (aHW b q 4 ys (hb.get hbb) hyb) fun r hr=>aB.2 ?_;subst hr;cases jD 4 ys q <;> rfl
    | false=>exact aB.2 rfl
   ·cases hp:zI bs e.Op e.N e.S ys with
    | none=>rw[hp]at hz; subst hz; exact aB.2 rfl
    | some r=>
     rw[hp]at hz; subst hz;have hrb:=yP hb hs hyl hyb hp;simp only[sel,Fp,aE.eta];refine Sq.bind _ (Wb b r 0 hrb) fun m hm=>?_;subst hm;rw[Int.zero_add];simp only[tE,aNM];cases decide (IntKind.i64.wrap (mX r)>1000) with
     | true=>exact aB.2 rfl
     | false=>exact aB.2 rfl
theorem Be(b:Bool){bs:List (Option aE)}(hb:Fv bs)(e:aE)(h:cL e)(hc:cH bs.length e):Sq b (Jk e (bs.map (·.getD .zero)) (bs.map (·.isSome))) (fun y=>y=ofM (hU bs e)):=by
 unfold Jk Ln;refine dL _ _ _ (fun a=>cL a.1/\cH bs.length a.1/\a.2=(bs.map (·.getD .zero),bs.map (·.isSome))) (fun a=>SizeOf.sizeOf a.1) (fun a y=>y=ofM (hU bs a.1)) (fun b f a ha hrec=>?_) b (e,bs.map (·.getD .zero),bs.map (·.isSome)) ⟨h,hc,rfl⟩;clear h hc e;obtain⟨e,l⟩:=a;obtain⟨he,hc,hl⟩:=ha;simp only at he hc hl hrec;subst hl;obtain⟨hs,hlen,hA⟩:=he.get;have hr:∀ i,i<e.Args.length->Sq b (f.1 (e.Args.getD i default,bs.map (·.getD .zero),bs.map (·.isSome))) (fun y=>y=ofM (hU bs (e.Args.getD i default))):=fun i hi=>hrec (_,_) ⟨hA i hi,hc.get.2 i hi,rfl⟩ (dQ (bS hi));unfold Fc;simp only[Tr.den];rw[Cc];refine Sq.bind _ (vW e.Args (hU bs) (ofM none) (by omega) (fun acc k hk hal=>?_) (fun acc hal=>?_)) fun z hz=>?_
 ·unfold tJ;simp only[Tr.den,aP];rw[aA (bT (by omega)),aA (by omega)];refine Sq.bind _ (hr k hk) fun r hr=>?_;subst hr;cases hU bs (e.Args.getD k default) with
  | none=>exact aB.2 rfl
  | some y=>simp only[ofM,iZ,cS,cO];rw[aA (by simp only[eJ]; omega)];exact aB.2 rfl
 ·unfold tJ;simp only[Tr.den];rw[aC (bW (by omega))];exact aB.2 rfl
 ·subst hz;cases hm:e.Args.mapM (hU bs) with
  | none=>exact aB.2 rfl
  | some ys=>
   obtain⟨hyl,hyb⟩:=aBV hb he hm;simp only[aNR,sel];refine Sq.bind (fun z=>z=(ys,e.Op==22)) ?_ fun z hz=>?_
   ·cases ho:(e.Op==22) with
    | true=>
     have ho':e.Op=22:=by simpa using ho
     obtain⟨q1,q2⟩:=hc.get.1 ho';simp only[dY];rw[aA (bT (by omega))];exact aB.2 (by rw[bT (by rw[oS]; exact q2)])
    | false=>exact aB.2 rfl
   subst hz;simp only;refine Sq.bind (fun z=>z=match zI bs e.Op e.N e.S ys with | none=>.inr (ofM none) | some r=>.inl (Fp r)) ?_ fun z hz=>?_
   ·unfold zI;cases ho:(e.Op==22) with
    | true=>
     have ho':e.Op=22:=by simpa using ho
     obtain⟨q1,q2⟩:=hc.get.1 ho';have hi:e.N.toNat<bs.length:=by omega
     simp only[dY,oS];rw[aA ⟨q1,q2⟩,aA hi];have hg1:(bs.map (·.isSome)).getD e.N.toNat default=(bs.getD e.N.toNat none).isSome:=by simp[hi]
     have hg2:(bs.map (·.getD aE.zero)).getD e.N.toNat default=(bs.getD e.N.toNat none).getD .zero:=by simp[hi]
     rw[hg1,hg2];cases hbb:bs.getD e.N.toNat none with
     | none=>exact aB.2 rfl
     | some q=>simp only[Option.isSome_some,iZ,cS,cO,oL];rw[aA ⟨q1,q2⟩,aA hi];refine Sq.bind _ (aHX b q 4 ys (hb.get hbb) hyb) fun r hr=>aB.2 ?_;subst hr;cases jD 4 ys q <;> rfl
    | false=>exact aB.2 rfl
   ·cases hp:zI bs e.Op e.N e.S ys with
    | none=>rw[hp]at hz; subst hz; exact aB.2 rfl
    | some r=>
     rw[hp]at hz; subst hz;have hrb:=yP hb hs hyl hyb hp;simp only[sel,Fp,aE.eta];refine Sq.bind _ (aQU b r hrb) fun m hm=>?_;subst hm;simp only[tE,aNM];cases decide (IntKind.i64.wrap (mX r)>1000) with
     | true=>exact aB.2 rfl
     | false=>exact aB.2 rfl
def dZ(fs:List aO):List (Option aE):=fs.foldl (fun bs f=>bs++[hU bs f.Body]) []
theorem nW(fs:List aO)(f:aO):dZ (fs++[f])=dZ fs++[hU (dZ fs) f.Body]:=by simp[dZ]
theorem lO(fs:List aO):(dZ fs).length=fs.length:=by
 have:∀ (fs:List aO) (bs:List (Option aE)),(fs.foldl (fun bs f=>bs++[hU bs f.Body]) bs).length=bs.length+fs.length:=by
  intro fs
  induction fs with
  | nil=>intro bs; rfl
  | cons f fs ih=>intro bs; simp only[qZ,ih,dB,gP,Ay]; omega
 have h:=this fs [];simpa[dZ] using h
structure eI (fs:List aO):Prop where
 w:∀ i,i<fs.length->cL (fs.getD i default).Body
 calls:∀ i,i<fs.length->cH i (fs.getD i default).Body
 n:fs.length<=100
theorem nY{fs:List aO}(h:eI fs):∀ i,i<=fs.length->Fv (dZ (fs.take i))
 | 0,_=>by intro y hy; simp[dZ]at hy
 | i+1,hi=>by
  intro y hy;have ih:=nY h i (by omega);rw[dM (by omega),nW]at hy;rcases gA.1 hy with hy | hy
  ·exact ih y hy
  ·simp at hy;exact oR ih (h.w i (by omega)) y hy.symm
theorem eI.all(h:eI fs):Fv (dZ fs):=by
 have:=nY h fs.length (eT _)
 rwa [fK (eT _)]at this
theorem aEK(e:aE):aNI e=G80 e:=by
 unfold aNI aON G80 H80;refine Lk _ _ _ _ _ _ (fun f g hfg a=>?_) _;have:∀ s,(Fs f a s).den=(wJ g a s).den:=fun s=>by obtain⟨v1,v2⟩:=s;unfold Fs wJ;simp only[Tr.den,hfg]
 unfold aGY T80;simp only[Tr.den,this]
noncomputable def Lw (e:aE):Int:=(G80 e).getD 0
theorem aAC(b:Bool){e:aE}(h:cL e):Sq b (G80 e) (fun y=>y=Lw e):=by obtain⟨y,hy,_⟩:=(Pf e h).get;unfold Lw;rw[hy]; exact aB.2 rfl
noncomputable def hD (fs:List aO)(e:aE):Option aE:=match hU (dZ fs) e with | none=>none | some r=>match decide (Lw r>12) with | true=>none | false=>some r
theorem uN(h:eI fs){e:aE}(he:cL e){r:aE}(hr:hD fs e=some r):cL r:=by
 unfold hD at hr;split at hr
 ·cases hr
 ·rename_i r' hr';split at hr
  ·cases hr
  ·cases hr; exact oR h.all he r hr'
theorem Sc(b:Bool)(h:eI fs){e:aE}(he:cL e)(hc:cH fs.length e):Sq b (aMI fs e) (fun y=>y=ofM (hD fs e)):=by
 have hn:=h.n;unfold aMI aMD;simp only[Tr.den];refine Sq.bind (fun z=>z = .inl ((dZ fs).map toB)) (cB (fun s=>s.2) fs.length (by omega) (fun s=>s.1=(dZ (fs.take s.2.toNat)).map toB) (fun s k hI hk hkN=>?_) rfl rfl) fun z hz=>?_
 ·obtain⟨v1,v2⟩:=s;simp only at hk hI;subst hk;simp only[aP]at hI;subst hI;have hlen:(dZ (fs.take k)).length=k:=by rw[lO,dC]; omega
  unfold Nz;simp only[Tr.den,aP];by_cases hk:k<fs.length
  ·rw[aA (bT (by omega)),aA (by omega)];refine Sq.bind _ (Ae b (nY h k (by omega)) _ (h.w k hk) (by rw[hlen]; exact h.calls k hk)) fun r hr=>?_;subst hr;rw[aA (by rw[oS,hlen,eJ]; omega)];refine aB.2 ⟨rfl,hk,?_⟩;simp only;rw[bF (by omega),aP,dM hk,nW,Aw];rfl
  ·rw[aC (bW (by omega))];refine aB.2 ?_;simp only[sel];rw[fK (by omega)]
 ·subst hz;simp only[sel];refine Sq.bind _ (Ae b h.all e he (by rw[lO]; exact hc)) fun r hr=>?_;subst hr;unfold hD;cases hi:hU (dZ fs) e with
  | none=>exact aB.2 rfl
  | some r=>
   simp only[toB,iZ,cS,cO];refine Sq.bind (fun z=>z=decide (Lw r>12)) ?_ fun z hz=>?_
   ·rw[aEK];exact Sq.bind _ (aAC b (oR h.all he r hi)) fun m hm=>aB.2 (by rw[hm])
   ·subst hz;cases decide (Lw r>12) with
    | true=>exact aB.2 rfl
    | false=>exact aB.2 rfl
theorem Ol(b:Bool)(h:eI fs){e:aE}(he:cL e)(hc:cH fs.length e):Sq b (aPE fs e) (fun y=>y=ofM (hD fs e)):=by
 have hn:=h.n;unfold aPE aMB;simp only[Tr.den];refine Sq.bind (fun z=>z = .inl ((dZ fs).map (·.getD .zero),(dZ fs).map (·.isSome))) (cB (fun s=>s.2.2) fs.length (by omega)
  (fun s=>s.1=(dZ (fs.take s.2.2.toNat)).map (·.getD .zero)/\s.2.1=(dZ (fs.take s.2.2.toNat)).map (·.isSome)) (fun s k hI hk hkN=>?_) ⟨rfl,rfl⟩ rfl) fun z hz=>?_
 ·obtain⟨v1,v2,v3⟩:=s;simp only at hk hI;subst hk;simp only[aP]at hI;obtain⟨rfl,rfl⟩:=hI;have hlen:(dZ (fs.take k)).length=k:=by rw[lO,dC]; omega
  unfold Qf;simp only[Tr.den,aP];by_cases hk:k<fs.length
  ·rw[aA (bT (by omega)),aA (by omega)];refine Sq.bind _ (Be b (nY h k (by omega)) _ (h.w k hk) (by rw[hlen]; exact h.calls k hk)) fun r hr=>?_;subst hr;rw[aA (by rw[oS,hlen,eJ]; omega),aA (by rw[oS,hlen,eJ]; omega)];refine aB.2 ⟨rfl,hk,?_⟩;simp only;rw[bF (by omega),aP,dM hk,nW,Aw,Aw];cases hU (dZ (fs.take k)) (fs.getD k default).Body <;> exact⟨rfl,rfl⟩
  ·rw[aC (bW (by omega))];refine aB.2 ?_;simp only[sel];rw[fK (by omega)]
 ·subst hz;simp only[sel];refine Sq.bind _ (Be b h.all e he (by rw[lO]; exact hc)) fun r hr=>?_;subst hr;unfold hD;cases hi:hU (dZ fs) e with
  | none=>exact aB.2 rfl
  | some r=>
   simp only[ofM,iZ,cS,cO];refine Sq.bind (fun z=>z=decide (Lw r>12)) ?_ fun z hz=>?_
   ·exact Sq.bind _ (aAC b (oR h.all he r hi)) fun m hm=>aB.2 (by rw[hm])
   ·subst hz;cases decide (Lw r>12) with
    | true=>exact aB.2 rfl
    | false=>exact aB.2 rfl
def eqR(t:Bool):Unit⊕Bool:=match t with | true=>.inl () | false=>.inr false
theorem oU{A B:Type}[Inhabited A][Inhabited B]{b:Bool}{l:List A}{r:List B}{bd:Int->Option (Int⊕(Unit⊕Bool))}(p:A->B->Bool)(hN:l.length<=1000000000000)(hl:l.length=r.length)
  (h:∀ k:Nat,k<l.length->Sq b (bd (k:Int)) (fun z=>z=match p (l.getD k default) (r.getD k default) with | true=>.inl (IntKind.i64.wrap ((k:Int)+1)) | false=>.inr (.inr false)))
  (hf:Sq b (bd (l.length:Int)) (fun z=>z = .inr (.inl ()))):Sq b (cE bd 0) (fun z=>z=eqR (dG p l r)):=by
 refine cB (fun s:Int=>s) l.length (by omega) (fun s=>∀ i:Nat,(i:Int)<s->p (l.getD i default) (r.getD i default)=true) (fun s k hI hk hkN=>?_) (fun i hi=>by omega) rfl;subst hk;by_cases hc:k<l.length
 ·refine(h k hc).imp fun z hz=>?_;subst hz;cases hx:p (l.getD k default) (r.getD k default) with
  | false=>
   simp only[sel];have:dG p l r=false:=by
    cases ha:dG p l r with
    | false=>rfl
    | true=>have:=(mS.1 ha).2 k hc;rw[hx]at this; cases this
   rw[this]; rfl
  | true=>
   simp only[sel];refine⟨trivial,hc,fun i hi=>?_⟩;rw[bF (by omega)]at hi;by_cases hik:i=k
   ·subst hik; exact hx
   ·exact hI i (by omega)
 ·have:k=l.length:=by omega
  subst this;refine hf.imp fun z hz=>?_;subst hz;simp only[sel];rw[mS.2 ⟨hl,fun i hi=>hI i (by omega)⟩]; rfl
theorem gS{A B:Type}[Inhabited A][Inhabited B]{b:Bool}{l:List A}{r:List B}{bd:Int->Option (Int⊕(Unit⊕Bool))}(p:A->B->Bool)(hN:l.length<=1000000000000)
  (h:l.length=r.length->∀ k:Nat,k<l.length->Sq b (bd (k:Int)) (fun z=>z=match p (l.getD k default) (r.getD k default) with | true=>.inl (IntKind.i64.wrap ((k:Int)+1)) | false=>.inr (.inr false)))
  (hf:Sq b (bd (l.length:Int)) (fun z=>z = .inr (.inl ()))):
  Sq b (if ((l.length:Int) != (r.length:Int))=true then some false else (cE bd 0).bind (sel (fun _=>some true) some)) (fun z=>z=dG p l r):=by
 by_cases hl:l.length=r.length
 ·rw[aC (by simp[hl])];refine Sq.bind _ (oU p hN hl (h hl) hf) fun z hz=>?_;subst hz;cases dG p l r <;> exact aB.2 rfl
 ·rw[aA (by simp; omega)];refine aB.2 ?_;unfold dG;simp[hl]
theorem vQ(b:Bool)(l r:List Int)(hN:l.length<=1000000000000):Sq b (aLT l r) (fun z=>z=dG (fun x y=>x==y) l r):=by
 unfold aLT aRB;simp only[Tr.den];refine gS _ hN (fun hl k hk=>?_) ?_
 ·unfold Ef;simp only[Tr.den,aP];rw[aA (bT (by omega)),aA (by omega),aA (by omega)];by_cases hx:l.getD k default=r.getD k default
  ·rw[aC (sD hx),oI hx]; exact aB.2 rfl
  ·rw[aA (sF hx)];have:(l.getD k default==r.getD k default)=false:=by simpa using hx
   rw[this]; exact aB.2 rfl
 ·unfold Ef;simp only[Tr.den];rw[aC (bW (by omega))];exact aB.2 rfl
theorem vT(b:Bool)(l r:List Int)(hN:l.length<=1000000000000):Sq b (aPY l r) (fun z=>z=dG (fun x y=>x==y) l r):=by
 unfold aPY aQL;simp only[Tr.den];refine gS _ hN (fun hl k hk=>?_) ?_
 ·unfold Fl;simp only[Tr.den,aP];rw[aA (bT (by omega)),aA (by omega),aA (by omega)];by_cases hx:l.getD k default=r.getD k default
  ·rw[aC (sD hx),oI hx]; exact aB.2 rfl
  ·rw[aA (sF hx)];have:(l.getD k default==r.getD k default)=false:=by simpa using hx
   rw[this]; exact aB.2 rfl
 ·unfold Fl;simp only[Tr.den];rw[aC (bW (by omega))];exact aB.2 rfl
open Classical in
noncomputable def gT (e e':aE):Bool:=decide (e=e')
theorem Um{l r:List aE}:dG gT l r=true↔l=r:=by
 rw[mS];constructor
 ·rintro⟨h1,h2⟩;exact yI h1 fun k hk=>by have:=h2 k hk; simpa[gT] using this
 ·rintro rfl; exact⟨rfl,fun i _=>by simp[gT]⟩
theorem aIB{b:ByteArray}:(a.toList==b.toList)=true↔a=b:=by
 constructor
 ·intro h;exact mA (wZ h)
 ·rintro rfl; simp
theorem Gi(e e':aE):gT e e'=(e.Op==e'.Op&&(e.N==e'.N&&((e.S:ByteArray).toList==(e'.S:ByteArray).toList&&dG gT e.Args e'.Args))):=by
 rw[qV];simp only[cJ,Um,lQ];simp only[gT,kP];constructor
 ·rintro rfl; exact⟨rfl,rfl,rfl,rfl⟩
 ·rintro⟨h1,h2,h3,h4⟩;rw[<-aE.eta e,<-aE.eta e',h1,h2,aIB.1 (lQ.2 h3),h4]
theorem aEP(b:Bool)(e e':aE)(h:cL e):Sq b (aPN e e') (fun y=>y=gT e e'):=by
 unfold aPN aPO;refine dL _ _ _ (fun a=>cL a.1) (fun a=>SizeOf.sizeOf a.1) (fun a y=>y=gT a.1 a.2) (fun b f a ha hrec=>?_) b (e,e') h;clear h e e';obtain⟨e,e'⟩:=a;simp only at ha hrec;obtain⟨hs,hl,hA⟩:=ha.get;have hr:∀ i,i<e.Args.length->∀ x,Sq b (f.1 (e.Args.getD i default,x)) (fun y=>y=gT (e.Args.getD i default) x):=fun i hi x=>hrec (_,x) (hA i hi) (dQ (bS hi));have hin:Sq b (Ni f e.Args e'.Args) (fun z=>z=dG gT e.Args e'.Args):=by
  unfold Ni Kz;simp only[Tr.den];refine gS _ (by omega) (fun hl k hk=>?_) ?_
  ·unfold tT;simp only[Tr.den,aP];rw[aA (bT (by omega)),aA (by omega),aA (by omega)];refine Sq.bind _ (hr k hk _) fun r hr=>?_;subst hr;cases gT (e.Args.getD k default) (e'.Args.getD k default) <;> exact aB.2 rfl
  ·unfold tT;simp only[Tr.den];rw[aC (bW (by omega))];exact aB.2 rfl
 unfold aKI;simp only[Tr.den];rw[Gi];generalize (e.Op==e'.Op)=c1;generalize (e.N==e'.N)=c2;generalize ((e.S:ByteArray).toList==(e'.S:ByteArray).toList)=c3;refine Sq.bind (fun z=>z=(c1&&(c2&&(c3&&dG gT e.Args e'.Args)))) ?_ fun z hz=>aB.2 hz;cases c1 <;> cases c2 <;> cases c3 <;> first | exact aB.2 rfl | exact Sq.bind _ hin fun z hz=>aB.2 hz
theorem aHP(b:Bool)(e e':aE)(h:cL e):Sq b (aRH e e') (fun y=>y=gT e e'):=by
 unfold aRH aOZ;refine dL _ _ _ (fun a=>cL a.1) (fun a=>SizeOf.sizeOf a.1) (fun a y=>y=gT a.1 a.2) (fun b f a ha hrec=>?_) b (e,e') h;clear h e e';obtain⟨e,e'⟩:=a;simp only at ha hrec;obtain⟨hs,hl,hA⟩:=ha.get;have hr:∀ i,i<e.Args.length->∀ x,Sq b (f.1 (e.Args.getD i default,x)) (fun y=>y=gT (e.Args.getD i default) x):=fun i hi x=>hrec (_,x) (hA i hi) (dQ (bS hi));unfold aEE;simp only[Tr.den];rw[Gi];have hin:e.Args.length=e'.Args.length->Sq b ((cE (fun s=>(vR f e e' s).den) 0).bind (sel (fun _=>some true) some)) (fun z=>z=dG gT e.Args e'.Args):=fun hlen=>by
  refine Sq.bind _ (oU gT (by omega) hlen (fun k hk=>?_) ?_) fun z hz=>?_
  ·unfold vR;simp only[Tr.den,aP];rw[aA (bT (by omega)),aA (by omega),aA (by omega)];refine Sq.bind _ (hr k hk _) fun r hr=>?_;subst hr;cases gT (e.Args.getD k default) (e'.Args.getD k default) <;> exact aB.2 rfl
  ·unfold vR;simp only[Tr.den];rw[aC (bW (by omega))];exact aB.2 rfl
  ·subst hz;cases dG gT e.Args e'.Args <;> exact aB.2 rfl
 have hne:e.Args.length≠e'.Args.length->dG gT e.Args e'.Args=false:=fun h=>by unfold dG; simp[h]
 have e1:(e.Op != e'.Op) = !(e.Op==e'.Op):=rfl;have e2:(e.N != e'.N) = !(e.N==e'.N):=rfl;rw[e1,e2];generalize (e.Op==e'.Op)=c1;generalize (e.N==e'.N)=c2;generalize ((e.S:ByteArray).toList==(e'.S:ByteArray).toList)=c3;refine Sq.bind (fun z=>z=(!(c1&&(c2&&c3)) || ((e.Args.length:Int) != (e'.Args.length:Int)))) ?_ fun z hz=>?_
 ·cases c1 <;> cases c2 <;> cases c3 <;> exact aB.2 (by simp)
 ·subst hz;by_cases hlen:e.Args.length=e'.Args.length
  ·have:((e.Args.length:Int) != (e'.Args.length:Int))=false:=by simp[hlen]
   rw[this,Bool.or_false];have h1:=hin hlen;generalize dG gT e.Args e'.Args=t at h1 ⊢;cases c1 <;> cases c2 <;> cases c3 <;> simp only[jC,Bool.false_and,iZ,Bool.not_false,cS,cO,dY] <;> first | exact aB.2 rfl | exact h1
  ·have:((e.Args.length:Int) != (e'.Args.length:Int))=true:=by simp; omega
   rw[this,sV,hne hlen];simp only[dY,Bool.and_false];exact aB.2 rfl
noncomputable def eB (fs gs:List aO)(e e':aE):Bool:=match hD fs e,hD gs e' with
 | some x,some y=>gT x y
 | _,_=>false
theorem Au(b:Bool){A B:aD}(hf:eI A.Funcs)(hg:eI B.Funcs){e e':aE}(he:cL e)(he':cL e')(hc:cH A.Funcs.length e)(hc':cH B.Funcs.length e'):
  Sq b (Mk e e' A B m) (fun z=>z=eB A.Funcs B.Funcs e e'):=by
 unfold Mk Lj;simp only[Tr.den];refine Sq.bind _ (Sc b hf he hc) fun r hr=>Sq.bind _ (Sc b hg he' hc') fun r' hr'=>?_;subst hr hr';unfold eB;cases h1:hD A.Funcs e with
 | none=>exact aB.2 rfl
 | some u=>
  cases h2:hD B.Funcs e' with
  | none=>exact aB.2 rfl
  | some v=>simp only[ofM,dY];exact dT.2 (Sq.bind _ (aEP b u v (uN hf he h1)) fun z hz=>aB.2 (aB.2 hz))
theorem Ny(b:Bool){A B:aD}(hf:eI A.Funcs)(hg:eI B.Funcs){e e':aE}(he:cL e)(he':cL e')(hc:cH A.Funcs.length e)(hc':cH B.Funcs.length e'):
  Sq b (aPT A e B e') (fun z=>z=eB A.Funcs B.Funcs e e'):=by
 unfold aPT aPF;simp only[Tr.den];refine Sq.bind _ (Ol b hf he hc) fun r hr=>Sq.bind _ (Ol b hg he' hc') fun r' hr'=>?_;subst hr hr';unfold eB;cases h1:hD A.Funcs e with
 | none=>exact aB.2 rfl
 | some u=>
  cases h2:hD B.Funcs e' with
  | none=>exact aB.2 rfl
  | some v=>simp only[ofM,dY];exact dT.2 (Sq.bind _ (aHP b u v (uN hf he h1)) fun z hz=>aB.2 (aB.2 hz))
structure Hb (fs:List aO)(a:aG):Prop where
 expr:∀ i,i<a.Exprs.length->cL (a.Exprs.getD i default)/\cH fs.length (a.Exprs.getD i default)
 pred:∀ i,i<a.Seq.length->cL (a.Seq.getD i default).Pred/\cH fs.length (a.Seq.getD i default).Pred
 nI:a.In.length<=1048576
 nE:a.Exprs.length<=1048576
 nK:a.Key.length<=1048576
 nK2:a.Key2.length<=1048576
 nA:a.Aggs.length<=1048576
 nS:a.Seq.length<=1048576
 nC:a.Cols.length<=1048576
noncomputable def hP (fs gs:List aO)(a b:gZ):Bool:=a.Rep==b.Rep&&eB fs gs a.Pred b.Pred
def gB(a b:fM):Bool:=a.Kind==b.Kind&&a.Col==b.Col
def jY(a b:cU):Bool:=a.Type_==b.Type_
abbrev eqI (l r:List Int):Bool:=dG (fun x y=>x==y) l r
noncomputable def qB (fs gs:List aO)(a b:aG):Bool:=
 ([a.Op,a.Schema,a.Kind,a.Size,a.Step,a.Before,a.After,a.Keep]:List Int)==[b.Op,b.Schema,b.Kind,b.Size,b.Step,b.Before,b.After,b.Keep]&&((a.Source:ByteArray).toList==(b.Source:ByteArray).toList &&
  ((eqI a.Key b.Key&&(eqI a.Key2 b.Key2&&dG (eB fs gs) a.Exprs b.Exprs))&&(dG gB a.Aggs b.Aggs&&(dG (hP fs gs) a.Seq b.Seq&&(a.Op != 0 || dG jY a.Cols b.Cols)))))
theorem aET(x y:fM):aPP x y=some (gB x y):=by unfold aPP aNA gB;simp only[Tr.den];cases (x.Kind==y.Kind) <;> rfl
theorem aJQ(x y:cU):aTB x y=some (jY x y):=rfl
theorem Ua(b:Bool){A B:aD}(hf:eI A.Funcs)(hg:eI B.Funcs){q q':gZ}(he:cL q.Pred/\cH A.Funcs.length q.Pred)(he':cL q'.Pred/\cH B.Funcs.length q'.Pred):
  Sq b (Mj q q' A B m) (fun z=>z=hP A.Funcs B.Funcs q q'):=by
 unfold Mj Kq hP;simp only[Tr.den];refine Sq.bind (fun z=>z=(q.Rep==q'.Rep&&eB A.Funcs B.Funcs q.Pred q'.Pred)) ?_ fun z hz=>aB.2 hz;cases (q.Rep==q'.Rep)
 ·exact aB.2 rfl
 ·exact Sq.bind _ (Au b hf hg he.1 he'.1 he.2 he'.2) fun z hz=>aB.2 hz
theorem Ug(b:Bool){A B:aD}(hf:eI A.Funcs)(hg:eI B.Funcs){m:List (List Int×Bool)}{n n':aG}(hn:Hb A.Funcs n)(hn':Hb B.Funcs n'):
  Sq b (Mw n n' A B m) (fun z=>z=qB A.Funcs B.Funcs n n'):=by
 have nE:=hn.nE; have nK:=hn.nK; have nK2:=hn.nK2; have nA:=hn.nA; have nS:=hn.nS; have nC:=hn.nC;have e1:Sq b (Lo n.Exprs n'.Exprs A B m) (fun z=>z=dG (eB A.Funcs B.Funcs) n.Exprs n'.Exprs):=by
  unfold Lo Kb;simp only[Tr.den];refine gS _ (by omega) (fun hl k hk=>?_) ?_
  ·unfold tY;simp only[Tr.den,aP];rw[aA (bT (by omega)),aA (by omega),aA (by omega)];refine Sq.bind _ (Au b hf hg (hn.expr k hk).1 (hn'.expr k (by omega)).1 (hn.expr k hk).2 (hn'.expr k (by omega)).2) fun r hr=>?_;subst hr;cases eB A.Funcs B.Funcs (n.Exprs.getD k default) (n'.Exprs.getD k default) <;> exact aB.2 rfl
  ·unfold tY;simp only[Tr.den];rw[aC (bW (by omega))];exact aB.2 rfl
 have e2:Sq b (Kt n.Aggs n'.Aggs) (fun z=>z=dG gB n.Aggs n'.Aggs):=by
  unfold Kt Jq;simp only[Tr.den];refine gS _ (by omega) (fun hl k hk=>?_) ?_
  ·unfold uF;simp only[Tr.den,aP,aET,aI];rw[aA (bT (by omega)),aA (by omega),aA (by omega)];cases gB (n.Aggs.getD k default) (n'.Aggs.getD k default) <;> exact aB.2 rfl
  ·unfold uF;simp only[Tr.den];rw[aC (bW (by omega))];exact aB.2 rfl
 have e3:Sq b (Nv n.Seq n'.Seq A B m) (fun z=>z=dG (hP A.Funcs B.Funcs) n.Seq n'.Seq):=by
  unfold Nv Kk;simp only[Tr.den];refine gS _ (by omega) (fun hl k hk=>?_) ?_
  ·unfold tP;simp only[Tr.den,aP];rw[aA (bT (by omega)),aA (by omega),aA (by omega)];refine Sq.bind _ (Ua b hf hg (hn.pred k hk) (hn'.pred k (by omega))) fun r hr=>?_;subst hr;cases hP A.Funcs B.Funcs (n.Seq.getD k default) (n'.Seq.getD k default) <;> exact aB.2 rfl
  ·unfold tP;simp only[Tr.den];rw[aC (bW (by omega))];exact aB.2 rfl
 have e4:Sq b (Ll n.Cols n'.Cols) (fun z=>z=dG jY n.Cols n'.Cols):=by
  unfold Ll Jf;simp only[Tr.den];refine gS _ (by omega) (fun hl k hk=>?_) ?_
  ·unfold tG;simp only[Tr.den,aP,aJQ,aI];rw[aA (bT (by omega)),aA (by omega),aA (by omega)];cases jY (n.Cols.getD k default) (n'.Cols.getD k default) <;> exact aB.2 rfl
  ·unfold tG;simp only[Tr.den];rw[aC (bW (by omega))];exact aB.2 rfl
 have k1:=vQ b n.Key n'.Key (by omega);have k2:=vQ b n.Key2 n'.Key2 (by omega);unfold Mw Nk;simp only[Tr.den];unfold qB eqI;generalize dG (fun x y=>x==y) n.Key n'.Key=t1 at k1 ⊢;generalize dG (fun x y=>x==y) n.Key2 n'.Key2=t2 at k2 ⊢;generalize dG (eB A.Funcs B.Funcs) n.Exprs n'.Exprs=t3 at e1 ⊢;generalize dG gB n.Aggs n'.Aggs=t4 at e2 ⊢;generalize dG (hP A.Funcs B.Funcs) n.Seq n'.Seq=t5 at e3 ⊢;generalize dG jY n.Cols n'.Cols=t6 at e4 ⊢;refine Sq.bind _ k1 fun z hz=>?_;rw[hz]; clear hz z;refine Sq.bind (fun z=>z=(t1&&(t2&&t3))) ?_ fun z hz=>?_
 ·cases t1
  ·exact aB.2 rfl
  ·refine Sq.bind _ k2 fun z hz=>?_;rw[hz]; clear hz z;cases t2
   ·exact aB.2 rfl
   ·exact Sq.bind _ e1 fun z hz=>aB.2 hz
 rw[hz]; clear hz z;refine Sq.bind _ e2 fun z hz=>Sq.bind _ e3 fun z' hz'=>?_;rw[hz,hz']; clear hz hz' z z';refine Sq.bind (fun z=>z=(n.Op != 0 || t6)) ?_ fun z hz=>?_
 ·cases (n.Op != 0)
  ·exact Sq.bind _ e4 fun z hz=>aB.2 hz
  ·exact aB.2 rfl
 rw[hz]; clear hz z;simp only[aSY,aRL,Tr.den,aI];generalize (([n.Op,n.Schema,n.Kind,n.Size,n.Step,n.Before,n.After,n.Keep]:List Int)==[n'.Op,n'.Schema,n'.Kind,n'.Size,n'.Step,n'.Before,n'.After,n'.Keep])=s1;generalize ((n.Source:ByteArray).toList==(n'.Source:ByteArray).toList)=s2;generalize (t1&&(t2&&t3))=s3;generalize (n.Op != 0 || t6)=s4;cases s1 <;> cases s2 <;> cases s3 <;> cases t4 <;> cases t5 <;> exact aB.2 rfl
theorem eq8(a b:aG):(([a.Op,a.Schema,a.Kind,a.Size,a.Step,a.Before,a.After,a.Keep]:List Int)==[b.Op,b.Schema,b.Kind,b.Size,b.Step,b.Before,b.After,b.Keep]) =
  ((a.Op==b.Op&&(a.Schema==b.Schema&&(a.Kind==b.Kind&&(a.Size==b.Size&&a.Step==b.Step))))&&(a.Before==b.Before&&(a.After==b.After&&a.Keep==b.Keep))):=by
 rw[qV];simp;constructor
 ·rintro⟨h1,h2,h3,h4,h5,h6,h7,h8⟩; exact⟨⟨h1,h2,h3,h4,h5⟩,h6,h7,h8⟩
 ·rintro⟨⟨h1,h2,h3,h4,h5⟩,h6,h7,h8⟩; exact⟨h1,h2,h3,h4,h5,h6,h7,h8⟩
theorem vS{A B:Type}[Inhabited A][Inhabited B]{p:A->B->Bool}{l:List A}{r:List B}(h:l.length≠r.length):dG p l r=false:=by unfold dG; simp[h]
theorem aFA(b:Bool){A B:aD}(hf:eI A.Funcs)(hg:eI B.Funcs){n n':aG}(hn:Hb A.Funcs n)(hn':Hb B.Funcs n'):
  Sq b (aLP A n B n') (fun z=>z=qB A.Funcs B.Funcs n n'):=by
 have nE:=hn.nE; have nK:=hn.nK; have nK2:=hn.nK2; have nA:=hn.nA; have nS:=hn.nS; have nC:=hn.nC;have k1:=vT b n.Key n'.Key (by omega);have k2:=vT b n.Key2 n'.Key2 (by omega);unfold aLP aNS;simp only[Tr.den];refine Sq.bind (fun z=>z=((n.Op==n'.Op&&(n.Schema==n'.Schema&&(n.Kind==n'.Kind&&(n.Size==n'.Size&&n.Step==n'.Step))))&&((n.Source:ByteArray).toList==(n'.Source:ByteArray).toList))) ?_ fun z hz=>?_
 ·generalize (n.Op==n'.Op)=c1;generalize (n.Schema==n'.Schema)=c2;generalize (n.Kind==n'.Kind)=c3;generalize (n.Size==n'.Size)=c4;generalize (n.Step==n'.Step)=c5;generalize ((n.Source:ByteArray).toList==(n'.Source:ByteArray).toList)=c6;cases c1 <;> cases c2 <;> cases c3 <;> cases c4 <;> cases c5 <;> cases c6 <;> exact aB.2 rfl
 rw[hz]; clear hz z;refine Sq.bind (fun z=>z=((n.Before==n'.Before&&(n.After==n'.After&&n.Keep==n'.Keep))&&(eqI n.Key n'.Key&&eqI n.Key2 n'.Key2))) ?_ fun z hz=>?_
 ·unfold eqI;generalize dG (fun x y=>x==y) n.Key n'.Key=t1 at k1 ⊢;generalize dG (fun x y=>x==y) n.Key2 n'.Key2=t2 at k2 ⊢;generalize (n.Before==n'.Before)=c1;generalize (n.After==n'.After)=c2;generalize (n.Keep==n'.Keep)=c3;cases c1 <;> cases c2 <;> cases c3 <;> first | exact aB.2 rfl | skip
  refine Sq.bind _ k1 fun z hz=>?_;rw[hz]; clear hz z;cases t1
  ·exact aB.2 rfl
  ·exact Sq.bind _ k2 fun z hz=>aB.2 hz
 rw[hz]; clear hz z;unfold qB;rw[eq8];generalize (n.Op==n'.Op&&(n.Schema==n'.Schema&&(n.Kind==n'.Kind&&(n.Size==n'.Size&&n.Step==n'.Step))))=c1;generalize (n.Before==n'.Before&&(n.After==n'.After&&n.Keep==n'.Keep))=c2;generalize ((n.Source:ByteArray).toList==(n'.Source:ByteArray).toList)=c3;generalize eqI n.Key n'.Key=t1;generalize eqI n.Key2 n'.Key2=t2;refine Sq.bind (fun z=>z=(!(c1&&c3) || (!(c2&&(t1&&t2)) || (((n.Exprs.length:Int) != (n'.Exprs.length:Int)) || (((n.Aggs.length:Int) != (n'.Aggs.length:Int)) || ((n.Seq.length:Int) != (n'.Seq.length:Int))))))) ?_ fun z hz=>?_
 ·generalize (c1&&c3)=d1;generalize (c2&&(t1&&t2))=d2;generalize ((n.Exprs.length:Int) != (n'.Exprs.length:Int))=d3;generalize ((n.Aggs.length:Int) != (n'.Aggs.length:Int))=d4;generalize ((n.Seq.length:Int) != (n'.Seq.length:Int))=d5;cases d1 <;> cases d2 <;> cases d3 <;> cases d4 <;> cases d5 <;> exact aB.2 rfl
 rw[hz]; clear hz z;by_cases hE:n.Exprs.length=n'.Exprs.length
 case neg=>
  have h1:((n.Exprs.length:Int) != (n'.Exprs.length:Int))=true:=by simp; omega
  rw[h1,vS hE];simp only[Bool.true_or,sV,dY];refine aB.2 ?_;cases c1 <;> cases c2 <;> cases c3 <;> cases t1 <;> cases t2 <;> rfl
 by_cases hAg:n.Aggs.length=n'.Aggs.length
 case neg=>
  have h1:((n.Aggs.length:Int) != (n'.Aggs.length:Int))=true:=by simp; omega
  rw[h1,vS hAg];simp only[Bool.true_or,sV,dY];refine aB.2 ?_;generalize dG (eB A.Funcs B.Funcs) n.Exprs n'.Exprs=t3;cases c1 <;> cases c2 <;> cases c3 <;> cases t1 <;> cases t2 <;> cases t3 <;> rfl
 by_cases hS:n.Seq.length=n'.Seq.length
 case neg=>
  have h1:((n.Seq.length:Int) != (n'.Seq.length:Int))=true:=by simp; omega
  rw[h1,vS hS];simp only[sV,dY];refine aB.2 ?_;generalize dG (eB A.Funcs B.Funcs) n.Exprs n'.Exprs=t3;generalize dG gB n.Aggs n'.Aggs=t4;cases c1 <;> cases c2 <;> cases c3 <;> cases t1 <;> cases t2 <;> cases t3 <;> cases t4 <;> rfl
 have h1:((n.Exprs.length:Int) != (n'.Exprs.length:Int))=false:=by simp[hE]
 have h2:((n.Aggs.length:Int) != (n'.Aggs.length:Int))=false:=by simp[hAg]
 have h3:((n.Seq.length:Int) != (n'.Seq.length:Int))=false:=by simp[hS]
 rw[h1,h2,h3];simp only[Bool.or_false];have e1:=oU (b:=b) (bd:=fun s=>(vU A n B n' s).den) (eB A.Funcs B.Funcs) (by omega) hE (fun k hk=>by
  unfold vU;simp only[Tr.den,aP];rw[aA (bT (by omega)),aA (by omega),aA (by omega)];refine Sq.bind _ (Ny b hf hg (hn.expr k hk).1 (hn'.expr k (by omega)).1 (hn.expr k hk).2 (hn'.expr k (by omega)).2) fun r hr=>?_;rw[hr]; clear hr r;cases eB A.Funcs B.Funcs (n.Exprs.getD k default) (n'.Exprs.getD k default) <;> exact aB.2 rfl) (by
  unfold vU;simp only[Tr.den];rw[aC (bW (by omega))];exact aB.2 rfl)
 have e2:=oU (b:=b) (bd:=fun s=>(wA A n B n' s).den) gB (by omega) hAg (fun k hk=>by
  unfold wA;simp only[Tr.den,aP];rw[aA (bT (by omega)),aA (by omega),aA (by omega)];by_cases hK:(n.Aggs.getD k default).Kind=(n'.Aggs.getD k default).Kind
  ·rw[aC (sD hK),aA (by omega),aA (by omega)];by_cases hC:(n.Aggs.getD k default).Col=(n'.Aggs.getD k default).Col
   ·rw[show gB (n.Aggs.getD k default) (n'.Aggs.getD k default)=true by unfold gB; rw[oI hK,oI hC]; rfl,show ((n.Aggs.getD k default).Col != (n'.Aggs.getD k default).Col)=false by simpa using hC];exact aB.2 rfl
   ·rw[show gB (n.Aggs.getD k default) (n'.Aggs.getD k default)=false by unfold gB; rw[oI hK,show ((n.Aggs.getD k default).Col==(n'.Aggs.getD k default).Col)=false by simpa using hC]; rfl,sF hC];exact aB.2 rfl
  ·rw[aA (sF hK),show gB (n.Aggs.getD k default) (n'.Aggs.getD k default)=false by unfold gB; rw[show ((n.Aggs.getD k default).Kind==(n'.Aggs.getD k default).Kind)=false by simpa using hK]; rfl];exact aB.2 rfl) (by
  unfold wA;simp only[Tr.den];rw[aC (bW (by omega))];exact aB.2 rfl)
 have e3:=oU (b:=b) (bd:=fun s=>(vV A n B n' s).den) (hP A.Funcs B.Funcs) (by omega) hS (fun k hk=>by
  unfold vV;simp only[Tr.den,aP];rw[aA (bT (by omega)),aA (by omega),aA (by omega)];have h1:=Ny b hf hg (hn.pred k hk).1 (hn'.pred k (by omega)).1 (hn.pred k hk).2 (hn'.pred k (by omega)).2;by_cases hK:(n.Seq.getD k default).Rep=(n'.Seq.getD k default).Rep
  ·rw[aC (sD hK),aA (by omega),aA (by omega),show hP A.Funcs B.Funcs (n.Seq.getD k default) (n'.Seq.getD k default)=eB A.Funcs B.Funcs (n.Seq.getD k default).Pred (n'.Seq.getD k default).Pred by unfold hP; rw[oI hK]; rfl];refine dT.2 (Sq.bind _ h1 fun z hz=>aB.2 ?_);rw[hz];cases eB A.Funcs B.Funcs (n.Seq.getD k default).Pred (n'.Seq.getD k default).Pred <;> exact aB.2 rfl
  ·rw[aA (sF hK),show hP A.Funcs B.Funcs (n.Seq.getD k default) (n'.Seq.getD k default)=false by unfold hP; rw[show ((n.Seq.getD k default).Rep==(n'.Seq.getD k default).Rep)=false by simpa using hK]; rfl];exact aB.2 rfl) (by
  unfold vV;simp only[Tr.den];rw[aC (bW (by omega))];exact aB.2 rfl)
 generalize dG (eB A.Funcs B.Funcs) n.Exprs n'.Exprs=t3 at e1 ⊢;generalize dG gB n.Aggs n'.Aggs=t4 at e2 ⊢;generalize dG (hP A.Funcs B.Funcs) n.Seq n'.Seq=t5 at e3 ⊢;cases hd:(!(c1&&c3) || !(c2&&(t1&&t2))) with
 | true=>simp only[dY];refine aB.2 ?_;cases c1 <;> cases c2 <;> cases c3 <;> cases t1 <;> cases t2 <;> first | rfl | (cases t3 <;> rfl) | cases hd
 | false=>
  have hd1:c1=true/\c2=true/\c3=true/\t1=true/\t2=true:=by cases c1 <;> cases c2 <;> cases c3 <;> cases t1 <;> cases t2 <;> first | exact⟨rfl,rfl,rfl,rfl,rfl⟩ | cases hd
  obtain⟨rfl,rfl,rfl,rfl,rfl⟩:=hd1;simp only[cS,cO,jC];refine Sq.bind _ e1 fun z hz=>?_;rw[hz]; clear hz z;cases t3
  ·exact aB.2 rfl
  simp only[eqR,sel];refine Sq.bind _ e2 fun z hz=>?_;rw[hz]; clear hz z;cases t4
  ·exact aB.2 rfl
  simp only[eqR,sel];refine Sq.bind _ e3 fun z hz=>?_;rw[hz]; clear hz z;cases t5
  ·exact aB.2 rfl
  simp only[eqR,sel,jC];cases (n.Op != 0)
  ·simp only[cS,cO,Bool.false_or];refine gS _ (by omega) (fun hl k hk=>?_) ?_
   ·unfold Bx;simp only[Tr.den,aP];rw[aA (bT (by omega)),aA (by omega),aA (by omega)];by_cases hK:(n.Cols.getD k default).Type_=(n'.Cols.getD k default).Type_
    ·rw[aC (sD hK),show jY (n.Cols.getD k default) (n'.Cols.getD k default)=true by unfold jY; exact oI hK];exact aB.2 rfl
    ·rw[aA (sF hK),show jY (n.Cols.getD k default) (n'.Cols.getD k default)=false by unfold jY; simpa using hK];exact aB.2 rfl
   ·unfold Bx;simp only[Tr.den];rw[aC (bW (by omega))];exact aB.2 rfl
  ·exact aB.2 rfl
theorem pH(n a b:Int):G97 n a b=some (decide (n>=a)&&decide (n<=b)):=by unfold G97 T97;simp only[Tr.den];cases decide (n>=a) <;> rfl
theorem aFU(n a b:Int):Zy n a b=some (decide (n>=a)&&decide (n<=b)):=by unfold Zy aDY;simp only[Tr.den];cases decide (n>=a) <;> rfl
theorem Sa(h:¬ (0<=n/\n<=8)):G38 n=some 0:=by
 unfold G38 T38;simp only[Tr.den,pH,aI];have:(decide (n>=0)&&decide (n<=8))=false:=by rw[Bool.eq_false_iff]; intro hc; apply h; simpa using hc
 rw[this]; rfl
theorem aTG(h:0<=n/\n<=8):n=0\/n=1\/n=2\/n=3\/n=4\/n=5\/n=6\/n=7\/n=8:=by omega
theorem Yh:G38 0=some 1/\G38 1=some 2/\G38 2=some 2/\G38 3=some 3/\G38 4=some 4/\G38 5=some 5/\G38 6=some 6/\G38 7=some 7/\G38 8=some 8:=by refine⟨?_,?_,?_,?_,?_,?_,?_,?_,?_⟩ <;> · unfold G38 T38; simp only[Tr.den,pH,aI]; rfl
theorem Lp(a:aG):G96 a=some (decide (a.Size>=1)&&decide (a.Size<=10000)):=by unfold G96 T96;simp only[Tr.den,pH,aI]
theorem bi{α β:Type}(x:α)(f:α->Option β):(some x).bind f=f x:=rfl
theorem aAP(a:aG):∃ r:Bool,G93 a=some r/\(if (!(decide (a.Size>=1)&&decide (a.Size<=10000)))=true then some false else if (a.Kind==0)=true then some true else
  if (a.Kind==1)=true then (if decide (a.Step<1)=true then some false else if a.Step≠0 then some (Int.tmod a.Size a.Step==0) else none) else
  if (a.Kind==2)=true then some (decide (a.Step>=1)&&decide (a.Step<=a.Size)) else some false)=some r:=by
 unfold G93 T93;simp only[Tr.den,Lp,pH,bi];generalize (decide (a.Size>=1)&&decide (a.Size<=10000))=s;generalize (decide (a.Step>=1)&&decide (a.Step<=a.Size))=u;by_cases hs:a.Step<1
 ·have e1:decide (a.Step>0)=false:=iC (by omega);have e2:decide (a.Step<1)=true:=mI hs;simp only[e1,e2];generalize (a.Kind==0)=c0;generalize (a.Kind==1)=c1;generalize (a.Kind==2)=c2;cases s <;> cases c0 <;> cases c1 <;> cases c2 <;> exact⟨_,rfl,rfl⟩
 ·have e1:decide (a.Step>0)=true:=mI (by omega);have e2:decide (a.Step<1)=false:=iC hs;have e3:a.Step≠0:=by omega
  simp only[e1,e2,aA e3];generalize (Int.tmod a.Size a.Step==0)=v;generalize (a.Kind==0)=c0;generalize (a.Kind==1)=c1;generalize (a.Kind==2)=c2;cases s <;> cases c0 <;> cases c1 <;> cases c2 <;> exact⟨_,rfl,rfl⟩
theorem aBO(a:aG):∃ r:Bool,G37 a=some r/\G83 a=some r:=by
 unfold G37 T37 G83 T83;simp only[Tr.den,aFU,bi];by_cases h:0<=a.Op/\a.Op<=8
 ·obtain⟨q0,q1,q2,q3,q4,q5,q6,q7,q8⟩:=Yh;rcases aTG h with h | h | h | h | h | h | h | h | h
  all_goals rw[h]
  ·rw[q0]; exact⟨true,rfl,rfl⟩
  ·rw[q1]; exact⟨true,rfl,rfl⟩
  ·rw[q2]; exact⟨true,rfl,rfl⟩
  ·rw[q3]; exact⟨true,rfl,rfl⟩
  ·rw[q4];obtain⟨r,h1,h2⟩:=aAP a;refine⟨r,?_,h2⟩;show (G93 a).bind (fun r=>some r)=some r;rw[h1]; rfl
  ·rw[q5];simp only[bi,G95,T95,Tr.den,Lp,pH];cases (decide (a.Size>=1)&&decide (a.Size<=10000)) <;> exact⟨_,rfl,rfl⟩
  ·rw[q6];simp only[bi,G98,T98,Tr.den,pH];cases (decide (a.Before>=0)&&decide (a.Before<=10000)) <;> exact⟨_,rfl,rfl⟩
  ·rw[q7];simp only[bi,aRU,aRC,Tr.den,pH];exact⟨_,rfl,rfl⟩
  ·rw[q8];simp only[bi,aSA,aMT,Tr.den,Lp,pH];cases (decide (a.Size>=1)&&decide (a.Size<=10000)) <;> exact⟨_,rfl,rfl⟩
 ·rw[Sa h];refine⟨false,rfl,?_⟩;have j:∀ k:Int,0<=k->k<=8->(a.Op==k)=false:=fun k h1 h2=>by
   have:a.Op≠k:=by omega
   simpa using this
  rw[j 4 (by omega) (by omega),j 5 (by omega) (by omega),j 6 (by omega) (by omega),j 7 (by omega) (by omega),j 8 (by omega) (by omega)];have:(decide (a.Op>=0)&&decide (a.Op<=8))=false:=by rw[Bool.eq_false_iff]; intro hc; apply h; simpa using hc
  rw[this]; rfl
theorem aQY{a:aG}(h:G37 a=some true):0<=a.Op/\a.Op<=8:=by
 by_cases hc:0<=a.Op/\a.Op<=8
 ·exact hc
 ·unfold G37 T37 at h;simp only[Tr.den,Sa hc,bi]at h;cases h
theorem Ib(a:aG):∃ r:Int×Int,G10 a=some r/\G44 a=some r:=by
 obtain⟨t,h1,h2⟩:=aBO a;unfold G10 T10 G44 T44;simp only[Tr.den,h1,h2,bi];cases t with
 | false=>exact⟨_,rfl,rfl⟩
 | true=>
  obtain⟨q0,q1,q2,q3,q4,q5,q6,q7,q8⟩:=Yh;rcases aTG (aQY h1) with h | h | h | h | h | h | h | h | h
  all_goals rw[h]
  ·rw[q0]; exact⟨_,rfl,rfl⟩
  ·rw[q1]; exact⟨_,rfl,rfl⟩
  ·rw[q2]; exact⟨_,rfl,rfl⟩
  ·rw[q3]; exact⟨_,rfl,rfl⟩
  ·rw[q4];simp only[bi,G94,T94,Tr.den,h];by_cases k2:a.Kind=2
   ·rw[k2]; exact⟨_,rfl,rfl⟩
   ·have j2:(a.Kind==2)=false:=by simpa using k2
    rw[j2]; exact⟨_,rfl,rfl⟩
  ·rw[q5];simp only[bi,G94,T94,Tr.den,h];exact⟨_,rfl,rfl⟩
  ·rw[q6]; exact⟨_,rfl,rfl⟩
  ·rw[q7]; exact⟨_,rfl,rfl⟩
  ·rw[q8]; exact⟨_,rfl,rfl⟩
noncomputable def Uc (a:aG):Int:=((G10 a).getD (0,0)).1
theorem Qp(a:aG):∃ r,G10 a=some r/\r.1=Uc a:=by obtain⟨r,h,_⟩:=Ib a;exact⟨r,h,by unfold Uc; rw[h]; rfl⟩
theorem Sb(a:aG):∃ r,G44 a=some r/\r.1=Uc a:=by obtain⟨r,h,h'⟩:=Ib a;exact⟨r,h',by unfold Uc; rw[h]; rfl⟩
def nR(a:aG):Bool:=decide (a.Op>=4)&&decide (a.Op<=8)
theorem Cj(a:aG):aOR a=some (nR a):=by unfold aOR aMN nR;simp only[Tr.den];cases decide (a.Op>=4) <;> rfl
theorem Fk(a:aG):aOL a=some (nR a):=by unfold aOL aOO nR;simp only[Tr.den];cases decide (a.Op>=4) <;> rfl
def xX:List (List Int×Bool)->List Int->Option Bool
 | [],_=>none
 | e::m,ks=>match ks==e.1 with | true=>some e.2 | false=>xX m ks
theorem sX:∀ (m:List (List Int×Bool)) (ks:List Int) (i:Nat),(gU m ks i).map (·.2)=xX m ks
 | [],ks,i=>rfl
 | e::m,ks,i=>by
  simp only[gU,xX];cases ks==e.1 with
  | true=>rfl
  | false=>exact sX m ks (i+1)
theorem aBZ(m:List (List Int×Bool))(ks:List Int):Mb m ks=(xX m ks).getD false:=by rw[<-sX m ks 0]; unfold Mb; cases gU m ks 0 <;> rfl
theorem Xp(m:List (List Int×Bool))(ks:List Int):Gu m ks=(xX m ks).isSome:=by rw[<-sX m ks 0]; unfold Gu; cases gU m ks 0 <;> rfl
theorem uZ:∀ (m:List (List Int×Bool)) (ks:List Int) (i:Nat),gU m ks (i+1)=(gU m ks i).map fun x=>(x.1+1,x.2)
 | [],ks,i=>rfl
 | e::m,ks,i=>by
  simp only[gU];cases ks==e.1 with
  | true=>rfl
  | false=>exact uZ m ks (i+1)
theorem Vs(e:List Int×Bool)(m:List (List Int×Bool))(ks:List Int)(b:Bool):sC (e::m) ks b=match ks==e.1 with | true=>(ks,b)::m | false=>e::sC m ks b:=by
 unfold sC;simp only[gU];cases ks==e.1 with
 | true=>rfl
 | false=>
  simp only[uZ];cases gU m ks 0 with
  | none=>rfl
  | some x=>rfl
theorem Gc:∀ (m:List (List Int×Bool)) (ks:List Int) (b:Bool) (ks':List Int),xX (sC m ks b) ks'=match ks'==ks with | true=>some b | false=>xX m ks'
 | [],ks,b,ks'=>rfl
 | e::m,ks,b,ks'=>by
  rw[Vs];cases h:ks==e.1 with
  | true=>
   have h':ks=e.1:=by simpa using h
   subst h';simp only[xX];cases ks'==e.1 <;> rfl
  | false=>
   simp only[xX,Gc m ks b ks'];cases h2:ks'==e.1 with
   | false=>rfl
   | true=>
    have h':ks'=e.1:=by simpa using h2
    subst h';have:(e.1==ks)=false:=by
     have:ks≠e.1:=by simpa using h
     simpa using Ne.symm this
    rw[this]
section
variable (A B:aD)
noncomputable def Gf:Nat->Nat->Nat->Bool
 | 0,_,_=>false
 | d+1,i,k=>qB A.Funcs B.Funcs (A.Nodes.getD i default) (B.Nodes.getD k default) &&
   dG (fun x y:Int=>Gf d x.toNat y.toNat) (A.Nodes.getD i default).In (B.Nodes.getD k default).In
noncomputable def same (i k:Nat):Bool:=Gf A B (i+1) i k
end
structure PF (A:aD):Prop where
 funcs:eI A.Funcs
 n:A.Nodes.length<=40
 ins:∀ i,i<A.Nodes.length->∀ j,j<(A.Nodes.getD i default).In.length->0<=(A.Nodes.getD i default).In.getD j default/\(A.Nodes.getD i default).In.getD j default<(i:Int)
 w:∀ i,i<A.Nodes.length->Hb A.Funcs (A.Nodes.getD i default)
theorem Ko{A B:aD}(hA:PF A):∀ (i d k:Nat),i<A.Nodes.length->i<d->Gf A B d i k=same A B i k:=by
 intro i
 induction i using Nat.strongRecOn with
 | ind i ih=>
  intro d k hi hd;obtain⟨d,rfl⟩:∃ d',d=d'+1:=⟨d-1,by omega⟩;unfold same;simp only[Gf]
  congr 1
  refine xQ (fun j hj _=>?_);have hin:=hA.ins i hi j hj;rw[ih _ (by omega) d _ (by omega) (by omega),ih _ (by omega) i _ (by omega) (by omega)]
noncomputable abbrev lT (A B:aD)(x y:Int):Bool:=same A B x.toNat y.toNat
theorem Qt{A B:aD}(hA:PF A)(hi:i<A.Nodes.length):same A B i k=(qB A.Funcs B.Funcs (A.Nodes.getD i default) (B.Nodes.getD k default) &&
   dG (lT A B) (A.Nodes.getD i default).In (B.Nodes.getD k default).In):=by
 conv=>lhs; unfold same
 simp only[Gf]
 congr 1
 refine xQ (fun j hj _=>?_);have hin:=hA.ins i hi j hj;exact Ko hA _ _ _ (by omega) (by omega)
def cT(A B:aD)(m:List (List Int×Bool)):Prop:=∀ i k:Nat,i<A.Nodes.length->k<B.Nodes.length->∀ b,xX m [(i:Int),(k:Int)]=some b->b=same A B i k
theorem cT.nil{A B:aD}:cT A B []:=fun _ _ _ _ _ h=>by cases h
theorem cT.set{A B:aD}(h:cT A B m):cT A B (sC m [(i:Int),(k:Int)] (same A B i k)):=by
 intro i' k' hi hk b hb;rw[Gc]at hb;cases he:([(i':Int),(k':Int)]==[(i:Int),(k:Int)]) with
 | true=>
  rw[he]at hb;have:[(i':Int),(k':Int)]=[(i:Int),(k:Int)]:=by simpa using he
  simp only[List.cons.injEq,and_true]at this;obtain⟨h1,h2⟩:=this;have h1:i'=i:=by omega
  have h2:k'=k:=by omega
  subst h1; subst h2;simpa using hb.symm
 | false=>rw[he]at hb;exact h i' k' hi hk b hb
theorem Vt{b:Bool}{A B:aD}{f:kV}{l r:List Int}(hl:l.length<=1048576)
  (hf:∀ j,j<l.length->j<r.length->∀ m,cT A B m->Sq b (f.1 (l.getD j default,r.getD j default,A,B,m)) (fun x=>x.1=lT A B (l.getD j default) (r.getD j default)/\cT A B x.2))(hm:cT A B m):
  Sq b (Nj f l r A B m) (fun x=>x.1=dG (lT A B) l r/\cT A B x.2):=by
 unfold Nj Mg;simp only[Tr.den];by_cases hlen:l.length=r.length
 case neg=>rw[aA (by simp; omega)];exact aB.2 ⟨(vS hlen).symm,hm⟩
 rw[aC (by simp[hlen])];refine Sq.bind (sel (fun m'=>dG (lT A B) l r=true/\cT A B m') (fun y=>y.1=false/\dG (lT A B) l r=false/\cT A B y.2))
  (cB (fun s=>s.2) l.length (by omega) (fun s=>cT A B s.1/\∀ j:Nat,(j:Int)<s.2->lT A B (l.getD j default) (r.getD j default)=true) (fun s k hI hk hkN=>?_) ⟨hm,fun j hj=>by simp only at hj; omega⟩ rfl) fun z hz=>?_
 ·obtain⟨v1,v2⟩:=s;obtain⟨h1,h2⟩:=hI;simp only at hk h1 h2;subst hk;unfold An;simp only[Tr.den,aP];by_cases hc:k<l.length
  ·rw[aA (bT (by omega)),aA (by omega),aA (by omega)];refine Sq.bind _ (hf k hc (by omega) v1 h1) fun x hx=>?_;obtain⟨t,m'⟩:=x;obtain⟨hx1,hx2⟩:=hx;simp only at hx1 hx2;subst hx1;cases ht:lT A B (l.getD k default) (r.getD k default) with
   | false=>
    refine aB.2 ⟨rfl,?_,hx2⟩;cases ha:dG (lT A B) l r with
    | false=>rfl
    | true=>have:=(mS.1 ha).2 k hc;rw[ht]at this; cases this
   | true=>
    refine aB.2 ⟨rfl,hc,hx2,fun j hj=>?_⟩;simp only at hj;rw[bF (by omega)]at hj;by_cases hjk:j=k
    ·subst hjk; exact ht
    ·exact h2 j (by omega)
  ·rw[aC (bW (by omega))];exact aB.2 ⟨mS.2 ⟨hlen,fun j hj=>h2 j (by omega)⟩,h1⟩
 ·cases z with
  | inl m'=>exact aB.2 ⟨hz.1.symm,hz.2⟩
  | inr y=>exact aB.2 ⟨by rw[hz.1,hz.2.1],hz.2.2⟩
theorem Ar{b:Bool}{A B:aD}(hA:PF A)(hB:PF B){f:kV}(hi:i<A.Nodes.length)(hk:k<B.Nodes.length)
  (hf:∀ i' k':Nat,i' < i->i' < A.Nodes.length->k' < B.Nodes.length->∀ m,cT A B m->Sq b (f.1 ((i':Int),(k':Int),A,B,m)) (fun x=>x.1=same A B i' k'/\cT A B x.2))(hm:cT A B m):
  Sq b (Jw f (A.Nodes.getD i default) (B.Nodes.getD k default) A B m) (fun x=>x.1=dG (lT A B) (A.Nodes.getD i default).In (B.Nodes.getD k default).In/\cT A B x.2):=by
 unfold Jw Ki;simp only[Tr.den];refine Sq.bind _ (Vt (A:=A) (B:=B) (f:=f) (hA.w i hi).nI (fun j hj hj' m hm=>?_) hm) fun x hx=>aB.2 hx;have h1:=hA.ins i hi j hj;have h2:=hB.ins k hk j hj';obtain⟨u,hu⟩:=Int.eq_ofNat_of_zero_le h1.1;obtain⟨v,hv⟩:=Int.eq_ofNat_of_zero_le h2.1;rw[hu,hv];exact hf u v (by omega) (by omega) (by omega) m hm
theorem sW(b:Bool){A B:aD}(hA:PF A)(hB:PF B){i k:Nat}(hi:i<A.Nodes.length)(hk:k<B.Nodes.length){m:List (List Int×Bool)}(hm:cT A B m):
  Sq b (Nl (i:Int) (k:Int) A B m) (fun x=>x.1=same A B i k/\cT A B x.2):=by
 unfold Nl Nf;refine(dL _ _ _ (fun a=>∃ i k:Nat,i<A.Nodes.length/\k<B.Nodes.length/\a.1=(i:Int)/\a.2.1=(k:Int)/\a.2.2.1=A/\a.2.2.2.1=B/\cT A B a.2.2.2.2) (fun a=>a.1.toNat)
  (fun a x=>x.1=same A B a.1.toNat a.2.1.toNat/\cT A B x.2) (fun b f a ha hrec=>?_) b ((i:Int),(k:Int),A,B,m) ⟨i,k,hi,hk,rfl,rfl,rfl,rfl,hm⟩).imp fun x hx=>hx
 clear hi hk hm i k m;obtain⟨x1,x2,x3,x4,m⟩:=a;obtain⟨i,k,hi,hk,h1,h2,h3,h4,hm⟩:=ha;simp only at h1 h2 h3 h4 hm hrec ⊢;subst h1 h2 h3 h4;have hr:∀ i' k':Nat,i' < i->i' < x3.Nodes.length->k' < x4.Nodes.length->∀ m,cT x3 x4 m->Sq b (f.1 ((i':Int),(k':Int),x3,x4,m)) (fun x=>x.1=same x3 x4 i' k'/\cT x3 x4 x.2):=fun i' k' h h1 h2 m hm=>
  hrec _ ⟨i',k',h1,h2,rfl,rfl,rfl,rfl,hm⟩ (by simp only[aP]; exact h)
 unfold Cx;simp only[Tr.den,aP];refine Sq.bind (fun J=>J.2=same x3 x4 i k/\cT x3 x4 J.1) ?_ fun J hJ=>aB.2 hJ;refine aU (fun hnew=>?_) (fun hold=>?_)
 ·rw[aA (by omega),aA (by omega)];refine Sq.bind _ (Ug b hA.funcs hB.funcs (hA.w i hi) (hB.w k hk)) fun t ht=>?_;refine Sq.bind (fun J=>J.2=same x3 x4 i k/\cT x3 x4 J.1) ?_ fun J hJ=>?_
  ·rw[Qt hA hi,<-ht];cases t with
   | true=>exact Sq.bind _ (Ar hA hB hi hk hr hm) fun x hx=>aB.2 ⟨by rw[jC]; exact hx.1,hx.2⟩
   | false=>exact aB.2 ⟨rfl,hm⟩
  ·obtain⟨m',t'⟩:=J;obtain⟨h1,h2⟩:=hJ;simp only at h1 h2;subst h1;exact aB.2 ⟨rfl,h2.set⟩
 ·have hh:Gu m [(i:Int),(k:Int)]=true:=by simpa using hold
  refine aB.2 ⟨?_,hm⟩;simp only;rw[Xp]at hh;rw[aBZ];cases hv:xX m [(i:Int),(k:Int)] with
  | none=>rw[hv]at hh; cases hh
  | some t=>exact hm i k hi hk t hv
noncomputable def fR (A B:aD)(i k:Nat):Bool:=nR (A.Nodes.getD i default)&&((A.Nodes.getD i default).Op==(B.Nodes.getD k default).Op&&(eqI (A.Nodes.getD i default).Key (B.Nodes.getD k default).Key &&
 (eqI (A.Nodes.getD i default).Key2 (B.Nodes.getD k default).Key2&&(Uc (A.Nodes.getD i default)==Uc (B.Nodes.getD k default) &&
 dG (lT A B) (A.Nodes.getD i default).In (B.Nodes.getD k default).In))))
theorem Ab(b:Bool){A B:aD}(hA:PF A)(hB:PF B)(hi:i<A.Nodes.length)(hk:k<B.Nodes.length)(hm:cT A B m):
  Sq b (Jm (i:Int) (k:Int) A B m) (fun x=>x.1=fR A B i k/\cT A B x.2):=by
 have nK:=(hA.w i hi).nK; have nK2:=(hA.w i hi).nK2;obtain⟨r3,h3,e3⟩:=Qp (A.Nodes.getD i default);obtain⟨r5,h5,e5⟩:=Qp (B.Nodes.getD k default);have k1:=vQ b (A.Nodes.getD i default).Key (B.Nodes.getD k default).Key (by omega);have k2:=vQ b (A.Nodes.getD i default).Key2 (B.Nodes.getD k default).Key2 (by omega);have hin:=Ar (b:=b) (f:=⟨_,tV⟩) hA hB hi hk (fun i' k' _ h1 h2 m hm=>sW b hA hB h1 h2 hm) hm;unfold Jm Kx;simp only[Tr.den,aP];rw[aA (by omega),aA (by omega),h3,h5,Cj];simp only[bi];refine Sq.bind (fun J=>J.2=fR A B i k/\cT A B J.1) ?_ fun J hJ=>aB.2 hJ;unfold fR eqI;rw[<-e3,<-e5];generalize dG (fun x y=>x==y) (A.Nodes.getD i default).Key (B.Nodes.getD k default).Key=t1 at k1 ⊢;generalize dG (fun x y=>x==y) (A.Nodes.getD i default).Key2 (B.Nodes.getD k default).Key2=t2 at k2 ⊢;refine aU (fun h=>?_) (fun h=>aB.2 ⟨by rw[h]; rfl,hm⟩);rw[h,jC];refine aU (fun h=>?_) (fun h=>aB.2 ⟨by rw[h]; rfl,hm⟩);rw[h,jC];refine Sq.bind _ k1 fun z hz=>?_;rw[hz];refine aU (fun h=>?_) (fun h=>aB.2 ⟨by rw[h]; rfl,hm⟩);rw[h,jC];refine Sq.bind _ k2 fun z hz=>?_;rw[hz];refine aU (fun h=>?_) (fun h=>aB.2 ⟨by rw[h]; rfl,hm⟩);rw[h,jC];refine aU (fun h=>?_) (fun h=>aB.2 ⟨by rw[h]; rfl,hm⟩);rw[h,jC];exact Sq.bind _ hin fun x hx=>aB.2 hx
theorem Kn{R:Type}{b:Bool}{bd:Int->Option (Int⊕(Unit⊕R))}(N:Nat)(p:Nat->Bool)(c:R)(hN:N<=1000000000000)
  (h:∀ k:Nat,k<N->Sq b (bd (k:Int)) (fun z=>z=match p k with | true=>.inr (.inr c) | false=>.inl (IntKind.i64.wrap ((k:Int)+1))))
  (hf:Sq b (bd (N:Int)) (fun z=>z = .inr (.inl ()))):Sq b (cE bd 0) (fun z=>z=match (List.range N).any p with | true=>.inr c | false=>.inl ()):=by
 refine cB (fun s:Int=>s) N (by omega) (fun s=>∀ i:Nat,(i:Int)<s->p i=false) (fun s k hI hk hkN=>?_) (fun i hi=>by omega) rfl;subst hk;by_cases hc:k<N
 ·refine(h k hc).imp fun z hz=>?_;subst hz;cases hx:p k with
  | true=>simp only[sel];have:(List.range N).any p=true:=uX.2 ⟨k,jV.2 hc,hx⟩;rw[this]
  | false=>
   simp only[sel];refine⟨trivial,hc,fun i hi=>?_⟩;rw[bF (by omega)]at hi;by_cases hik:i=k
   ·subst hik; exact hx
   ·exact hI i (by omega)
 ·have:k=N:=by omega
  subst this;refine hf.imp fun z hz=>?_;subst hz;simp only[sel];have:(List.range k).any p=false:=by rw[rX];intro i hi;have:=hI i (by have:=jV.1 hi; omega);rw[this]; simp
  rw[this]
theorem Qd{S R:Type}{b:Bool}{bd:S->Option (S⊕R)}(idx:S->Int)(N:Nat)(hN:N<=1000000000000)(I:Nat->S->Prop){Q:R->Prop}
  (h:∀ s (k:Nat),I k s->idx s=(k:Int)-1->k<=N->Sq b (bd s) (sel (fun s'=>0<k/\idx s'=IntKind.i64.wrap (idx s-1)/\I (k-1) s') Q)){s:S}(hs:I N s)(h0:idx s=IntKind.i64.wrap ((N:Int)-1)):Sq b (cE bd s) Q:=by
 refine Sq.while (fun s=>∃ k:Nat,I k s/\idx s=(k:Int)-1/\k<=N) (fun s=>(idx s+1).toNat) (fun s hs=>?_) ⟨N,hs,by rw[h0,fE (by omega) (by omega)],eT _⟩;obtain⟨k,hI,hk,hkN⟩:=hs;refine(h s k hI hk hkN).imp fun z hz=>?_;cases z with
 | inr r=>exact hz
 | inl s'=>obtain⟨q1,q2,q3⟩:=hz;rw[fE (by omega) (by omega)]at q2;exact⟨⟨k-1,q3,by omega,by omega⟩,by omega⟩
structure dI (v n:Nat)(f:Nat->Bool)(r:Int):Prop where
 hit:0<=r->v<=r.toNat/\r.toNat<n/\f r.toNat=true/\∀ u,v<=u->u<r.toNat->f u=false
 miss:r<0->r = -1/\∀ u,v<=u->u<n->f u=false
theorem dI.uniq{v n:Nat}{r':Int}(h:dI v n f r)(h':dI v n f r'):r=r':=by
 rcases Int.lt_or_le r 0 with h1 | h1 <;> rcases Int.lt_or_le r' 0 with h2 | h2
 ·rw[(h.miss h1).1,(h'.miss h2).1]
 ·obtain⟨q0,q1,q2,_⟩:=h'.hit h2;have:=(h.miss h1).2 _ q0 q1;rw[q2]at this; cases this
 ·obtain⟨q0,q1,q2,_⟩:=h.hit h1;have:=(h'.miss h2).2 _ q0 q1;rw[q2]at this; cases this
 ·obtain⟨a0,_,a2,a3⟩:=h.hit h1;obtain⟨b0,_,b2,b3⟩:=h'.hit h2;rcases Nat.lt_trichotomy r.toNat r'.toNat with hl | hl | hl
  ·rw[b3 _ a0 hl]at a2; cases a2
  ·omega
  ·rw[a3 _ b0 hl]at b2; cases b2
theorem dI.none{n:Nat}:dI n n f (-1):=⟨fun h=>by omega,fun _=>⟨rfl,fun u h1 h2=>by omega⟩⟩
theorem dI.down{v n:Nat}(h:dI (v+1) n f r)(hv:v<n):dI v n f (if f v=true then (v:Int) else r):=by
 cases hf:f v with
 | true=>rw[aA rfl];exact⟨fun _=>⟨by simp,by simpa using hv,by simpa using hf,fun u h1 h2=>by simp at h2; omega⟩,fun h=>by omega⟩
 | false=>
  rw[aC (by simp)];have ext:∀ u,v<=u->(v+1<=u->f u=false)->f u=false:=fun u h1 h2=>by
   by_cases hu:u=v
   ·subst hu; exact hf
   ·exact h2 (by omega)
  exact⟨fun h0=>by obtain⟨a,b,c,d⟩:=h.hit h0; exact⟨by omega,b,c,fun u h1 h2=>ext u h1 fun h3=>d u h3 h2⟩,fun h0=>by obtain⟨a,b⟩:=h.miss h0; exact⟨a,fun u h1 h2=>ext u h1 fun h3=>b u h3 h2⟩⟩
theorem dI.ex(f:Nat->Bool)(n:Nat):∃ r,dI 0 n f r:=by
 have:∀ k,k<=n->∃ r,dI (n-k) n f r:=by
  intro k
  induction k with
  | zero=>intro _; exact⟨-1,by simpa using dI.none⟩
  | succ k ih=>
   intro hk;obtain⟨r,hr⟩:=ih (by omega);have e:n-k=(n-(k+1))+1:=by omega
   rw[e]at hr;exact⟨_,hr.down (by omega)⟩
 simpa using this n (eT _)
theorem Ic{b:Bool}{A B:aD}{n:Nat}(hn:n<=40)(f:Nat->Bool){bd:(List (List Int×Bool)×Int)->Option ((List (List Int×Bool)×Int)⊕(List (List Int×Bool)⊕(Int×List (List Int×Bool))))}
  (h:∀ m (k:Nat),k<n->cT A B m->Sq b (bd (m,(k:Int))) (fun z=>match z with | .inl s=>s.2=IntKind.i64.wrap ((k:Int)+1)/\f k=false/\cT A B s.1 | .inr (.inr y)=>f k=true/\y.1=(k:Int)/\cT A B y.2 | .inr (.inl _)=>False))
  (hf:∀ m,Sq b (bd (m,(n:Int))) (fun z=>z = .inr (.inl m)))(hm:cT A B m):
  Sq b ((cE bd (m,0)).bind (sel (fun b3=>some ((-1:Int),b3)) some)) (fun x=>dI 0 n f x.1/\cT A B x.2):=by
 refine Sq.bind (sel (fun m'=>(∀ u,u<n->f u=false)/\cT A B m') (fun y=>dI 0 n f y.1/\cT A B y.2))
  (cB (fun s=>s.2) n (by omega) (fun s=>cT A B s.1/\∀ j:Nat,(j:Int)<s.2->f j=false) (fun s k hI hk hkN=>?_) ⟨hm,fun j hj=>by simp only at hj; omega⟩ rfl) fun z hz=>?_
 ·obtain⟨v1,v2⟩:=s;obtain⟨h1,h2⟩:=hI;simp only at hk h1 h2;subst hk;by_cases hc:k<n
  ·refine(h v1 k hc h1).imp fun z hz=>?_;rcases z with s' | (_ | y)
   ·obtain⟨q1,q2,q3⟩:=hz;refine⟨q1,hc,q3,fun j hj=>?_⟩;rw[q1,bF (by omega)]at hj;by_cases hjk:j=k
    ·subst hjk; exact q2
    ·exact h2 j (by omega)
   ·exact hz.elim
   ·obtain⟨q1,q2,q3⟩:=hz;exact⟨⟨fun _=>by rw[q2]; exact⟨by omega,by simpa using hc,by simpa using q1,fun u _ hu=>h2 u (by simp at hu; omega)⟩,fun h=>by omega⟩,q3⟩
  ·have:k=n:=by omega
   subst this;refine(hf v1).imp fun z hz=>?_;subst hz;exact⟨fun u hu=>h2 u (by omega),h1⟩
 ·cases z with
  | inl m'=>exact aB.2 ⟨⟨fun h=>by simp at h,fun _=>⟨rfl,fun u _ hu=>hz.1 u hu⟩⟩,hz.2⟩
  | inr y=>exact aB.2 hz
theorem Uv(b:Bool){A B:aD}(hA:PF A)(hB:PF B)(hk:k<B.Nodes.length)(hm:cT A B m):
  Sq b (Ka (k:Int) A B m) (fun x=>dI 0 A.Nodes.length (fun v=>same A B v k) x.1/\cT A B x.2):=by
 unfold Ka Mc;simp only[Tr.den];refine Ic hA.n _ (fun m v hv hm=>?_) (fun m=>?_) hm
 ·unfold tK;simp only[Tr.den];rw[aA (bT (by omega))];refine Sq.bind _ (sW b hA hB hv hk hm) fun x hx=>?_;obtain⟨t,m'⟩:=x;obtain⟨h1,h2⟩:=hx;simp only at h1 h2;cases t with
  | true=>exact aB.2 ⟨h1.symm,rfl,h2⟩
  | false=>exact aB.2 ⟨rfl,h1.symm,h2⟩
 ·unfold tK;simp only[Tr.den];rw[aC (bW (by omega))];exact aB.2 rfl
theorem We(b:Bool){A B:aD}(hA:PF A)(hB:PF B)(hk:k<B.Nodes.length)(hm:cT A B m):
  Sq b (Nm (k:Int) A B m) (fun x=>dI 0 A.Nodes.length (fun v=>fR A B v k) x.1/\cT A B x.2):=by
 unfold Nm Np;simp only[Tr.den];refine Ic hA.n _ (fun m v hv hm=>?_) (fun m=>?_) hm
 ·unfold tC;simp only[Tr.den];rw[aA (bT (by omega))];refine Sq.bind _ (Ab b hA hB hv hk hm) fun x hx=>?_;obtain⟨t,m'⟩:=x;obtain⟨h1,h2⟩:=hx;simp only at h1 h2;cases t with
  | true=>exact aB.2 ⟨h1.symm,rfl,h2⟩
  | false=>exact aB.2 ⟨rfl,h1.symm,h2⟩
 ·unfold tC;simp only[Tr.den];rw[aC (bW (by omega))];exact aB.2 rfl
def tS(r s:Int)(k:Nat):aV:=if 0<=r then ⟨r,k,0⟩ else if 0<=s then ⟨s,k,1⟩ else ⟨-1,k,2⟩
structure eU (A B:aD)(n:Nat)(ms:List aV):Prop where
 len:ms.length=n
 all:∀ k,k<n->∃ r s,dI 0 A.Nodes.length (fun v=>same A B v k) r/\dI 0 A.Nodes.length (fun v=>fR A B v k) s/\ms.getD k default=tS r s k
theorem eU.nil{A B:aD}:eU A B 0 []:=⟨rfl,fun k hk=>by omega⟩
theorem eU.snoc{A B:aD}{n:Nat}(h:eU A B n ms){s:Int}(hr:dI 0 A.Nodes.length (fun v=>same A B v n) r)(hs:dI 0 A.Nodes.length (fun v=>fR A B v n) s):eU A B (n+1) (ms++[tS r s n]):=by
 refine⟨by simp[h.len],fun k hk=>?_⟩;rw[yN];by_cases hkn:k<n
 ·rw[aA (by rw[h.len]; exact hkn)]; exact h.all k hkn
 ·have:k=n:=by omega
  subst this;rw[aC (by rw[h.len]; omega),h.len,Nat.sub_self];exact⟨r,s,hr,hs,rfl⟩
theorem eU.uniq{A B:aD}{n:Nat}{ms ms':List aV}(h:eU A B n ms)(h':eU A B n ms'):ms=ms':=by refine yI (by rw[h.len,h'.len]) fun k hk=>?_;obtain⟨r,s,a1,a2,a3⟩:=h.all k (by rw[<-h.len]; exact hk);obtain⟨r',s',b1,b2,b3⟩:=h'.all k (by rw[<-h.len]; exact hk);rw[a3,b3,a1.uniq b1,a2.uniq b2]
theorem Pv(b:Bool){A B:aD}(hA:PF A)(hB:PF B):Sq b (aIZ A B) (fun ms=>eU A B B.Nodes.length ms):=by
 have hn:=hB.n;unfold aIZ aOS;simp only[Tr.den];refine Sq.bind (sel (fun ms=>eU A B B.Nodes.length ms) (fun _=>False)) (cB (fun s=>s.2.2) B.Nodes.length (by omega) (fun s=>cT A B s.1/\eU A B s.2.2.toNat s.2.1) (fun s k hI hk hkN=>?_) ⟨cT.nil,eU.nil⟩ rfl) fun z hz=>?_
 ·obtain⟨v1,v2,v3⟩:=s;obtain⟨h1,h2⟩:=hI;simp only at hk h1 h2;subst hk;simp only[aP]at h2;unfold Rz;simp only[Tr.den];by_cases hc:k<B.Nodes.length
  ·rw[aA (bT (by omega))];refine Sq.bind _ (Uv b hA hB hc h1) fun x hx=>?_;obtain⟨r,m'⟩:=x;obtain⟨hx1,hx2⟩:=hx;simp only at hx1 hx2;refine Sq.bind (fun J=>J.2.2.2=v2/\cT A B J.2.2.1/\∃ t,dI 0 A.Nodes.length (fun v=>fR A B v k) t/\J.1=(if 0<=r then r else t)/\J.2.1=if 0<=r then 0 else 1) ?_ (fun J hJ=>?_)
   ·refine Sp.iteD (fun h=>?_) (fun h=>?_)
    ·exact Sq.bind _ (We b hA hB hc hx2) fun y hy=>aB.2 ⟨rfl,hy.2,y.1,hy.1,by rw[aC (by omega)],by rw[aC (by omega)]⟩
    ·obtain⟨t,ht⟩:=dI.ex (fun v=>fR A B v k) A.Nodes.length;exact aB.2 ⟨rfl,hx2,t,ht,by rw[aA (by omega)],by rw[aA (by omega)]⟩
   obtain⟨j9,j10,j11,j12⟩:=J;obtain⟨hJ1,hJ2,t,ht,hJ3,hJ4⟩:=hJ;simp only at hJ1 hJ2 hJ3 hJ4;subst hJ1;refine Sq.bind (fun J=>J.2=j12/\J.1=if j9<0 then 2 else j10) ?_ (fun J hJ=>?_)
   ·exact Sp.iteD (fun h=>aB.2 ⟨rfl,by rw[aA h]⟩) (fun h=>aB.2 ⟨rfl,by rw[aC h]⟩)
   obtain⟨j18,j19⟩:=J;obtain⟨hJ5,hJ6⟩:=hJ;simp only at hJ5 hJ6;subst hJ5;have hl:=h2.len;rw[aA (by simp only[eJ]; omega)];refine aB.2 ⟨rfl,hc,hJ2,?_⟩;simp only;rw[bF (by omega),aP];have:aV.mk j9 (k:Int) j18=tS r t k:=by
    rw[hJ6,hJ3,hJ4];unfold tS;by_cases hr:0<=r
    ·rw[aA hr,aA hr,aA hr,aC (by omega)]
    ·rw[aC hr,aC hr,aC hr];by_cases ht0:0<=t
     ·rw[aA ht0,aC (by omega)]
     ·rw[aC ht0,aA (by omega),(ht.miss (by omega)).1]
   rw[this];exact h2.snoc hx1 ht
  ·rw[aC (bW (by omega))];refine aB.2 ?_;have:k=B.Nodes.length:=by omega
   subst this; exact h2
 ·cases z with
  | inl ms=>exact aB.2 hz
  | inr y=>exact hz.elim
theorem aJI(b:Bool){A B:aD}{t:List (List Bool)}{n n':aG}(hN:n.In.length<=1048576)
  (h:∀ j,j<n.In.length->j<n'.In.length->(0<=n.In.getD j default/\n.In.getD j default<(t.length:Int))/\(0<=n'.In.getD j default/\n'.In.getD j default<((t.getD (n.In.getD j default).toNat default).length:Int)) /\
   (t.getD (n.In.getD j default).toNat default).getD (n'.In.getD j default).toNat default=lT A B (n.In.getD j default) (n'.In.getD j default)):Sq b (aFD t n n') (fun z=>z=dG (lT A B) n.In n'.In):=by
 unfold aFD aNX;simp only[Tr.den];refine gS _ (by omega) (fun hl k hk=>?_) ?_
 ·obtain⟨h1,h2,h3⟩:=h k hk (by omega);unfold Di;simp only[Tr.den,aP];rw[aA (bT (by omega)),aA (by omega),aA h1,aA (by omega),aA h2];cases hs:lT A B (n.In.getD k default) (n'.In.getD k default) with
  | true=>rw[aC (by rw[h3,hs]; decide)]; exact aB.2 rfl
  | false=>rw[aA (by rw[h3,hs]; rfl)]; exact aB.2 rfl
 ·unfold Di;simp only[Tr.den];rw[aC (bW (by omega))];exact aB.2 rfl
structure Hq (A B:aD)(n:Nat)(t:List (List Bool)):Prop where
 len:n<=t.length
 row:∀ i,i<n->(t.getD i default).length=B.Nodes.length/\∀ k,k<B.Nodes.length->(t.getD i default).getD k default=same A B i k
theorem Hq.inputs{b:Bool}{A B:aD}(hA:PF A)(hB:PF B){m:Nat}{t:List (List Bool)}(h:Hq A B m t)(hi:i<A.Nodes.length)(him:i<=m)(hk:k<B.Nodes.length):
  Sq b (aFD t (A.Nodes.getD i default) (B.Nodes.getD k default)) (fun z=>z=dG (lT A B) (A.Nodes.getD i default).In (B.Nodes.getD k default).In):=by
 refine aJI b (hA.w i hi).nI fun j hj hj'=>?_;have h1:=hA.ins i hi j hj;have h2:=hB.ins k hk j hj';have h3:=h.len;obtain⟨q1,q2⟩:=h.row ((A.Nodes.getD i default).In.getD j default).toNat (by omega);exact⟨⟨h1.1,by omega⟩,⟨h2.1,by omega⟩,q2 _ (by omega)⟩
theorem aBK{α:Type}[Inhabited α](l:List α)(i:Nat):l.set i (l.getD i default)=l:=by
 refine yI (by simp) fun k hk=>?_;rw[oP];split
 ·rename_i h; rw[h.1]
 ·rfl
theorem Ou(b:Bool){A B:aD}(hA:PF A)(hB:PF B):Sq b (aQM A B) (fun t=>t.length=A.Nodes.length/\Hq A B A.Nodes.length t):=by
 have hnA:=hA.n;have hnB:=hB.n;unfold aQM aRI;simp only[Tr.den];refine Sq.bind (sel (fun t=>t.length=A.Nodes.length/\Hq A B A.Nodes.length t) (fun _=>False)) (cB (fun s=>s.2) A.Nodes.length (by omega) (fun s=>s.1.length=s.2.toNat/\Hq A B s.2.toNat s.1) (fun s i hI hk hkN=>?_) ⟨rfl,⟨eT _,fun i hi=>by simp at hi⟩⟩ rfl) fun z hz=>?_
 ·obtain⟨t,v2⟩:=s;simp only at hk hI;subst hk;simp only[aP]at hI;obtain⟨hlen,hT⟩:=hI;unfold Sj;simp only[Tr.den];by_cases hc:i<A.Nodes.length
  ·rw[aA (bT (by omega)),aA (by omega),aA (by simp only[eJ]; omega)];refine Sq.bind (sel (fun t'=>t'.length=i+1/\Hq A B (i+1) t') (fun _=>False)) (cB (fun s=>s.2) B.Nodes.length (by omega)
    (fun s=>s.1.length=i+1/\Hq A B i s.1/\(s.1.getD i default).length=B.Nodes.length/\∀ k:Nat,(k:Int)<s.2->(s.1.getD i default).getD k default=same A B i k) (fun s k hI hk hkN=>?_) ?_ rfl) fun z hz=>?_
   ·obtain⟨t,v5⟩:=s;simp only at hk hI;subst hk;obtain⟨h1,h2,h3,h4⟩:=hI;unfold Rl;simp only[Tr.den,aP];by_cases hk:k<B.Nodes.length
    ·rw[aA (bT (by omega))];refine Sq.bind (fun t'=>t'=t.set i ((t.getD i default).set k (same A B i k))) ?_ fun t' ht'=>?_
     ·rw[aBK];rw[Qt hA hc];have hin:=h2.inputs (b:=b) hA hB hc (eT _) hk;have hf:=aFA b hA.funcs hB.funcs (hA.w i hc) (hB.w k hk)
      (repeat rw[aA (by first | omega | exact⟨by omega,trivial,trivial⟩ | (simp only[xA,List.all_nil,Bool.and_true,kP]; omega))])
      refine Sq.bind _ hf fun z hz=>?_;rw[<-hz];cases z with
      | true=>
       simp only[dY,jC];refine Sq.bind _ hin fun z hz=>?_;rw[<-hz]
       (repeat rw[aA (by first | omega | exact⟨by omega,trivial,trivial⟩ | (simp only[xA,List.all_nil,Bool.and_true,kP]; omega))])
       exact aB.2 rfl
      | false=>
       simp only[cS,cO,Bool.false_and]
       (repeat rw[aA (by first | omega | exact⟨by omega,trivial,trivial⟩ | (simp only[xA,List.all_nil,Bool.and_true,kP]; omega))])
       exact aB.2 rfl
     ·subst ht';refine aB.2 ⟨rfl,hk,by simp[h1],⟨by simp; exact h2.len,fun i' hi'=>?_⟩,?_,fun k' hk'=>?_⟩
      ·rw[oP,aC (by omega)]; exact h2.row i' hi'
      ·simp only;rw[oP,aA ⟨rfl,by omega⟩,List.length_set]; exact h3
      ·simp only at hk' ⊢;rw[bF (by omega)]at hk';rw[oP,aA ⟨rfl,by omega⟩,oP];by_cases hkk:k'=k
       ·subst hkk; rw[aA ⟨rfl,by omega⟩]
       ·rw[aC (by omega)]; exact h4 k' (by omega)
    ·rw[aC (bW (by omega))];refine aB.2 ⟨h1,by omega,fun i' hi'=>?_⟩;by_cases hii:i'=i
     ·subst hii; exact⟨h3,fun k' hk'=>h4 k' (by omega)⟩
     ·exact h2.row i' (by omega)
   ·refine⟨by simp[hlen],⟨by simp; omega,fun i' hi'=>?_⟩,?_,fun k hk=>by simp only at hk; omega⟩
    ·simp only;rw[yN,aA (by omega)]; exact hT.row i' hi'
    ·simp only;rw[yN,aC (by omega),hlen,Nat.sub_self];simp
   ·cases z with
    | inl t'=>refine aB.2 ⟨rfl,hc,?_⟩;simp only;rw[bF (by omega),aP];exact hz
    | inr y=>exact hz.elim
  ·rw[aC (bW (by omega))];refine aB.2 ?_;have:i=A.Nodes.length:=by omega
   subst this; exact⟨hlen,hT⟩
 ·cases z with
  | inl ms=>exact aB.2 hz
  | inr y=>exact hz.elim
theorem Qq(b:Bool){A B:aD}(hA:PF A)(hB:PF B){t:List (List Bool)}(hT:Hq A B A.Nodes.length t)(hi:i<A.Nodes.length)(hk:k<B.Nodes.length):
  Sq b (aPB t (A.Nodes.getD i default) (B.Nodes.getD k default)) (fun z=>z=fR A B i k):=by
 have nK:=(hA.w i hi).nK; have nK2:=(hA.w i hi).nK2;obtain⟨r3,h3,e3⟩:=Sb (A.Nodes.getD i default);obtain⟨r5,h5,e5⟩:=Sb (B.Nodes.getD k default);have k1:=vT b (A.Nodes.getD i default).Key (B.Nodes.getD k default).Key (by omega);have k2:=vT b (A.Nodes.getD i default).Key2 (B.Nodes.getD k default).Key2 (by omega);have hin:=hT.inputs (b:=b) hA hB hi (by omega) hk;unfold aPB aNC;simp only[Tr.den];rw[h3,h5,Fk];simp only[bi];refine Sq.bind (fun J=>J=fR A B i k) ?_ fun J hJ=>aB.2 hJ;unfold fR eqI;rw[<-e3,<-e5];generalize dG (fun x y=>x==y) (A.Nodes.getD i default).Key (B.Nodes.getD k default).Key=t1 at k1 ⊢;generalize dG (fun x y=>x==y) (A.Nodes.getD i default).Key2 (B.Nodes.getD k default).Key2=t2 at k2 ⊢;refine aU (fun h=>?_) (fun h=>aB.2 (by rw[h]; rfl));rw[h,jC];refine aU (fun h=>?_) (fun h=>aB.2 (by rw[h]; rfl));rw[h,jC];refine Sq.bind _ k1 fun z hz=>?_;rw[hz];refine aU (fun h=>?_) (fun h=>aB.2 (by rw[h]; rfl));rw[h,jC];refine Sq.bind _ k2 fun z hz=>?_;rw[hz];refine aU (fun h=>?_) (fun h=>aB.2 (by rw[h]; rfl));rw[h,jC];refine aU (fun h=>?_) (fun h=>aB.2 (by rw[h]; rfl));rw[h,jC];exact Sq.bind _ hin fun x hx=>aB.2 hx
theorem aIV(b:Bool){A B:aD}(hA:PF A)(hB:PF B):Sq b (aNY A B) (fun ms=>eU A B B.Nodes.length ms):=by
 have hnA:=hA.n;have hnB:=hB.n;unfold aNY aPQ;simp only[Tr.den];refine Sq.bind _ (Ou b hA hB) fun t ht=>?_;obtain⟨htl,hT⟩:=ht;refine Sq.bind (sel (fun ms=>eU A B B.Nodes.length ms) (fun _=>False)) (cB (fun s=>s.2) B.Nodes.length (by omega) (fun s=>eU A B s.2.toNat s.1) (fun s k hI hk hkN=>?_) eU.nil rfl) fun z hz=>?_
 ·obtain⟨ms,v3⟩:=s;simp only at hk hI;subst hk;simp only[aP]at hI;unfold Rq;simp only[Tr.den];by_cases hc:k<B.Nodes.length
  ·rw[aA (bT (by omega))];refine Sq.bind (sel (fun x=>x.2.2=ms/\dI 0 A.Nodes.length (fun v=>fR A B v k) x.1/\x.2.1=if 0<=x.1 then 1 else 2) (fun _=>False)) (Qd (fun s=>s.2.2.2) A.Nodes.length (by omega)
    (fun v s=>s.2.2.1=ms/\dI v A.Nodes.length (fun v=>fR A B v k) s.1/\s.2.1=if 0<=s.1 then 1 else 2) (fun s v hI hk hkN=>?_) ⟨rfl,dI.none,rfl⟩ rfl) fun z hz=>?_
   ·obtain⟨v5,v6,v7,v8⟩:=s;obtain⟨h1,h2,h3⟩:=hI;simp only at hk h1 h2 h3;subst h1 hk;unfold Rt;simp only[Tr.den];cases v with
    | zero=>rw[aC (bW (by omega))];exact aB.2 ⟨rfl,h2,h3⟩
    | succ v=>
     have e:((v+1:Nat):Int)-1=(v:Int):=by omega
     rw[e];simp only[aP];rw[aA (bT (by omega)),aA (by omega),aA (by omega)];refine Sq.bind _ (Qq b hA hB hT (show v<A.Nodes.length by omega) hc) fun z hz=>?_;have hd:=h2.down (show v<A.Nodes.length by omega);rw[<-hz]at hd;cases z with
     | true=>exact aB.2 ⟨by omega,rfl,rfl,by simpa using hd,by simp⟩
     | false=>exact aB.2 ⟨by omega,rfl,rfl,by simpa using hd,h3⟩
   ·cases z with
    | inr y=>exact hz.elim
    | inl x=>
     obtain⟨b9,b10,b11⟩:=x;obtain⟨h1,h2,h3⟩:=hz;simp only at h1 h2 h3;subst h1;simp only[sel];refine Sq.bind (sel (fun x=>x.2.2=b11/\∃ r,dI 0 A.Nodes.length (fun v=>same A B v k) r/\x.1=(if 0<=r then r else b9)/\x.2.1=if 0<=r then 0 else b10) (fun _=>False)) (Qd (fun s=>s.2.2.2) A.Nodes.length (by omega)
      (fun v s=>s.2.2.1=b11/\∃ r,dI v A.Nodes.length (fun v=>same A B v k) r/\s.1=(if 0<=r then r else b9)/\s.2.1=if 0<=r then 0 else b10) (fun s v hI hk hkN=>?_) ⟨rfl,-1,dI.none,rfl,rfl⟩ rfl) fun z hz=>?_
     ·obtain⟨v5,v6,v7,v8⟩:=s;obtain⟨h1,r,h2,h4,h5⟩:=hI;simp only at hk h1 h2 h4 h5;subst h1 hk;unfold Pw;simp only[Tr.den];cases v with
      | zero=>rw[aC (bW (by omega))];exact aB.2 ⟨rfl,r,h2,h4,h5⟩
      | succ v=>
       have e:((v+1:Nat):Int)-1=(v:Int):=by omega
       rw[e];simp only[aP];obtain⟨q1,q2⟩:=hT.row v (by omega);rw[aA (bT (by omega)),aA (by omega),aA (by omega)];have hd:=h2.down (show v<A.Nodes.length by omega);cases hz:same A B v k with
       | true=>
        rw[hz]at hd;rw[aA (by rw[<-hz]; exact q2 k hc)];refine aB.2 ⟨by omega,rfl,rfl,(v:Int),by simpa using hd,?_,?_⟩
        ·rw[aA (by omega)]
        ·rw[aA (by omega)]
       | false=>rw[hz]at hd;rw[aC (by have:=q2 k hc; rw[hz]at this; rw[this]; decide)];exact aB.2 ⟨by omega,rfl,rfl,r,by simpa using hd,h4,h5⟩
     ·cases z with
      | inr y=>exact hz.elim
      | inl x=>
       obtain⟨b20,b21,b22⟩:=x;obtain⟨h1,r,h4,h5,h6⟩:=hz;simp only at h1 h4 h5 h6;subst h1;simp only[sel];have hl:=hI.len;rw[aA (by simp only[eJ]; omega)];refine aB.2 ⟨rfl,hc,?_⟩;simp only;rw[bF (by omega),aP];have:aV.mk b20 (k:Int) b21=tS r b9 k:=by
        rw[h5,h6,h3];unfold tS;by_cases hr:0<=r
        ·rw[aA hr,aA hr,aA hr]
        ·rw[aC hr,aC hr,aC hr];by_cases ht0:0<=b9
         ·rw[aA ht0,aA ht0]
         ·rw[aC ht0,aC ht0,(h2.miss (by omega)).1]
       rw[this];exact hI.snoc h4 h2
  ·rw[aC (bW (by omega))];refine aB.2 ?_;have:k=B.Nodes.length:=by omega
   subst this; exact hI
 ·cases z with
  | inl ms=>exact aB.2 hz
  | inr y=>exact hz.elim
def qM(n:Nat)(m:aV)(k:Nat):Prop:=m.New=(k:Int)/\0<=m.Why/\m.Why<3/\(m.Why=2->m.Old = -1)/\(m.Why≠2->0<=m.Old/\m.Old<(n:Int))
instance (n:Nat)(m:aV)(k:Nat):Decidable (qM n m k):=by unfold qM; infer_instance
noncomputable def Ig (A B:aD)(m:aV)(k:Nat):Bool:=(decide (m.Why=0) && !same A B m.Old.toNat k) || (decide (m.Why=1) && !fR A B m.Old.toNat k)
noncomputable def pR (A B:aD)(ms:List aV):Int:=
 if ms.length≠B.Nodes.length then 2 else match (List.range ms.length).any fun k=>decide (¬ qM A.Nodes.length (ms.getD k default) k) with
  | true=>2
  | false=>match (List.range ms.length).any fun k=>Ig A B (ms.getD k default) k with | true=>26 | false=>0
theorem Ew{A:aD}(h:((List.range ms.length).any fun k=>decide (¬ qM A.Nodes.length (ms.getD k default) k))=false)(hk:k<ms.length):qM A.Nodes.length (ms.getD k default) k:=by rw[rX]at h;have:=h k (jV.2 hk);simpa using this
theorem aJD{b:Bool}{A B:aD}(N:Nat)(p:Nat->Bool)(c:Int)(hN:N<=1000000000000){bd:(List (List Int×Bool)×Int)->Option ((List (List Int×Bool)×Int)⊕(Unit⊕Int))}
  (h:∀ m (k:Nat),k<N->cT A B m->Sq b (bd (m,(k:Int))) (fun z=>match z with | .inl s=>s.2=IntKind.i64.wrap ((k:Int)+1)/\p k=false/\cT A B s.1 | .inr (.inr y)=>p k=true/\y=c | .inr (.inl _)=>False))
  (hf:∀ m,Sq b (bd (m,(N:Int))) (fun z=>z = .inr (.inl ()))):Sq b (cE bd ([],0)) (fun z=>z=match (List.range N).any p with | true=>.inr c | false=>.inl ()):=by
 refine cB (fun s=>s.2) N (by omega) (fun s=>cT A B s.1/\∀ i:Nat,(i:Int)<s.2->p i=false) (fun s k hI hk hkN=>?_) ⟨cT.nil,fun i hi=>by simp only at hi; omega⟩ rfl;obtain⟨m,v⟩:=s;obtain⟨h1,h2⟩:=hI;simp only at hk h1 h2;subst hk;by_cases hc:k<N
 ·refine(h m k hc h1).imp fun z hz=>?_;rcases z with s' | (_ | y)
  ·obtain⟨q1,q2,q3⟩:=hz;refine⟨q1,hc,q3,fun i hi=>?_⟩;rw[q1,bF (by omega)]at hi;by_cases hik:i=k
   ·subst hik; exact q2
   ·exact h2 i (by omega)
  ·exact hz.elim
  ·obtain⟨q1,q2⟩:=hz;have:(List.range N).any p=true:=uX.2 ⟨k,jV.2 hc,q1⟩;simp only[sel];rw[this,q2]
 ·have:k=N:=by omega
  subst this;refine(hf m).imp fun z hz=>?_;subst hz;simp only[sel];have:(List.range k).any p=false:=by rw[rX];intro i hi;have:=h2 i (by have:=jV.1 hi; omega);rw[this]; simp
  rw[this]
theorem sH(b:Bool){A B:aD}(hA:PF A)(hB:PF B)(ms:List aV):Sq b (aER A B ms) (fun z=>z=pR A B ms):=by
 have hnB:=hB.n;unfold aER aRN pR;simp only[Tr.den];by_cases hl:ms.length≠B.Nodes.length
 ·rw[aA (sF (by omega)),aA hl]; exact aB.2 rfl
 rw[aC (sD (by omega)),aC hl];refine Sq.bind _ (Kn ms.length (fun k=>decide (¬ qM A.Nodes.length (ms.getD k default) k)) 2 (by omega) (fun k hk=>?_) ?_) fun z hz=>?_
 ·unfold Ej;simp only[Tr.den,aP];rw[aA (bT (by omega)),aA (by omega)];refine Sq.bind (fun J=>J=decide (0<=(ms.getD k default).Old/\(ms.getD k default).Old<(A.Nodes.length:Int))) ?_ fun J hJ=>?_
  ·refine Sp.iteD (fun h=>?_) (fun h=>?_)
   ·refine aB.2 ?_;rw[qV,kP,kP]; omega
   ·refine aB.2 ?_
    symm; rw[Ee]; omega
  ·refine Sq.bind (fun J=>J=decide (¬ qM A.Nodes.length (ms.getD k default) k)) ?_ fun J' hJ'=>?_
   ·subst hJ
    repeat' refine aU (fun h=>?_) (fun h=>?_)
    all_goals
     refine aB.2 ?_;rw[qV];unfold qM;simp only[bne_iff_ne,lQ,kP,Ee,Dl,rN,iW,ne_eq,cS,false_iff,true_iff]at *
     omega
   ·rw[<-hJ'];cases J' <;> exact aB.2 rfl
 ·unfold Ej;simp only[Tr.den];rw[aC (bW (by omega))];exact aB.2 rfl
 ·subst hz;cases hb:(List.range ms.length).any fun k=>decide (¬ qM A.Nodes.length (ms.getD k default) k) with
  | true=>exact aB.2 rfl
  | false=>
   simp only[sel];refine Sq.bind _ (aJD (A:=A) (B:=B) ms.length (fun k=>Ig A B (ms.getD k default) k) 26 (by omega) (fun m k hk hm=>?_) (fun m=>?_)) fun z hz=>?_
   ·obtain⟨h1,h2,h3,h4,h5⟩:=Ew hb hk;unfold Ea;simp only[Tr.den,aP];rw[aA (bT (by omega)),aA (by omega)];refine Sq.bind (fun J=>J.2=Ig A B (ms.getD k default) k/\cT A B J.1) ?_ fun J hJ=>?_
    ·unfold Ig;have ho:(ms.getD k default).Why≠2->(ms.getD k default).Old=((ms.getD k default).Old.toNat:Int)/\(ms.getD k default).Old.toNat<A.Nodes.length:=fun h=>by have:=h5 h; omega
     by_cases hw0:(ms.getD k default).Why=0
     ·rw[aA (oI hw0),mI hw0,iC (show ¬ (ms.getD k default).Why=1 by omega)];obtain⟨o1,o2⟩:=ho (by omega);have h0:=sW b hA hB o2 (show k<B.Nodes.length by omega) hm;rw[<-o1]at h0;refine Sq.bind _ h0 fun x hx=>?_;obtain⟨t,m'⟩:=x;obtain⟨q1,q2⟩:=hx;simp only at q1 q2;rw[<-q1];cases t with
      | true=>simp only[iZ,cS,cO];rw[aC (vJ (show (ms.getD k default).Why≠1 by omega))]; exact aB.2 ⟨rfl,q2⟩
      | false=>exact aB.2 ⟨rfl,q2⟩
     ·rw[aC (vJ hw0),iC hw0];by_cases hw1:(ms.getD k default).Why=1
      ·rw[aA (oI hw1),mI hw1];obtain⟨o1,o2⟩:=ho (by omega);have h0:=Ab b hA hB o2 (show k<B.Nodes.length by omega) hm;rw[<-o1]at h0;refine Sq.bind _ h0 fun x hx=>?_;obtain⟨t,m'⟩:=x;obtain⟨q1,q2⟩:=hx;simp only at q1 q2;rw[<-q1];exact aB.2 ⟨rfl,q2⟩
      ·rw[aC (vJ hw1),iC hw1];exact aB.2 ⟨rfl,hm⟩
    ·obtain⟨m',t⟩:=J;obtain⟨q1,q2⟩:=hJ;simp only at q1 q2;rw[<-q1];cases t with
     | true=>exact aB.2 ⟨rfl,rfl⟩
     | false=>exact aB.2 ⟨rfl,rfl,q2⟩
   ·unfold Ea;simp only[Tr.den];rw[aC (bW (by omega))];exact aB.2 rfl
   ·subst hz;cases (List.range ms.length).any fun k=>Ig A B (ms.getD k default) k <;> exact aB.2 rfl
theorem aOV{x:Int}(h:0<=x):(if x>(0:Int) then x else (0:Int))=x:=by split <;> omega
theorem wF(b:Bool){A B:aD}(hA:PF A)(hB:PF B)(ms:List aV):Sq b (aMR A B ms) (fun z=>z=pR A B ms):=by
 have hnB:=hB.n;unfold aMR aQC pR;simp only[Tr.den];by_cases hl:ms.length≠B.Nodes.length
 ·rw[aA (sF (by omega)),aA hl]; exact aB.2 rfl
 rw[aC (sD (by omega)),aC hl];refine Sq.bind _ (Kn ms.length (fun k=>decide (¬ qM A.Nodes.length (ms.getD k default) k)) 2 (by omega) (fun k hk=>?_) ?_) fun z hz=>?_
 ·unfold Cr;simp only[Tr.den,aP];rw[aA (bT (by omega)),aA (by omega)];refine Sq.bind (fun J=>J=decide (¬ qM A.Nodes.length (ms.getD k default) k)) ?_ fun J' hJ'=>?_
  ·repeat' refine aU (fun h=>?_) (fun h=>?_)
   all_goals
    refine aB.2 ?_;rw[qV];unfold qM;simp only[bne_iff_ne,lQ,kP,Ee,Dl,rN,ne_eq,cS,false_iff,true_iff]at *
    omega
  ·rw[<-hJ'];cases J' <;> exact aB.2 rfl
 ·unfold Cr;simp only[Tr.den];rw[aC (bW (by omega))];exact aB.2 rfl
 ·subst hz;cases hb:(List.range ms.length).any fun k=>decide (¬ qM A.Nodes.length (ms.getD k default) k) with
  | true=>exact aB.2 rfl
  | false=>
   simp only[sel];refine Sq.bind _ (Ou b hA hB) fun t ht=>?_;obtain⟨htl,hT⟩:=ht;refine Sq.bind _ (Kn ms.length (fun k=>Ig A B (ms.getD k default) k) 26 (by omega) (fun k hk=>?_) ?_) fun z hz=>?_
   ·obtain⟨h1,h2,h3,h4,h5⟩:=Ew hb hk;unfold Fh;simp only[Tr.den,aP];rw[aA (bT (by omega)),aA (by omega)];refine Sq.bind (fun J=>J=(decide ((ms.getD k default).Why=0) && !same A B (ms.getD k default).Old.toNat k)) ?_ fun J hJ=>?_
    ·by_cases hw0:(ms.getD k default).Why=0
     ·obtain⟨o1,o2⟩:=h5 (by omega);rw[aA (oI hw0),aOV o1];obtain⟨q1,q2⟩:=hT.row (ms.getD k default).Old.toNat (by omega);rw[aA (by omega),aA (by omega)];exact aB.2 (by rw[q2 k (by omega),hw0]; rfl)
     ·rw[aC (vJ hw0)];exact aB.2 (by rw[iC hw0]; rfl)
    ·unfold Ig;rw[<-hJ];cases J with
     | true=>exact aB.2 rfl
     | false=>
      simp only[cS,cO,Bool.false_or];refine Sq.bind (fun J=>J=(decide ((ms.getD k default).Why=1) && !fR A B (ms.getD k default).Old.toNat k)) ?_ fun J hJ=>?_
      ·by_cases hw1:(ms.getD k default).Why=1
       ·obtain⟨o1,o2⟩:=h5 (by omega);rw[aA (oI hw1),aOV o1,aA (by omega),aA (by omega)];exact Sq.bind _ (Qq b hA hB hT (show (ms.getD k default).Old.toNat<A.Nodes.length by omega) (show k<B.Nodes.length by omega)) fun z hz=>aB.2 (by rw[hz,hw1]; rfl)
       ·rw[aC (vJ hw1)];exact aB.2 (by rw[iC hw1]; rfl)
      ·rw[<-hJ];cases J <;> exact aB.2 rfl
   ·unfold Fh;simp only[Tr.den];rw[aC (bW (by omega))];exact aB.2 rfl
   ·subst hz;cases (List.range ms.length).any fun k=>Ig A B (ms.getD k default) k <;> exact aB.2 rfl
def jX(ms:List aV)(v:Nat):Bool:=(List.range ms.length).any fun k=>decide ((ms.getD k default).New=(v:Int))&&decide ((ms.getD k default).Why≠2)
theorem Ti(b:Bool)(hl:ms.length<=1000000)(v:Nat):Sq b (Mm ms (v:Int)) (fun z=>z=jX ms v):=by
 unfold Mm Ku aCO Js;simp only[Tr.den];refine Sq.bind (fun z=>(0<=z↔jX ms v=true)) ?_ fun z hz=>aB.2 (by rw[qV,kP]; exact hz);unfold jX;refine Sq.bind (sel (fun _=>((List.range ms.length).any fun k=>decide ((ms.getD k default).New=(v:Int))&&decide ((ms.getD k default).Why≠2))=false)
  (fun y=>0<=y/\((List.range ms.length).any fun k=>decide ((ms.getD k default).New=(v:Int))&&decide ((ms.getD k default).Why≠2))=true)) (cB (fun s:Int=>s) ms.length (by omega)
   (fun s=>∀ i:Nat,(i:Int)<s->(decide ((ms.getD i default).New=(v:Int))&&decide ((ms.getD i default).Why≠2))=false) (fun s k hI hk hkN=>?_) (fun i hi=>by omega) rfl) fun z hz=>?_
 ·subst hk;unfold Bl;simp only[Tr.den,aP];by_cases hc:k<ms.length
  ·rw[aA (bT (by omega)),aA (by omega)];refine Sq.bind (fun z=>z=(decide ((ms.getD k default).New=(v:Int))&&decide ((ms.getD k default).Why≠2))) ?_ fun z hz=>?_
   ·unfold Zq Ns;simp only[Tr.den];refine Sq.bind (fun z=>z=(decide ((ms.getD k default).New=(v:Int))&&decide ((ms.getD k default).Why≠2))) ?_ fun z hz=>aB.2 hz;refine aU (fun h=>aB.2 ?_) (fun h=>aB.2 ?_)
    ·simp only[lQ]at h;rw[qV,mI h]; simp
    ·simp only[rN]at h;rw[iC h]; simp
   ·cases z with
    | true=>exact aB.2 ⟨by omega,uX.2 ⟨k,jV.2 hc,hz.symm⟩⟩
    | false=>
     refine aB.2 ⟨rfl,hc,fun i hi=>?_⟩;rw[bF (by omega)]at hi;by_cases hik:i=k
     ·subst hik; exact hz.symm
     ·exact hI i (by omega)
  ·rw[aC (bW (by omega))];refine aB.2 ?_;simp only[sel];rw[rX];intro i hi;have:=hI i (by have:=jV.1 hi; omega);rw[this]; simp
 ·cases z with
  | inl u=>exact aB.2 (by rw[show _=false from hz]; simp)
  | inr y=>exact aB.2 (by rw[hz.2]; simp[hz.1])
def jS(B:aD)(ms:List aV):List Int:=((List.range B.Nodes.length).filter fun v=>nR (B.Nodes.getD v default) && !jX ms v).map fun (v:Nat)=>(v:Int)
theorem uU{n:Nat}{p:Nat->Bool}:((List.range (n+1)).filter p).map (fun (v:Nat)=>(v:Int))=((List.range n).filter p).map (fun (v:Nat)=>(v:Int))++(if p n=true then [(n:Int)] else []):=by
 rw[List.range_succ,List.filter_append,Aw]
 congr 1
 cases h:p n <;> simp[h]
theorem rL{n:Nat}{p:Nat->Bool}:(((List.range n).filter p).map (fun (v:Nat)=>(v:Int))).length<=n:=by rw[oS]; exact iD (List.length_filter_le _ _) (by simp)
theorem Da(b:Bool){B:aD}(hn:B.Nodes.length<=40)(hl:ms.length<=1000000):Sq b (aIQ B ms) (fun z=>z=jS B ms):=by
 unfold aIQ aQK;simp only[Tr.den];refine Sq.bind (sel (fun z=>z=jS B ms) (fun _=>False)) (cB (fun s=>s.2) B.Nodes.length (by omega) (fun s=>s.1=((List.range s.2.toNat).filter fun v=>nR (B.Nodes.getD v default) && !jX ms v).map fun (v:Nat)=>(v:Int)) (fun s k hI hk hkN=>?_) rfl rfl) fun z hz=>?_
 ·obtain⟨v1,v2⟩:=s;simp only at hk hI;subst hk;simp only[aP]at hI;unfold So;simp only[Tr.den,aP];by_cases hc:k<B.Nodes.length
  ·rw[aA (bT (by omega)),aA (by omega)];refine Sq.bind _ (Ti b hl k) fun z hz=>?_;rw[Cj];simp only[bi];refine Sq.bind (fun J=>J.1=v1/\J.2=(nR (B.Nodes.getD k default) && !jX ms k)) ?_ fun J hJ=>?_
   ·rw[<-hz];exact aU (fun h=>aB.2 ⟨rfl,by rw[h]; rfl⟩) (fun h=>aB.2 ⟨rfl,by rw[h]; rfl⟩)
   ·obtain⟨j6,j7⟩:=J;obtain⟨q1,q2⟩:=hJ;simp only at q1 q2;have hlen:=rL (n:=k) (p:=fun v=>nR (B.Nodes.getD v default) && !jX ms v);rw[<-hI]at hlen;refine Sq.bind (fun J=>J=v1++(if (nR (B.Nodes.getD k default) && !jX ms k)=true then [(k:Int)] else [])) ?_ fun J hJ=>?_
    ·rw[<-q2,q1];cases j7 with
     | true=>simp only[dY]; rw[aA (by simp only[eJ]; omega)]; exact aB.2 rfl
     | false=>exact aB.2 (by simp)
    ·refine aB.2 ⟨rfl,hc,?_⟩;simp only;rw[bF (by omega),aP,uU,hJ,hI]
  ·rw[aC (bW (by omega))];refine aB.2 ?_;have:k=B.Nodes.length:=by omega
   subst this; exact hI
 ·cases z with
  | inl ms=>exact aB.2 hz
  | inr y=>exact hz.elim
theorem Qz(b:Bool){B:aD}(hn:B.Nodes.length<=40)(hl:ms.length<=1000000):Sq b (aQR B ms) (fun z=>z=jS B ms):=by
 unfold aQR aOK;simp only[Tr.den];refine Sq.bind (sel (fun z=>z=jS B ms) (fun _=>False)) (cB (fun s=>s.2) B.Nodes.length (by omega) (fun s=>s.1=((List.range s.2.toNat).filter fun v=>nR (B.Nodes.getD v default) && !jX ms v).map fun (v:Nat)=>(v:Int)) (fun s k hI hk hkN=>?_) rfl rfl) fun z hz=>?_
 ·obtain⟨v1,v2⟩:=s;simp only at hk hI;subst hk;simp only[aP]at hI;unfold Ry;simp only[Tr.den,aP];by_cases hc:k<B.Nodes.length
  ·rw[aA (bT (by omega))];refine Sq.bind (sel (fun z=>z.1=v1/\z.2=jX ms k) (fun _=>False)) (cB (fun s=>s.2.2) ms.length (by omega) (fun s=>s.1=v1/\s.2.1=(List.range s.2.2.toNat).any fun i=>decide ((ms.getD i default).New=(k:Int))&&decide ((ms.getD i default).Why≠2)) (fun s i hI hi hiN=>?_) ⟨rfl,rfl⟩ rfl) fun z hz=>?_
   ·obtain⟨u1,u2,u3⟩:=s;simp only at hi hI;subst hi;obtain⟨q1,q2⟩:=hI;simp only[aP]at q2;unfold Pb;simp only[Tr.den,aP];by_cases hci:i<ms.length
    ·rw[aA (bT (by omega))];refine Sq.bind (fun J=>J.1=v1/\J.2=(u2 || (decide ((ms.getD i default).New=(k:Int))&&decide ((ms.getD i default).Why≠2)))) ?_ fun J hJ=>?_
     ·refine aU (fun h=>aB.2 ⟨q1,by rw[h]; rfl⟩) (fun h=>?_);rw[aA (by omega),h];refine aU (fun h=>?_) (fun h=>aB.2 ⟨q1,?_⟩)
      ·rw[aA (by omega)];refine aB.2 ⟨q1,?_⟩;simp only[lQ]at h;rw[qV,mI h]; simp
      ·simp only[rN]at h;simp only; rw[iC h]; rfl
     ·refine aB.2 ⟨rfl,hci,hJ.1,?_⟩;simp only;rw[bF (by omega),aP,List.range_succ,List.any_append,hJ.2,q2];simp
    ·rw[aC (bW (by omega))];have:i=ms.length:=by omega
     subst this;exact aB.2 ⟨q1,q2⟩
   ·cases z with
    | inr y=>exact hz.elim
    | inl z=>
     obtain⟨b7,b8⟩:=z;obtain⟨z1,z2⟩:=hz;simp only at z1 z2;simp only[sel];rw[aA (by omega),Fk];simp only[bi];refine Sq.bind (fun J=>J.1=v1/\J.2=(nR (B.Nodes.getD k default) && !jX ms k)) ?_ fun J hJ=>?_
     ·rw[<-z2,z1];exact aU (fun h=>aB.2 ⟨rfl,by rw[h]; rfl⟩) (fun h=>aB.2 ⟨rfl,by rw[h]; rfl⟩)
     ·obtain⟨j6,j7⟩:=J;obtain⟨q1,q2⟩:=hJ;simp only at q1 q2;have hlen:=rL (n:=k) (p:=fun v=>nR (B.Nodes.getD v default) && !jX ms v);rw[<-hI]at hlen;refine Sq.bind (fun J=>J=v1++(if (nR (B.Nodes.getD k default) && !jX ms k)=true then [(k:Int)] else [])) ?_ fun J hJ=>?_
      ·rw[<-q2,q1];cases j7 with
       | true=>simp only[dY]; rw[aA (by simp only[eJ]; omega)]; exact aB.2 rfl
       | false=>exact aB.2 (by simp)
      ·refine aB.2 ⟨rfl,hc,?_⟩;simp only;rw[bF (by omega),aP,uU,hJ,hI]
  ·rw[aC (bW (by omega))];refine aB.2 ?_;have:k=B.Nodes.length:=by omega
   subst this; exact hI
 ·cases z with
  | inl ms=>exact aB.2 hz
  | inr y=>exact hz.elim
theorem Vi{B:aD}(h:(jS B ms).length=0)(hk:k<B.Nodes.length)(ho:nR (B.Nodes.getD k default)=true):jX ms k=true:=by have h0:=List.length_eq_zero_iff.1 h;unfold jS at h0;rw[List.map_eq_nil_iff,List.filter_eq_nil_iff]at h0;have:=h0 k (jV.2 hk);rw[ho]at this;simpa using this
theorem aBX{A:aD}(h:∀ k,k<ms.length->qM A.Nodes.length (ms.getD k default) k)(hk:jX ms k=true):k<ms.length/\0<=(ms.getD k default).Old/\(ms.getD k default).Old<(A.Nodes.length:Int):=by
 unfold jX at hk;obtain⟨i,hi,h1⟩:=uX.1 hk;have hi:=jV.1 hi;simp only[cJ,kP]at h1;obtain⟨q1,q2,q3,q4,q5⟩:=h i hi;have:i=k:=by omega
 subst this;exact⟨hi,q5 h1.2⟩
theorem aFZ(b:Bool)(hl:ms.length<=1000000):Sq b (aND ms ms) (fun z=>z=true):=by
 unfold aND aLR;simp only[Tr.den];rw[aC (by simp)];refine Sq.bind (sel (fun _=>True) (fun _=>False)) (cB (fun s:Int=>s) ms.length (by omega) (fun _=>True) (fun s k hI hk hkN=>?_) trivial rfl) fun z hz=>?_
 ·subst hk;unfold Sh;simp only[Tr.den,aP];by_cases hc:k<ms.length
  ·rw[aA (bT (by omega)),aA (by omega),aA (by omega),aC (by simp)];exact aB.2 ⟨rfl,hc,trivial⟩
  ·rw[aC (bW (by omega))];exact aB.2 trivial
 ·cases z with
  | inl u=>exact aB.2 rfl
  | inr y=>exact hz.elim
end Go.PL
