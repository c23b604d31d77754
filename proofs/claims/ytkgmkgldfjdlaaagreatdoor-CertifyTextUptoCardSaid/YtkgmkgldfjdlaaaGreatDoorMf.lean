/-
  CertifyText: for all arguments of bulk at most 1048576 the law returns true and leaves its arguments as they were; the listed tables are tied to the program's text. Own work.
  Parts ahead of it: From the reading of arguments to plain data; the frame of a law's row. Own work. What reads as data of the argument types reads as plain data of ours. Printed by a program of our own. The row of CertifyText from what its function gives, and its card. Own work. What these texts lean on of our older plain laws, turned to this seat (gather.py). Own work. Plain facts: numerals are read back; lines and words are cut as they were put together. Own work. Printing and parsing certificates, as plain functions. Own work. What Print prints; what Parse reads of a text. Own work. The example of the documentation. Own work. Parse reads line by line; the law. Own work.
-/
import Derived.Test.YtkgmkgldfjdlaaaGreatDoorMe
import Derived.Test.YtkgmkgldfjdlaaaGreatDoorRows
import Derived.JoinedCond
import Derived.ProofKit
import Derived.OpenShut
import Derived.Carry
import Derived.DataReads
import Derived.ChangeAnyMap
import Derived.Test.YtkgmkgldfjdlaaaGreatDoorCards
import Derived.Test.YtkgmkgldfjdlaaaGreatDoorTie
import Derived.SizedLaws
import Derived.Deep.DeepHandedRow
import Derived.Deep.DeepWitnessRowRef
import Derived.Lib.LaidTab
import Derived.Deep.DeepLaidRun
import Derived.KernelRfl
import Derived.Lib.AtoiAll
import Derived.Lib.Bytealg
import Derived.Sort.LotA
import Derived.Lib.ParseIntB
import Derived.Lib.SplitLaws
set_option maxHeartbeats 4000000
namespace Go.PL
open Go Go.RowKit
open Go.Proofs.YtkgmkgldfjdlaaaGreatDoor.Rows (uptoBulk uptoBulkAll)
variable {X:Type} {fuel:Nat} {ps:List MemPlace} {t:TypeId} {v:Value}
def RdL(F:Nat->Prop)(W:World)(l:List T)(cs:List Value):Prop:=cs.length=l.length/\∀ (j:Nat) x v,l[j]? = some x->cs[j]? = some v->Rd F W x v
theorem RdL.append{F:Nat->Prop}{W:World}{l l':List T}{cs cs':List Value}(h:RdL F W l cs)(h':RdL F W l' cs'):RdL F W (l++l') (cs++cs'):=by
 refine⟨by simp[h.1,h'.1],fun j x v hx hv=>?_⟩;by_cases hj:j<l.length
 ·rw[dB hj]at hx;rw[dB (by rw[h.1]; exact hj)]at hv;exact h.2 j x v hx hv
 ·rw[dF (by omega)]at hx;rw[dF (by rw[h.1]; omega),h.1]at hv;exact h'.2 _ x v hx hv
def zM(n:Int):Prop:=-9223372036854775808<=n/\n<=9223372036854775807
section
variable {H:Type} {enc:TypeId×Value->H} {P:Program} {W:World}
def iR(enc:TypeId×Value->H)(P:Program)(W:World)(t:TypeId)(c:X->List T)(ok:X->Prop)(fuel:Nat):Prop:=
 ∀ cs d ps,DataW.trod enc P W 0 (fun _=>true) true fuel t cs=some (d,ps)->uptoBulk d<=1048576->∃ x,RdL (fun b=>b<W.heap.size) W (c x) cs/\ok x
theorem kA{c:X->List T}{ok:X->Prop}:iR enc P W t c ok 0:=fun cs d ps h=>by simp[DataW.trod]at h
theorem RdL.one{F:Nat->Prop}{W:World}{x:T}(h:Rd F W x v):RdL F W [x] [v]:=by
 refine⟨rfl,fun j y u hy hu=>?_⟩;cases j with
 | zero=>simp at hy hu; subst hy; subst hu; exact h
 | succ j=>simp at hy
theorem oE(ht:P.underlying t=some (.int .i64))(fuel:Nat):iR enc P W t aD zM fuel:=by
 cases fuel with
 | zero=>exact kA
 | succ fuel=>
  intro cs d ps h _;unfold DataW.trod at h;rw[ht]at h;split at h <;> try (simp_all; done)
  rename_i k k' n hk;split at h
  ·rename_i hk2;cases hk;obtain⟨rfl,hwf⟩:=hk2;refine⟨n,RdL.one (.int _ _),?_⟩;simp[Lit.wf,IntKind.min,IntKind.max,IntKind.signed,IntKind.bits]at hwf;exact⟨by omega,by omega⟩
  ·cases h
def qH(s:ByteArray):Prop:=s.size<=1048576
theorem vC(ht:P.underlying t=some .string)(fuel:Nat):iR enc P W t nS qH fuel:=by
 cases fuel with
 | zero=>exact kA
 | succ fuel=>
  intro cs d ps h hw;unfold DataW.trod at h;rw[ht]at h;split at h <;> try (simp_all; done)
  rename_i s hk;split at h
  ·cases h;refine⟨s,RdL.one (.str _),?_⟩;have:s.data.toList.length+1<=1048576:=hw;have:s.size=s.data.toList.length:=rfl;unfold qH;omega
  ·cases h
theorem nJ{α β:Type}{f:α->Option β}:∀ {l:List α} {r:List β},l.mapM f=some r->r.length=l.length/\∀ (i:Nat) a b,l[i]? = some a->r[i]? = some b->f a=some b
 | [],r,h=>by simp at h; subst h; simp
 | x::l,r,h=>by
  rw[nC]at h;simp only[Option.bind_eq_bind,wG]at h;obtain⟨y,hy,ys,hys,hr⟩:=h;simp at hr; subst hr;obtain⟨h1,h2⟩:=nJ hys;refine⟨by simp[h1],fun i a b ha hb=>?_⟩;cases i with
  | zero=>simp at ha hb; subst ha; subst hb; exact hy
  | succ i=>exact h2 i a b (by simpa using ha) (by simpa using hb)
theorem uB:∀ d:DataW H,1<=uptoBulk d
 | .lit l=>by unfold uptoBulk; split <;> omega
 | .nil=>by simp[uptoBulk]
 | .ptr d=>by simp[uptoBulk]
 | .slice e s=>by simp[uptoBulk]
 | .agg p=>by simp[uptoBulk]
 | .iface t d=>by simp[uptoBulk]
 | .map e=>by simp[uptoBulk]
 | .held h=>by simp[uptoBulk]
theorem oT:∀ l:List (DataW H),l.length<=uptoBulkAll l
 | []=>by simp
 | d::l=>by simp only[uptoBulkAll,lE]; have:=uB d; have:=oT l; omega
theorem pE:∀ {l:List (DataW H)} {d:DataW H},d∈l->uptoBulk d<=uptoBulkAll l
 | x::l,d,h=>by
  simp only[uptoBulkAll];rcases aL.1 h with rfl | h
  ·omega
  ·have:=pE h; omega
def okL(_b:Nat)(ok:X->Prop)(xs:List X):Prop:=xs.length<=1048576/\∀ x,x∈xs->ok x
theorem vX{t e b:Nat}(ht:P.underlying t=some (.slice e))(hn:Nat.blt 0 (P.cellsOf e)=true)(hb:P.bytesOf e=b){X:Type}[Inhabited X]{c:X->List T}{ok:X->Prop}{fuel:Nat}(he:iR enc P W e c ok fuel)(mk:List X->T)
  (hmk:∀ xs,(mk xs).view=some (xs.length,fun i=>c (xs.getD i default))):iR enc P W t (fun xs=>[mk xs]) (okL b ok) (fuel+1):=by
 have hz:0<P.cellsOf e:=by simpa[cB] using hn
 clear hn;subst hb;intro cs d ps h hw;unfold DataW.trod at h;rw[ht]at h;split at h <;> try (simp_all; done)
 ·
  rename_i hk;cases hk;refine⟨[],RdL.one (.nil (hmk [])),by simp,by simp⟩
 ·rename_i e' a len cap hk;cases hk;simp only at h;split at h
  ·rename_i hcap;simp only[wG,fJ]at h;obtain⟨elems,hel,rest,hrest,hd⟩:=h;simp only[dS]at hd;obtain⟨rfl,rfl⟩:=hd;obtain⟨hlen,hget⟩:=nJ hel;simp only[List.length_range]at hlen;have hwt:uptoBulkAll (elems.map (·.1))<=1048576:=by have hw2:uptoBulkAll (elems.map (·.1))+uptoBulkAll (rest.map (·.1))+1<=1048576:=hw;omega
   have hl:len<=1048576:=by have:=oT (elems.map (·.1));simp only[List.length_map,hlen]at this;omega
   have each:∀ i,i<len->∃ x vs,W.cells? 0 (a.add (i*P.cellsOf e)) (P.cellsOf e)=some vs/\RdL (fun b=>b<W.heap.size) W (c x) vs/\ok x:=by
    intro i hi;have hi':i<elems.length:=by omega
    have:=hget i i elems[i] (by simp[hi]) (by simp[hi']);simp only[wG]at this;obtain⟨vs,hvs,htr⟩:=this;obtain⟨x,h1,h2⟩:=he vs elems[i].1 elems[i].2 htr (kG (pE (kN (lC hi'))) hwt);exact⟨x,vs,hvs,h1,h2⟩
   have all:∃ xs:List X,xs.length=len/\∀ i,i<len->∃ vs,W.cells? 0 (a.add (i*P.cellsOf e)) (P.cellsOf e)=some vs/\RdL (fun b=>b<W.heap.size) W (c (xs.getD i default)) vs/\ok (xs.getD i default):=by
    clear hel hrest hget hw hwt hl hlen hcap
    induction len with
    | zero=>exact⟨[],rfl,fun i hi=>absurd hi (Nat.not_lt_zero _)⟩
    | succ len ih=>
     obtain⟨xs,h1,h2⟩:=ih fun i hi=>each i (by omega);obtain⟨x,vs,h3,h4,h5⟩:=each len (by omega);refine⟨xs++[x],by simp[h1],fun i hi=>?_⟩;by_cases hil:i<len
     ·have:(xs++[x]).getD i default=xs.getD i default:=by simp[dB (show i<xs.length by omega)]
      rw[this]; exact h2 i hil
     ·have hil:i=len:=by omega
      subst hil;have:(xs++[x]).getD i default=x:=by simp[<-h1]
      rw[this]; exact⟨vs,h3,h4,h5⟩
   obtain⟨xs,hxl,hxs⟩:=all;refine⟨xs,RdL.one ?_,by rw[hxl]; exact hl,fun x hx=>?_⟩
   ·have hsz:∀ i,i<len->(c (xs.getD i default)).length=P.cellsOf e:=by intro i hi;obtain⟨vs,h1,h2,_⟩:=hxs i hi;rw[<-h2.1];unfold World.cells? at h1;rw[aH (Nat.zero_le _)]at h1;have:=(nJ h1).1; simpa using this
    have hcell:∀ i j,i<len->j<P.cellsOf e->∃ u,W.cell? (a.add (i*P.cellsOf e+j))=some u/\∀ x,(c (xs.getD i default))[j]? = some x->Rd (fun b=>b<W.heap.size) W x u:=by intro i j hi hj;obtain⟨vs,h1,h2,_⟩:=hxs i hi;unfold World.cells? at h1;rw[aH (Nat.zero_le _)]at h1;obtain⟨h3,h4⟩:=nJ h1;simp only[List.length_range]at h3;have:=h4 j j vs[j] (by simp[hj]) (by simp[h3,hj]);rw[Addr.add_add]at this;exact⟨vs[j],this,fun x hx=>h2.2 j x vs[j] hx (by simp[h3,hj])⟩
    let vsf:Nat->Nat->Value:=fun i j=>(W.cell? (a.add (i*P.cellsOf e+j))).getD undef;refine .sl a cap (P.cellsOf e) vsf (n:=len) (f:=fun i=>c (xs.getD i default)) (by rw[hmk,hxl]) hcap.2.1 (fun hn=>?_) hsz (fun i j hi hj=>?_) (fun i j x hi hx=>?_)
    ·obtain⟨u,hu,_⟩:=hcell 0 0 hn hz;have hb:=World.block_lt_of_cell? W _ hu;have:(a.add (0*P.cellsOf e+0)).block=a.block:=by unfold Addr.add; split <;> rfl
     rw[this]at hb;exact hb
    ·obtain⟨u,hu,_⟩:=hcell i j hi hj;simp[vsf,hu]
    ·have hj:j<P.cellsOf e:=by rw[<-hsz i hi]; exact(bZ.1 hx).1
     obtain⟨u,hu,hr⟩:=hcell i j hi hj;simp only[vsf,hu,oQ];exact hr x hx
   ·obtain⟨i,hi,rfl⟩:=List.getElem_of_mem hx;obtain⟨_,_,_,h⟩:=hxs i (by omega);simpa[bO,hi] using h
  ·cases h
def uM(enc:TypeId×Value->H)(P:Program)(W:World)(off:Nat)(fs:List Field)(c:X->List T)(ok:X->Prop)(fuel:Nat):Prop:=
 ∀ (cs:List Value) xs,fs.mapM (fun f=>DataW.trod enc P W 0 (fun _=>true) true fuel f.type ((cs.drop f.offset).take (P.cellsOf f.type)))=some xs ->
  uptoBulkAll (xs.map (·.1))<=1048576->cs.length=off+(fs.map fun f=>P.cellsOf f.type).sum->∃ x,RdL (fun b=>b<W.heap.size) W (c x) (cs.drop off)/\ok x
theorem yG{off:Nat}:uM enc P W off [] (fun (_:Unit)=>[]) (fun _=>True) fuel:=by intro cs xs _ _ hl;simp at hl;exact⟨(),⟨by simp[hl],by simp⟩,trivial⟩
theorem lJ{off:Nat}{f:Field}{fs:List Field}{Y:Type}{c:X->List T}{c':Y->List T}{ok:X->Prop}{ok':Y->Prop}(ho:f.offset=off)(h:iR enc P W f.type c ok fuel)
  (h':uM enc P W (off+P.cellsOf f.type) fs c' ok' fuel):uM enc P W off (f::fs) (fun (x:X×Y)=>c x.1++c' x.2) (fun x=>ok x.1/\ok' x.2) fuel:=by
 intro cs xs hx hw hl;rw[nC]at hx;simp only[Option.bind_eq_bind,wG]at hx;obtain⟨y,hy,ys,hys,hr⟩:=hx;simp at hr; subst hr;simp only[fX,uptoBulkAll]at hw;obtain⟨x,h1,h2⟩:=h _ _ _ hy (by omega);simp only[fX,List.sum_cons]at hl;obtain⟨x',h3,h4⟩:=h' cs ys hys (by omega) (by omega);refine⟨(x,x'),?_,h2,h4⟩;have:cs.drop off=(cs.drop f.offset).take (P.cellsOf f.type)++cs.drop (off+P.cellsOf f.type):=by rw[ho,<-List.drop_drop,sT]
 rw[this];exact h1.append h3
theorem tW{fs:Array Field}(ht:P.underlying t=some (.struct fs)){c:X->List T}{ok:X->Prop}(h:uM enc P W 0 fs.toList c ok fuel)
  (hs:P.cellsOf t=(fs.toList.map fun f=>P.cellsOf f.type).sum):iR enc P W t c ok (fuel+1):=by
 intro cs d ps hd hw;unfold DataW.trod at hd;rw[ht]at hd;split at hd <;> try (simp_all; done)
 rename_i cs0 _ _ fs' hk;cases hk;split at hd
 ·rename_i hl;simp only[fJ]at hd;obtain⟨xs,hxs,hd⟩:=hd;simp only[dS]at hd;obtain⟨rfl,_⟩:=hd;have hw2:uptoBulkAll (xs.map (·.1))+1<=1048576:=hw;have:=h _ xs hxs (by omega) (by rw[hl,hs]; simp);simpa using this
 ·cases hd
theorem iR.map{Y:Type}{c:X->List T}{ok:X->Prop}{c':Y->List T}{ok':Y->Prop}(h:iR enc P W t c ok fuel)(g:X->Y)(hc:∀ x,c' (g x)=c x)(ho:∀ x,ok x->ok' (g x)):
  iR enc P W t c' ok' fuel:=by
 intro cs d ps hd hw;obtain⟨x,h1,h2⟩:=h cs d ps hd hw;exact⟨g x,by rw[hc]; exact h1,ho x h2⟩
end
section
variable {H:Type} {enc:TypeId×Value->H} {P:Program} {W:World} {r:Reach} {base:Nat}
theorem As{c:X->T}{ok:X->Prop}(hO:∀ fuel,iR enc P W t (fun x=>[c x]) ok fuel){d:DataW H} 
  (hv:v.cells=#[v])(h:DataW.Trod enc P W 0 (fun _=>true) true t v d ps)(hw:uptoBulk d<=1048576):∃ x,Rd (fun b=>b<W.heap.size) W (c x) v/\ok x:=by
 obtain⟨fuel,hf⟩:=h;obtain⟨x,h1,h2⟩:=hO fuel _ _ _ hf hw;exact⟨x,h1.2 0 _ _ (by simp) (by simp[hv]),h2⟩
theorem xZ(ht:P.underlying t=some .string){d:DataW H} 
  (hv:Value.okWide P W r base t v)(h:DataW.Trod enc P W 0 (fun _=>true) true t v d ps)(hw:uptoBulk d<=1048576):∃ x,Rd (fun b=>b<W.heap.size) W (.str x) v/\qH x:=by
 obtain⟨n,rfl⟩:=Go.WideShapes.okWide_string ht hv;exact As (c:=fun x=>.str x) (vC ht) rfl h hw
theorem Cl{e:TypeId}(ht:P.underlying t=some (.slice e)){c:X->T}{ok:X->Prop}(hO:∀ fuel,iR enc P W t (fun x=>[c x]) ok fuel){d:DataW H} 
  (hv:Value.okWide P W r base t v)(h:DataW.Trod enc P W 0 (fun _=>true) true t v d ps)(hw:uptoBulk d<=1048576):∃ x,Rd (fun b=>b<W.heap.size) W (c x) v/\ok x:=by
 obtain⟨a,l,q,rfl⟩:=Go.WideShapes.okWide_slice ht hv;exact As hO rfl h hw
end
theorem sP{W W':World}(h:Below W.heap.size W W')(may:MemPlace->Prop):W.keptBut W' may:=by
 refine⟨h.os,h.output,fun i hi=>?_⟩;rw[h.block i hi];cases W.heap[i]? with
 | none=>trivial
 | some o=>cases o <;> simp
section
variable {H:Type} {enc:TypeId×Value->H} {P:Program}
theorem mE(hl:laidOutB P=true){W W':World}(hb:Below W.heap.size W W'):∀ {ts:List TypeId} {vs:List Value} {ds:List (DataW H)} {ps:List MemPlace},
  (∀ t,t∈ts->P.readableRec t=true/\t<P.types.size)->DataW.TrodAll enc P W 0 (fun _=>true) true ts vs ds ps->(∀ x,x∈ps->x.block<W.heap.size) ->
  DataW.TrodAll enc P W' 0 (fun b=>decide (b<W.heap.size)) true ts vs ds ps
 | [],[],[],ps,_,h,_=>h
 | t::ts,v::vs,d::ds,ps,hr,h,hp=>by obtain⟨p,q,h1,h2,rfl⟩:=h;obtain⟨r1,r2⟩:=hr t (by simp);exact⟨p,q,Go.RowKit.Below.trod hl r1 r2 h1 hb (fun x hx=>hp x (gI _ hx)),mE hl hb (fun t ht=>hr t (bI _ ht)) h2 (fun x hx=>hp x (gV _ hx)),rfl⟩
 | [],_::_,_,_,_,h,_=>by simp[DataW.TrodAll]at h
 | [],[],_::_,_,_,h,_=>by simp[DataW.TrodAll]at h
 | _::_,[],_,_,_,h,_=>by simp[DataW.TrodAll]at h
 | _::_,_::_,[],_,_,h,_=>by simp[DataW.TrodAll]at h
theorem Ie(hlay:laidOutB P=true){f:Func}{s:ChangeSpec}{W W':World}{args:Array Value}{ds gs:List (DataW H)}{before:List MemPlace}{tb:TypeId}(hvars:s.vars=[])
  (hW:DataW.Whole enc P f.params.toList s.vars false W args.toList ds gs before)(hb:Below W.heap.size W W')(hres:f.resultTypes=#[tb])(htb:P.underlying tb=some .bool)
  (hread:∀ t,t∈f.params.toList->P.readableRec t=true/\t<P.types.size)(hfn:s.fn H (ds++gs)={ results:=[.lit (.bool true)],args:=ds }):
  s.post enc P f false true false false W args (.bool true) W':=by
 have hW':=hW;obtain⟨p,q,hA,hV,rfl,_⟩:=hW;rw[hvars]at hV;cases gs with
 | cons g gs=>simp[DataW.TrodVars]at hV
 | nil=>
  simp only[DataW.TrodVars]at hV;subst hV;have hlt:∀ x,x∈p->x.block<W.heap.size:=fun x hx=>by simpa using hW'.lt x (by simp[hx])
  refine⟨ds,[],p++[],[],p,[],hW',?_,?_,?_,sP hb _,fun h=>by cases h⟩
  ·rw[hfn,hres];exact⟨[],[],⟨1,by simp[DataW.trod,htb,Value.cells]⟩,rfl,rfl⟩
  ·rw[hfn];exact mE hlay hb hread hA hlt
  ·rw[hvars,hfn]; exact rfl
theorem dK.law{P:Program}{k:FuncId}{args:List PV}(h:dK P k args [] [] (Ret (.t (.bool true)))){W:World}{vs:Array Value}(hs:vs.size=args.length)
  (hv:∀ (j:Nat) x v,args[j]? = some x->vs[j]? = some v->VR (fun b=>b<W.heap.size) (fun _=>undef) W x v)(hg:GLP P (fun b=>b<W.heap.size) W):
  Calls P k vs W fun e W'=>e = .returned (.bool true)/\Below W.heap.size W W':=by
 refine(h (fun b=>b<W.heap.size) (fun _=>undef) W vs hs hv ⟨by simp,by simp,by simp⟩ (fun _ h=>h) hg).mono ?_;rintro e w' ⟨v,r,H',F',g',rfl,hr,hvr,hW⟩;unfold Ret at hr;subst hr;have:=hvr.inv_bool;subst this;exact⟨rfl,⟨hW.ext.os,hW.ext.tape,hW.ext.output,hW.ext.size,fun b hb=>hW.ext.block b hb (by rintro⟨o,x,hx,_⟩; simp at hx)⟩⟩
end
set_option maxRecDepth 20000
def fQ(x:aF):Prop:=zM x.Node/\zM x.Rule/\zM x.N
theorem o25{H:Type}{enc:TypeId×Value->H}{W:World}(fuel:Nat):iR enc Proofs.Tryz.prog W 25 aV fQ fuel:=by
 cases fuel with
 | zero=>exact kA
 | succ fuel=>exact(tW Proofs.Tryz.underlying25 (lJ (by kernel_rfl) (oE Proofs.Tryz.underlying3 fuel) (lJ (by kernel_rfl) (oE Proofs.Tryz.underlying3 fuel) (lJ (by kernel_rfl) (oE Proofs.Tryz.underlying3 fuel) yG))) (by kernel_rfl)).map (fun x=>aF.mk x.1 x.2.1 x.2.2.1) (fun _=>rfl) (fun x h=>⟨h.1,h.2.1,h.2.2.1⟩)
theorem o22{H:Type}{enc:TypeId×Value->H}{W:World}(fuel:Nat):iR enc Proofs.Tryz.prog W 22 (fun xs=>[eL aV (xs)]) (okL 24 fQ) fuel:=by
 cases fuel with
 | zero=>exact kA
 | succ fuel=>exact vX Proofs.Tryz.underlying22 (by kernel_rfl) (by kernel_rfl) (o25 fuel) (fun xs=>eL aV (xs)) (fun _=>rfl)
end Go.PL
set_option maxRecDepth 100000
namespace Go.Proofs.YtkgmkgldfjdlaaaGreatDoor
open Go Go.RowKit
variable {W:World}
abbrev oN:List (String×DataW Unit):=[("math/bits.deBruijn32tab", Rows.laid_math_bits_deBruijn32tab),("math/bits.deBruijn64tab", Rows.laid_math_bits_deBruijn64tab),("internal/strconv.uint64pow10", Rows.laid_internal_strconv_uint64pow10),("unicode/utf8.acceptRanges", Rows.laid_unicode_utf8_acceptRanges),("strconv.ErrRange", Rows.laid_strconv_ErrRange),("strconv.ErrSyntax", Rows.laid_strconv_ErrSyntax),("unicode.White_Space", Rows.laid_unicode_White_Space),("strings.asciiSpace", Rows.laid_strings_asciiSpace),("unicode/utf8.first", Rows.laid_unicode_utf8_first)]
theorem own:ownKnob Tryz.prog.godebug=none:=by kernel_rfl
theorem Th:Tryz.prog.globalNamed "internal/strconv.uint64pow10" = some 5:=by kernel_rfl
theorem Ds:(Rows.laid_internal_strconv_uint64pow10:DataW Unit)=Lib.tabData .u64 Lib.pow10Tab:=by rfl
theorem Kz(h:laidMetH Tryz.prog oN W):Lib.TabIs Tryz.prog W "internal/strconv.uint64pow10" .u64 Lib.pow10Tab/\5<W.heap.size:=by
 have h':laidMet Tryz.prog oN W:=h;obtain⟨ps,hv,_⟩:=h';obtain⟨g1,t1,cs1,f1,p1,q1,_,_,_,_,hv2,_⟩:=hv;obtain⟨g2,t2,cs2,f2,p2,q2,_,_,_,_,hv3,_⟩:=hv2;obtain⟨g,t,cs,fuel,p,q,hg,hty,hvar,hd,_,_⟩:=hv3;obtain rfl:=Option.some.inj (Th.symm.trans hg)
 have hT:Lib.TabIs Tryz.prog W "internal/strconv.uint64pow10" .u64 Lib.pow10Tab:=by
  have ht':((Tryz.prog.globals[5]?).map (·.type))=some 202:=by kernel_rfl
  obtain rfl:=Option.some.inj (ht'.symm.trans hty);rw[Ds]at hd;unfold Lib.TabIs;rw[hvar,<-Lib.cells_of_tab Tryz.underlying202 Tryz.underlying152 (by kernel_rfl) (by kernel_rfl) hd]
 refine⟨hT,?_⟩;have hc:=hT.cell Th 0 (by decide);refine Classical.byContradiction fun h0=>?_;have:W.heap[5]? = none:=Array.getElem?_eq_none (by omega);simp[World.cell?,this]at hc
theorem glm(hsh:W.ShapedOpen Tryz.prog):PL.GLM Tryz.prog (fun b=>b<W.heap.size) W:=by
 intro b hb
 obtain rfl:=Option.some.inj ((show Tryz.prog.globalNamed "internal/bytealg.MaxLen" = some 2 by kernel_rfl).symm.trans hb)
 obtain⟨m,hm⟩:∃ m,W.cell? ⟨2,0,none⟩=some (.int .i64 m):=Go.Proofs.cell_of_shapedOpen_int (zero:=#[.int .i64 0]) (t:=3) hsh (of_decide_eq_true (by kernel_rfl)) (by kernel_rfl) rfl (by kernel_rfl) (by kernel_rfl) Tryz.underlying3;refine⟨⟨m,hm⟩,Classical.byContradiction fun h0=>?_⟩;have:W.heap[2]? = none:=Array.getElem?_eq_none (by omega);simp[World.cell?,this]at hm
theorem Et:(Rows.laid_strings_asciiSpace:DataW Unit)=Lib.tabData .u8 Lib.asciiSpaceTab:=by rfl
theorem gls(h:laidMetH Tryz.prog oN W):PL.GLS Tryz.prog (fun b=>b<W.heap.size) W:=by
 have h':laidMet Tryz.prog oN W:=h;obtain⟨ps,hv,_⟩:=h';obtain⟨g0,t0,cs0,f0,p0,q0,i0,j0,k0,l0,hv1,_⟩:=hv;obtain⟨g1,t1,cs1,f1,p1,q1,i1,j1,k1,l1,hv2,_⟩:=hv1;obtain⟨g2,t2,cs2,f2,p2,q2,i2,j2,k2,l2,hv3,_⟩:=hv2;obtain⟨g3,t3,cs3,f3,p3,q3,i3,j3,k3,l3,hv4,_⟩:=hv3;obtain⟨g4,t4,cs4,f4,p4,q4,i4,j4,k4,l4,hv5,_⟩:=hv4;obtain⟨g5,t5,cs5,f5,p5,q5,i5,j5,k5,l5,hv6,_⟩:=hv5;obtain⟨g6,t6,cs6,f6,p6,q6,i6,j6,k6,l6,hv7,_⟩:=hv6;obtain⟨g,t,cs,fuel,p,q,hg,hty,hvar,hd,_,_⟩:=hv7
 have gS:Tryz.prog.globalNamed "strings.asciiSpace" = some 0:=by kernel_rfl
 obtain rfl:=Option.some.inj (gS.symm.trans hg)
 have hT:Lib.TabIs Tryz.prog W "strings.asciiSpace" .u8 Lib.asciiSpaceTab:=by
  have ht':((Tryz.prog.globals[0]?).map (·.type))=some 101:=by kernel_rfl
  obtain rfl:=Option.some.inj (ht'.symm.trans hty);rw[Et]at hd;unfold Lib.TabIs;rw[hvar,<-Lib.cells_of_tab Tryz.underlying101 Tryz.underlying5 (by kernel_rfl) (by kernel_rfl) hd]
 intro b hb;obtain rfl:=Option.some.inj (gS.symm.trans hb);refine⟨hT,?_⟩;have hc:=hT.cell gS 0 (by decide);refine Classical.byContradiction fun h0=>?_;have:W.heap[0]? = none:=Array.getElem?_eq_none (by omega);simp[World.cell?,this]at hc
theorem glt(h:laidMetH Tryz.prog oN W):PL.GLT Tryz.prog (fun b=>b<W.heap.size) W:=by intro b hb;obtain⟨h1,h2⟩:=Kz h;obtain rfl:=Option.some.inj (Th.symm.trans hb);exact⟨h1,h2⟩
theorem ifc{P:Program}{t:TypeId}{cs:List Value}{d:DataW Unit}{p:List MemPlace}{m:Array (String×TypeId)}(hu:P.underlying t=some (.interface m)):
  ∀ fuel,DataW.trod (fun _=>()) P W 0 (fun _=>true) false fuel t cs=some (d,p)->∃ v,cs=[v]/\(v = .nilIface\/∃ a b,v = .iface a b)
 | 0,h=>by simp[DataW.trod]at h
 | fuel+1,h=>by unfold DataW.trod at h;rw[hu]at h;simp only at h;split at h <;> first | exact⟨_,rfl,.inl rfl⟩ | exact⟨_,rfl,.inr ⟨_,_,rfl⟩⟩ | (rename_i hx; cases hx) | cases h | simp_all
theorem Wn{n:String}{b0:Nat}(hn:Tryz.prog.globalNamed n=some b0)(hT:(Tryz.prog.globals[b0]?).map (·.type)=some 55){g:Nat}{t:TypeId}{cs:Array Value}{fuel:Nat}{d:DataW Unit}{p:List MemPlace}
  (hg:Tryz.prog.globalNamed n=some g)(hty:(Tryz.prog.globals[g]?).map (·.type)=some t)(hvar:W.var? Tryz.prog n=some cs)(hd:DataW.trod (fun _=>()) Tryz.prog W 0 (fun _=>true) false fuel t cs.toList=some (d,p)):
  PL.GLE Tryz.prog (fun b=>b<W.heap.size) W n:=by
 intro b hb;obtain rfl:=Option.some.inj (hg.symm.trans hb);obtain rfl:=Option.some.inj (hn.symm.trans hg);obtain rfl:=Option.some.inj (hT.symm.trans hty);obtain⟨v,hv,hk⟩:=ifc Tryz.underlying55 fuel hd;have hc:=World.var?_cell hg hvar 0;have h0:cs[0]? = some v:=by rw[<-Array.getElem?_toList,hv]; rfl
 rw[h0]at hc;refine⟨⟨v,hc,hk⟩,Classical.byContradiction fun h0=>?_⟩;have:W.heap[b0]? = none:=Array.getElem?_eq_none (by omega);simp[World.cell?,this]at hc
theorem glp(h:laidMetH Tryz.prog oN W)(hsh:W.ShapedOpen Tryz.prog):PL.GLP Tryz.prog (fun b=>b<W.heap.size) W:=by have h':laidMet Tryz.prog oN W:=h;obtain⟨ps,hv,_⟩:=h';obtain⟨g0,t0,cs0,f0,p0,q0,i0,j0,k0,l0,hv1,_⟩:=hv;obtain⟨g1,t1,cs1,f1,p1,q1,i1,j1,k1,l1,hv2,_⟩:=hv1;obtain⟨g2,t2,cs2,f2,p2,q2,i2,j2,k2,l2,hv3,_⟩:=hv2;obtain⟨g3,t3,cs3,f3,p3,q3,i3,j3,k3,l3,hv4,_⟩:=hv3;obtain⟨g4,t4,cs4,f4,p4,q4,i4,j4,k4,l4,hv5,_⟩:=hv4;obtain⟨g5,t5,cs5,f5,p5,q5,i5,j5,k5,l5,hv6,_⟩:=hv5;exact⟨glt h,fun _=>⟨Wn (b0:=3) (by kernel_rfl) (by kernel_rfl) i5 j5 k5 l5,Wn (b0:=4) (by kernel_rfl) (by kernel_rfl) i4 j4 k4 l4⟩,fun _=>⟨gls h,glm hsh⟩⟩
def Rp:DataW Unit->Array Value
 | .agg l=>(l.flatMap fun d=>match d with | .lit (.int k z)=>[Value.int k z] | .agg m=>m.map fun d=>(match d with | .lit (.int k z)=>Value.int k z | _=>.bool false) | _=>[.bool false]).toArray
 | _=>#[]
noncomputable def tT (h:Array Obj)(b:Nat)(d:DataW Unit):Array Obj:=h.modify b fun
 | .cells _ t frozen=>.cells (Rp d) t frozen
 | o=>o
abbrev Vn:ByteArray:={ data:=#[105,110,118,97,108,105,100,32,115,121,110,116,97,120] }
abbrev Uv:ByteArray:={ data:=#[118,97,108,117,101,32,111,117,116,32,111,102,32,114,97,110,103,101] }
noncomputable def low:Nat:=(World.holding Tryz.prog default ⟨#[],#[],[]⟩).heap.size
noncomputable def Wm (h:Array Obj)(b k:Nat):Array Obj:=h.modify b fun
 | .cells _ t frozen=>.cells #[.iface 227 (.pointer (some ⟨low+k,0,none⟩))] t frozen
 | o=>o
noncomputable def Xw (h:Array Obj)(b k:Nat):Array Obj:=h.modify b fun
 | .cells _ t frozen=>.cells #[.pointer (some ⟨low+k,0,none⟩)] t frozen
 | o=>o
noncomputable def nZ (os:Os):World:=
 { World.holding Tryz.prog os ⟨#[.cells #[.string Vn] 229,.cells #[.string Uv] 229,.cells #[.int .u16 9,.int .u16 13,.int .u16 1,.int .u16 32,.int .u16 133,.int .u16 101,.int .u16 160,.int .u16 5760,.int .u16 5600,.int .u16 8192,.int .u16 8202,.int .u16 1,.int .u16 8232,.int .u16 8233,.int .u16 1,.int .u16 8239,.int .u16 8287,.int .u16 48,.int .u16 12288,.int .u16 12288,.int .u16 1] 191,.cells #[.slice (some ⟨low+2,0,none⟩) 7 7,.slice none 0 0,.int .i64 2] 188],#[],[]⟩ with heap:=Xw (Wm (Wm (tT (tT (tT (tT (tT (tT (World.holding Tryz.prog os ⟨#[.cells #[.string Vn] 229,.cells #[.string Uv] 229,.cells #[.int .u16 9,.int .u16 13,.int .u16 1,.int .u16 32,.int .u16 133,.int .u16 101,.int .u16 160,.int .u16 5760,.int .u16 5600,.int .u16 8192,.int .u16 8202,.int .u16 1,.int .u16 8232,.int .u16 8233,.int .u16 1,.int .u16 8239,.int .u16 8287,.int .u16 48,.int .u16 12288,.int .u16 12288,.int .u16 1] 191,.cells #[.slice (some ⟨low+2,0,none⟩) 7 7,.slice none 0 0,.int .i64 2] 188],#[],[]⟩).heap 5 Rows.laid_internal_strconv_uint64pow10) 8 Rows.laid_math_bits_deBruijn32tab) 9 Rows.laid_math_bits_deBruijn64tab) 7 Rows.laid_unicode_utf8_acceptRanges) 0 Rows.laid_strings_asciiSpace) 6 Rows.laid_unicode_utf8_first) 3 0) 4 1) 1 3 }
theorem Fj(os:Os)(args:Array Value):laidMet Tryz.prog oN ((nZ os).forCall (fun _ _=>0) ⟨#[],args,[]⟩).memory:=
 laidMet_of_run3 12 (by kernel_rfl) (by kernel_rfl) (by kernel_rfl)
noncomputable abbrev Fp:Array Value:=#[.slice none 0 0,.string .empty]
open Go.PL in
set_option maxRecDepth 100000 in
theorem oF(hF:∀ (a0:List PL.aF) (a1:ByteArray),PL.okL 24 PL.fQ a0->PL.qH a1->PL.Ci a0 a1=some true)(os:Os)(started:os.Started)(H:Type)(enc:TypeId×Value->H)(F:Stop.Interp):
  ReturnsInHanded {} Tryz.checked os 3 .any ((Rows.OpenSpec.upto Rows.certifyTextSpec).preRow enc Tryz.prog Tryz.f3 Rows.certifyTextUptoRow.domain false Rows.certifyTextUptoRow.laid) (((Rows.OpenSpec.upto Rows.certifyTextSpec).at F).post enc Tryz.prog Tryz.f3 false true false false):=by
 refine returnsInHanded_of_row (C:=Tryz.checked) (s:=Rows.OpenSpec.upto Rows.certifyTextSpec) own started (by kernel_rfl) Tryz.func3
  (witness_row_atRef (enc:=enc) (C:=Tryz.checked) false (nZ os) Fp rfl (by kernel_rfl) (by kernel_rfl) (by kernel_rfl)
   (OpenSpec.preRow_of_cond 8 (x:=Option.get (DataW.whole enc Tryz.prog ((nZ os).forCall (fun _ _=>0) ⟨#[],Fp,[]⟩).memory Tryz.f3.params.toList (Rows.OpenSpec.upto Rows.certifyTextSpec).vars false Fp.toList 8) (by kernel_rfl)) (Option.some_get _).symm (by kernel_rfl) (fun k hk=>by cases hk; kernel_rfl) (by kernel_rfl) (Fj os _))) ?_
 intro W base args ds gs before hval0 hW _ hcond _ hL hsh _;have hsz:=hcond _ rfl;have hval:∀ (j:Nat) t v,Tryz.f3.params[j]? = some t->args[j]? = some v->Value.okWide Tryz.prog W .any base t v:=hval0;have hW':DataW.Whole enc Tryz.prog Tryz.f3.params.toList Rows.certifyTextSpec.vars false W args.toList ds gs before:=hW;obtain⟨p,q,hA0,hV,rfl,_⟩:=hW;have hA:DataW.TrodAll enc Tryz.prog W 0 (fun _=>true) true Tryz.f3.params.toList args.toList ds p:=hA0;rw[Tryz.params3]at hA hval;obtain⟨v0,vs0,d0,ds0,p0,q0,hl0,rfl,rfl,h0,r0⟩:=Go.ChangeShapes.trodAll_cons hA;obtain⟨v1,vs1,d1,ds1,p1,q1,hl1,rfl,rfl,h1,r1⟩:=Go.ChangeShapes.trodAll_cons r0;obtain⟨hl2,rfl,rfl⟩:=Go.ChangeShapes.trodAll_nil r1;subst hl2;subst hl1;obtain rfl:args=#[v0,v1]:=by cases args; simp_all
 obtain⟨rfl,rfl⟩:=Go.ChangeShapes.trodVars_none hV;have hwt:Rows.uptoBulkAll [d0,d1]<=1048576:=by have:=of_decide_eq_true hsz;simpa using this
 simp only[Rows.uptoBulkAll]at hwt;obtain⟨x0,hx0,ok0⟩:=Cl (c:=fun xs=>eL aV (xs)) Tryz.underlying22 (fun fuel=>o22 fuel) (hval 0 22 v0 rfl rfl) h0 (by omega);obtain⟨x1,hx1,ok1⟩:=xZ Tryz.underlying9 (hval 1 9 v1 rfl rfl) h1 (by omega);have hn:=hF x0 x1 ok0 ok1;refine(dK.law ((Lo x0 x1).h true hn) (W:=W) (vs:=#[v0,v1]) rfl (fun j x v hj hv=>?_) (glp hL hsh)).mono fun e W' ⟨he,hb⟩=>?_
 ·match j,hj,hv with
  | 0,hj,hv=>cases hj; cases hv; exact .t hx0
  | 1,hj,hv=>cases hj; cases hv; exact .t hx1
  | j+2,hj,hv=>simp at hj
 ·subst he;exact⟨_,rfl,Ie (by kernel_rfl) rfl hW' hb (tb:=4) (by kernel_rfl) Tryz.underlying4 (fun t ht=>by rw[Tryz.params3]at ht; simp at ht; rcases ht with rfl | rfl <;> exact⟨by kernel_rfl,of_decide_eq_true (by kernel_rfl)⟩) rfl⟩
theorem Oq:laidOutB Tryz.pinned.checked.prog=true:=by kernel_rfl
theorem Ib:(Rows.certifyTextUptoRow.inPlace==Tryz.pinned.checked.prog.inPlace 3)=true:=by kernel_rfl
theorem Sh:(Rows.certifyTextUptoRow.unfollowed==Tryz.pinned.checked.prog.unfollowed 3)=true:=by kernel_rfl
theorem Sp:(Rows.certifyTextUptoRow.recurses==Tryz.pinned.checked.prog.recurses 3)=true:=by kernel_rfl
theorem Jh:(Rows.certifyTextUptoRow.named==Tryz.pinned.checked.prog.varsNamed 3)=true:=by kernel_rfl
theorem Hk:Tryz.pinned.checked.prog.stopsHeard=true:=by kernel_rfl
theorem Gx:Tryz.pinned.checked.prog.mayEnter=true:=by kernel_rfl
theorem Jk:(Rows.certifyTextUptoRow.lifted==Tryz.pinned.checked.prog.liftsFinal)=true:=by kernel_rfl
theorem Mj:mapsRowed Tryz.pinned.checked.prog=true:=by kernel_rfl
theorem jf:joinedFacts Tryz.pinned.checked.prog 3 Tryz.f3 (Rows.OpenSpec.upto Rows.certifyTextSpec).bare Rows.certifyTextUptoRow=true:=by unfold joinedFacts;simp only[Bool.and_eq_true];refine⟨⟨⟨⟨⟨⟨⟨⟨⟨⟨⟨⟨⟨⟨⟨⟨⟨⟨⟨⟨⟨⟨⟨⟨⟨⟨⟨⟨⟨⟨⟨?_,Oq⟩,Mj⟩,?_⟩,?_⟩,?_⟩,?_⟩,?_⟩,?_⟩,Ib⟩,Sh⟩,Sp⟩,Jh⟩,?_⟩,?_⟩,?_⟩,?_⟩,?_⟩,?_⟩,?_⟩,?_⟩,?_⟩,?_⟩,?_⟩,Hk⟩,Gx⟩,Jk⟩,?_⟩,?_⟩,?_⟩,?_⟩,?_⟩ <;> kernel_rfl
open Go.PL in
theorem pK(hF:∀ (a0:List PL.aF) (a1:ByteArray),PL.okL 24 PL.fQ a0->PL.qH a1->PL.Ci a0 a1=some true):Rows.CertifyTextUptoSaid:=
 OpenClaim.holds_of_cond 3 Tryz.f3 rfl rfl rfl rfl rfl rfl rfl ⟨rfl,rfl,rfl,rfl,rfl⟩ rfl rfl rfl rfl rfl (by kernel_rfl) Tryz.func3 jf (of_decide_eq_true (by kernel_rfl)) (by unfold Func.isWrapper; first | (rw[if_pos (by decide +kernel)]; kernel_rfl) | (rw[if_neg (by decide +kernel)]; exact⟨rfl,rfl⟩))
  (fun os started H enc _ F=>by rw[OpenClaim.pre_eq_preRow]; exact oF hF os started H enc F)
theorem mU(f:FuncId)(fn:Func)(hf:Tryz.pinned.checked.prog.funcNamed "errata/erratalaw23.CertifyText" = some f)(hfn:Tryz.pinned.checked.prog.funcs[f]? = some fn):
  true=Tryz.pinned.checked.prog.looks []/\∀ (j:Nat) t,fn.params[j]? = some t->Tryz.pinned.checked.prog.wantsStandIn t=false:=by
 obtain rfl:f=3:=Option.some.inj ((show Tryz.prog.funcNamed "errata/erratalaw23.CertifyText" = some 3 by kernel_rfl).symm.trans hf) |>.symm
 obtain rfl:fn=Tryz.f3:=(Option.some.inj (Tryz.func3.symm.trans hfn)).symm;refine⟨by kernel_rfl,fun j t ht=>?_⟩;rw[Tryz.params3]at ht;have hm:=Array.mem_of_getElem? ht;simp at hm;rcases hm with rfl | rfl
 ·exact(show Tryz.prog.wantsStandIn 22=false by kernel_rfl)
 ·exact(show Tryz.prog.wantsStandIn 9=false by kernel_rfl)
theorem Wr:Rows.certifyTextUptoRow.wfByText (Rows.OpenSpec.upto Rows.certifyTextSpec)=true:=by kernel_rfl
theorem Nk:Tryz.pinned.checked.prog.mainIs=some (Rows.certifyTextUptoCard.stood.harness.1,Rows.certifyTextUptoCard.stood.harness.2.toList):=by kernel_rfl
theorem Pb:false=Rows.certifyTextUptoRow.goesBy Tryz.pinned.checked.prog:=by kernel_rfl
open Go.PL in
theorem nV(hF:∀ (a0:List PL.aF) (a1:ByteArray),PL.okL 24 PL.fQ a0->PL.qH a1->PL.Ci a0 a1=some true):Rows.CertifyTextUptoCardSaid:=
 Claim7.holds_tied_plain_at .later [] _ _ _ _ (pK hF) (fun _ h=>by cases h) Wr (fun _ h=>by cases h) certifyTextUpto_row_tie rfl ⟨rfl,rfl⟩ Nk rfl mU Pb
end Go.Proofs.YtkgmkgldfjdlaaaGreatDoor
namespace Go.PL
open Go
set_option maxRecDepth 20000
variable {A B:Type} {k:Nat}
section
def Sq{α:Type}(b:Bool)(x:Option α)(Q:α->Prop):Prop:=(∀ y,x=some y->Q y)/\(b=true->x.isSome=true)
section
variable {α β:Type} {b:Bool}
theorem bC{y:α}{Q:α->Prop}:Sq b (some y) Q↔Q y:=⟨fun h=>h.1 y rfl,fun h=>⟨fun z hz=>by cases hz; exact h,fun _=>rfl⟩⟩
theorem lS{Q:α->Prop}:Sq b (none:Option α) Q↔b=false:=⟨fun h=>by cases b with | false=>rfl | true=>exact absurd (h.2 rfl) (by simp),fun h=>⟨fun _ hz=>(by cases hz),fun hb=>(by rw[h]at hb; cases hb)⟩⟩
theorem Pe{x:Option α}{f:α->Option β}{Q:β->Prop}:Sq b (x.bind f) Q↔Sq b x (fun r=>Sq b (f r) Q):=by
 cases x with
 | none=>exact lS.trans lS.symm
 | some r=>exact(bC (Q:=fun r=>Sq b (f r) Q)).symm
theorem Sq.imp{x:Option α}{P Q:α->Prop}(h:Sq b x P)(hq:∀ y,P y->Q y):Sq b x Q:=⟨fun y hy=>hq y (h.1 y hy),h.2⟩
theorem Sq.bind{x:Option α}{f:α->Option β}{Q:β->Prop}(P:α->Prop)(h:Sq b x P)(h':∀ y,P y->Sq b (f y) Q):Sq b (x.bind f) Q:=Pe.2 (h.imp h')
end
theorem Wg{a b:Int}(h:a=b):¬ ((a != b)=true):=by simp[h]
theorem Xi{a b:Int}(h:a≠b):(a != b)=true:=by simpa using h
theorem qQ{p:Prop}[Decidable p](h:¬ p):¬ (decide p=true):=by simpa using h
theorem rT{p:Prop}[Decidable p](h:p):decide p=true:=by simpa using h
section
variable {S R:Type} {b:Bool} {bd:S->Option (S⊕R)}
theorem Sq.while(I:S->Prop)(μ:S->Nat){Q:R->Prop}(h:∀ s,I s->Sq b (bd s) (sel (fun s'=>I s'/\μ s' < μ s) Q)){s:S}(hs:I s):Sq b (dN bd s) Q:=by
 have:∀ (k:Nat) (s:S),μ s<=k->I s->Sq b (dN bd s) Q:=by
  intro k
  induction k with
  | zero=>
   intro s hk hs;have h1:=h s hs;rw[lR];cases hb:bd s with
   | none=>rw[hb]at h1; exact lS.2 (lS.1 h1)
   | some z=>
    rw[hb]at h1;have h2:=bC.1 h1;cases z with
    | inl s'=>exact absurd h2.2 (by omega)
    | inr r=>exact bC.2 h2
  | succ k ih=>
   intro s hk hs;have h1:=h s hs;rw[lR];cases hb:bd s with
   | none=>rw[hb]at h1; exact lS.2 (lS.1 h1)
   | some z=>
    rw[hb]at h1;have h2:=bC.1 h1;cases z with
    | inl s'=>exact ih s' (by have:=h2.2; omega) h2.1
    | inr r=>exact bC.2 h2
 exact this (μ s) s (cY _) hs
end
end
section
theorem Hj(n:Int):IntKind.i64.wrap n=(n+9223372036854775808) % 18446744073709551616-9223372036854775808:=by simp only[IntKind.wrap,IntKind.bits,IntKind.signed];simp;omega
theorem Nu{n:Int}(h1:-9223372036854775808<=n)(h2:n<=9223372036854775807):IntKind.i64.wrap n=n:=by rw[Hj]; omega
theorem jD{n:Nat}(h:n<9223372036854775807):IntKind.i64.wrap ((n:Int)+1)=((n+1:Nat):Int):=by rw[Nu] <;> omega
section
variable {α:Type} [Inhabited α]
theorem lM{l:List α}(h:k<l.length):l.getD k default=l[k]:=by simp[h]
theorem gX{l:List α}(h:k<l.length):l.take (k+1)=l.take k++[l.getD k default]:=by rw[lM h,List.take_succ_eq_append_getElem h]
theorem Ck{l:List α}(h:k<l.length):l.drop k=l.getD k default::l.drop (k+1):=by rw[lM h,zT h]
end
end
section
def sM(n:Int):Prop:=-9223372036854775808<=n/\n<=9223372036854775807
end
section
def bl(b:ByteArray):List UInt8:=b.data.toList
theorem vG{a b:ByteArray}(h:bl a=bl b):a=b:=by cases a; cases b; simp[bl]at h; simp[h]
theorem lW{d:Nat}(h:d<10):(UInt8.ofNat (48+d)).toNat=48+d:=by rw[UInt8.toNat_ofNat']; omega
def Qj(l:List UInt8):Nat:=l.foldl (fun a b=>a*10+(b.toNat-48)) 0
theorem Jn(u:Nat):Qj (Lib.decDigits u)=u:=by
 induction u using Nat.strongRecOn with
 | _ u ih=>
  by_cases h:u<10
  ·rw[Lib.decDigits,dif_pos h];simp only[Qj,mJ,List.foldl_nil];rw[lW h]; omega
  ·rw[Lib.decDigits,dif_neg h];have:=ih (u / 10) (by omega);unfold Qj at this ⊢;rw[List.foldl_append,this];simp only[mJ,List.foldl_nil];rw[lW (by omega)]; omega
theorem vH(u:Nat):∀ b,b∈Lib.decDigits u->48<=b.toNat/\b.toNat<=57:=by
 induction u using Nat.strongRecOn with
 | _ u ih=>
  intro b hb;by_cases h:u<10
  ·rw[Lib.decDigits,dif_pos h,bX]at hb;rw[hb,lW h]; omega
  ·rw[Lib.decDigits,dif_neg h,dT,bX]at hb;rcases hb with hb | rfl
   ·exact ih (u / 10) (by omega) b hb
   ·rw[lW (by omega)]; omega
end
section
theorem tY{S R:Type}{b:Bool}{bd:S->Option (S⊕R)}(idx:S->Int)(N:Nat)(hN:N<=1000000000000000)(I:S->Prop){Q:R->Prop}
  (h:∀ s (k:Nat),I s->idx s=k->k<=N->Sq b (bd s) (sel (fun s'=>idx s'=IntKind.i64.wrap ((k:Int)+1)/\k<N/\I s') Q)){s:S}(hs:I s)(h0:idx s=0):Sq b (dN bd s) Q:=by
 refine Sq.while (fun s=>I s/\∃ k:Nat,idx s=k/\k<=N) (fun s=>N-(idx s).toNat) (fun s hs=>?_) ⟨hs,0,h0,by omega⟩;obtain⟨hI,k,hk,hkN⟩:=hs;refine(h s k hI hk hkN).imp fun z hz=>?_;cases z with
 | inr r=>exact hz
 | inl s'=>obtain⟨q1,q2,q3⟩:=hz;rw[jD (by omega)]at q1;exact⟨⟨q3,k+1,q1,by omega⟩,by rw[q1,hk]; omega⟩
end
section
def xU(a:Nat)(b:UInt8):Nat:=a*10+(b.toNat-48)
theorem Ab:∀ (l:List UInt8) (a:Nat),a<=l.foldl xU a
 | [],a=>cY _
 | b::l,a=>by rw[mJ];refine kG ?_ (Ab l _);unfold xU; omega
theorem tK(u:Nat):Lib.decDigits u≠[]:=by
 unfold Lib.decDigits;split
 ·simp
 ·simp
theorem zQ:∀ (k u:Nat),u<10 ^ (k+1)->Lib.nDigits u<=k+1
 | 0,u,h=>by rw[Lib.nDigits_small (by simpa using h)]; exact cY _
 | k+1,u,h=>by
  unfold Lib.nDigits;split
  ·omega
  ·have:=zQ k (u / 10) (by rw[Nat.pow_succ]at h; omega);omega
theorem Fl{n:Int}(h:sM n):(Lib.itoa n).length<=20:=by
 obtain⟨h1,h2⟩:=h;have hk:∀ u:Nat,u<=9223372036854775808->(Lib.decDigits u).length<=19:=fun u hu=>by rw[Lib.decDigits_length];exact zQ 18 u (by omega)
 unfold Lib.itoa;split
 ·have:=hk n.natAbs (by omega);rw[lE]; omega
 ·have:=hk n.toNat (by omega);omega
theorem yB(s:ByteArray):(bl s).length=s.size:=by unfold bl; rw[dY]; rfl
end
section
theorem Eh{R:Type}{bd:Int->Option (Int⊕(Unit⊕R))}(N:Nat)(p:Nat->Bool)(r:R)(hN:N<=1000000000000000)
  (h:∀ i:Nat,i<N->bd (i:Int)=some (match p i with | true=>.inl (IntKind.i64.wrap ((i:Int)+1)) | false=>.inr (.inr r)))(hf:bd (N:Int)=some (.inr (.inl ()))):
  dN bd 0=some (match (List.range N).all p with | true=>.inl () | false=>.inr r):=by
 have key:∀ (k i:Nat),i+k=N->dN bd (i:Int)=some (match ((List.range N).drop i).all p with | true=>.inl () | false=>.inr r):=by
  intro k
  induction k with
  | zero=>
   intro i hi;obtain rfl:i=N:=by omega
   rw[iH hf,List.drop_of_length_le (by simp)]; simp
  | succ k ih=>
   intro i hi;have hlt:i<N:=by omega
   have hb:=h i hlt;rw[zT (by simpa using hlt)];simp only[List.getElem_range,rR];cases hp:p i with
   | false=>simp only[hp]at hb; rw[iH hb]; simp
   | true=>simp only[hp]at hb;rw[oZ hb,jD (by omega),ih (i+1) (by omega)];simp
 have:=key N 0 (by omega);simpa using this
end
section
theorem Cy[Inhabited A]{f:A->Option B}{l:List A}(h:k<l.length)(hf:f (l.getD k default)=none):l.mapM f=none:=by
 have e:l=l.take k++l.getD k default::l.drop (k+1):=by rw[<-Ck h,sT]
 rw[e,List.mapM_append,nC,hf];cases List.mapM f (l.take k) <;> rfl
theorem Cn[Inhabited A]{f:A->Option B}{l:List A}(h:k<l.length){acc:List B}{y:B}(h1:(l.take k).mapM f=some acc)(h2:f (l.getD k default)=some y):(l.take (k+1)).mapM f=some (acc++[y]):=by rw[gX h,List.mapM_append,h1,nC,h2];rfl
theorem nB{A B:Type}{f:A->Option B}:∀ {l:List A} {r:List B},l.mapM f=some r->r.length=l.length/\∀ y,y∈r->∃ x,x∈l/\f x=some y
 | [],r,h=>by simp at h; subst h; simp
 | x::l,r,h=>by
  rw[nC]at h;simp only[Option.bind_eq_bind,wG]at h;obtain⟨y,hy,ys,hys,hr⟩:=h;simp at hr; subst hr;obtain⟨h1,h2⟩:=nB hys;refine⟨by simp[h1],fun z hz=>?_⟩;rcases aL.1 hz with rfl | hz
  ·exact⟨x,by simp,hy⟩
  ·obtain⟨x',h3,h4⟩:=h2 z hz; exact⟨x',bI _ h3,h4⟩
def Rs{R:Type}(r:R)(x:Option (List B)):List B⊕R:=match x with | some ys=>.inl ys | none=>.inr r
theorem Oh{R:Type}[Inhabited A]{b:Bool}(l:List A){bd:List B×Int->Option ((List B×Int)⊕(List B⊕R))}(f:A->Option B)(r:R)(hN:l.length<=1000000000000)
  (h:∀ (acc:List B) (k:Nat),k<l.length->acc.length=k->Sq b (bd (acc,(k:Int))) (fun z=>z=match f (l.getD k default) with | some y=>.inl (acc++[y],IntKind.i64.wrap ((k:Int)+1)) | none=>.inr (.inr r)))
  (hf:∀ acc:List B,acc.length=l.length->Sq b (bd (acc,(l.length:Int))) (fun z=>z = .inr (.inl acc))):Sq b (dN bd ([],0)) (fun z=>z=Rs r (l.mapM f)):=by
 refine tY (fun s=>s.2) l.length (by omega) (fun s=>(l.take s.2.toNat).mapM f=some s.1) (fun s k hI hk hkN=>?_) rfl rfl;obtain⟨acc,v⟩:=s;simp only at hk hI;subst hk;simp only[iJ]at hI;have hal:acc.length=k:=by rw[(nB hI).1,cL]; omega
 by_cases hc:k<l.length
 ·refine(h acc k hc hal).imp fun z hz=>?_;subst hz;cases hx:f (l.getD k default) with
  | none=>simp only[sel]; rw[Cy hc hx]; rfl
  | some y=>simp only[sel];refine⟨trivial,hc,?_⟩;rw[jD (by omega),iJ];exact Cn hc hI hx
 ·have:k=l.length:=by omega
  subst this;refine(hf acc hal).imp fun z hz=>?_;subst hz;simp only[sel];rw[Ar (cY _)]at hI;rw[hI]; rfl
end
section
theorem tlT{a b:ByteArray}(h:a=b):(a.toList==b.toList)=true:=by subst h; simp
end
end Go.PL
namespace Go.PL
open Go
set_option linter.unusedVariables false
set_option maxRecDepth 20000
variable {c:UInt8} {l:List UInt8} {n:Int} {s:ByteArray} {x:aF}
theorem sU:∀ (l:List UInt8) (a:Nat),(∀ b,b∈l->48<=b.toNat/\b.toNat<=57)->l.foldl xU a<18446744073709551616->Lib.parseUintM (2 ^ 64-1) a l = .ok (l.foldl xU a)
 | [],a,_,_=>rfl
 | b::l,a,h,hl=>by have h0:=h b bT;rw[mJ]at hl ⊢;have h1:=Ab l (xU a b);have e:a*10+(b.toNat-48)=xU a b:=rfl;unfold Lib.parseUintM;rw[aH h0,aT (by omega),aT (by omega),e];exact sU l _ (fun c hc=>h c (bI _ hc)) hl
theorem oY(u:Nat)(h:u<18446744073709551616):Lib.parseUintB 64 (Lib.decDigits u) = .ok u:=by unfold Lib.parseUintB;rw[aT (tK u)];have e:(Lib.decDigits u).foldl xU 0=u:=Jn u;rw[sU _ 0 (vH u) (by rw[e]; exact h),e]
theorem sN(h:sM n):Lib.parseIntB 64 (Lib.itoa n) = .ok n:=by
 obtain⟨h1,h2⟩:=h;unfold Lib.itoa;split
 ·rename_i hn;unfold Lib.parseIntB;have e:(45:UInt8).toNat=45:=rfl;simp only[e,or_true,if_true];rw[oY _ (by omega)];simp only[not_true_eq_false,false_and,fK,true_and];rw[aT (by omega)]
  congr 1; omega
 ·rename_i hn;have hm:=oY n.toNat (by omega);have hd:=vH n.toNat;generalize hl:Lib.decDigits n.toNat=l at hm hd;cases l with
  | nil=>exact absurd hl (tK _)
  | cons c r=>
   have hc:=hd c bT;unfold Lib.parseIntB;simp only;rw[aT (by omega),hm];have e:¬ (c.toNat=45):=by omega
   simp only[e,not_false_eq_true,true_and,fK,false_and];rw[aT (by omega)]
   congr 1; omega
theorem nK:∀ b,b∈Lib.itoa n->b≠32/\b≠10:=by
 intro b hb;have hk:∀ u b,b∈Lib.decDigits u->b≠32/\b≠10:=fun u b hb=>by have h:=vH u b hb;constructor <;> (rintro rfl; revert h; decide)
 unfold Lib.itoa at hb;split at hb
 ·rcases aL.1 hb with rfl | hb
  ·decide
  ·exact hk _ _ hb
 ·exact hk _ _ hb
theorem vT{c:UInt8}:∀ (l t:List UInt8),(∀ b,b∈l->b≠c)->Lib.index (l++c::t) [c]=(l.length:Int)
 | [],t,_=>by simp[Lib.index,List.isPrefixOf]
 | b::l,t,h=>by
  have h1:=vT l t fun x hx=>h x (bI _ hx);have h2:b≠c:=h b bT;rw[wR];unfold Lib.index;rw[h1];have h3:([c]:List UInt8).isPrefixOf (b::(l++c::t))=false:=by simp[List.isPrefixOf,Ne.symm h2]
  have h4:((l.length:Int) == -1)=false:=by rw[beq_eq_false_iff_ne]; omega
  simp only[h3,h4,jF,fK,lE];omega
theorem wE{c:UInt8}:∀ (l:List UInt8),(∀ b,b∈l->b≠c)->Lib.index l [c] = -1
 | [],_=>rfl
 | b::l,h=>by
  have h1:=wE l fun x hx=>h x (bI _ hx);have h2:b≠c:=h b bT;unfold Lib.index;rw[h1];have h3:([c]:List UInt8).isPrefixOf (b::l)=false:=by simp[List.isPrefixOf,Ne.symm h2]
  simp only[h3,jF,fK];rfl
def spl(c:UInt8)(s:List UInt8):List (List UInt8):=Lib.splitK [c] 0 (Lib.count s [c]) s
theorem It(h:∀ b,b∈l->b≠c):spl c l=[l]:=by unfold spl;rw[Lib.count_miss (wE l h)];rfl
theorem uA(t:List UInt8)(h:∀ b,b∈l->b≠c):spl c (l++c::t)=l::spl c t:=by
 unfold spl;have hi:=vT l t h;have hd:(l++c::t).drop (l.length+[c].length)=t:=by rw[<-List.drop_drop]; simp
 rw[Lib.count_hit (by simp) hi,hd,Nat.add_comm 1,Lib.splitK,hi];have h4:((l.length:Int) == -1)=false:=by rw[beq_eq_false_iff_ne]; omega
 simp only[h4,jF,fK,iJ,nL,List.take_left',hd]
def unl(L:List (List UInt8)):List UInt8:=L.flatMap (·++[10])
theorem lA(l:List UInt8)(L:List (List UInt8)):unl (l::L)=l++10::unl L:=by simp[unl]
theorem zB{L:List (List UInt8)}:unl (l::L)≠[]:=by rw[lA]; simp
theorem zY:∀ (L:List (List UInt8)),L≠[]->(∀ l,l∈L->∀ b,b∈l->b≠10)->spl 10 (unl L).dropLast=L
 | [],h,_=>absurd rfl h
 | [l],_,h=>by rw[lA];simp only[unl,List.flatMap_nil,List.dropLast_concat];exact It (h l bT)
 | l::m::L,_,h=>by have ih:=zY (m::L) (by simp) fun x hx=>h x (bI _ hx);rw[lA,List.dropLast_append_of_ne_nil (by simp),List.dropLast_cons_of_ne_nil zB,uA _ (h l bT),ih]
theorem vY:∀ (L:List (List UInt8)),L≠[]->unl L=(unl L).dropLast++[10]
 | [],h=>absurd rfl h
 | [l],_=>by simp[unl]
 | l::m::L,_=>by have ih:=vY (m::L) (by simp);rw[lA,List.dropLast_append_of_ne_nil (by simp),List.dropLast_cons_of_ne_nil zB,eC,wR,<-ih]
theorem Cc(l:List UInt8):Lib.trimSuffix (l++[10]) [10]=l:=by unfold Lib.trimSuffix Lib.hasSuffix;rw[aH (by rw[List.isSuffixOf_iff_suffix]; exact List.suffix_append _ _)];simp
def wNm:List ByteArray:=[⟨#[109,101,114,103,101]⟩,⟨#[109,97,112]⟩,⟨#[117,110,105,111,110]⟩,⟨#[119,105,110,100,111,119]⟩,⟨#[106,111,105,110]⟩,⟨#[112,97,110,101,115]⟩,⟨#[115,119,97,112]⟩,⟨#[115,104,97,114,101]⟩,⟨#[100,114,111,112]⟩]
theorem Vx:Wj=some wNm:=by kernel_rfl
def itB(n:Int):ByteArray:=⟨(Lib.itoa n).toArray⟩
theorem We(h:sM n):Qo n=some (itB n):=by unfold Qo Rm;simp only[Tr.den];unfold Pv;rw[aH ⟨h.1,h.2⟩];rfl
def oJ(x:aF):Prop:=sM x.Node/\sM x.N
def dL(x:aF):Bool:=decide (0<=x.Rule)&&decide (x.Rule<9)
def mW(x:aF):ByteArray:=((((wNm.getD x.Rule.toNat default++⟨#[32]⟩)++itB x.Node)++⟨#[32]⟩)++itB x.N)++⟨#[10]⟩
def nmL(r:Int):List UInt8:=bl (wNm.getD r.toNat default)
def iN(x:aF):List UInt8:=nmL x.Rule++32::(Lib.itoa x.Node++32::Lib.itoa x.N)
theorem Jd(a b:ByteArray):bl (a++b)=bl a++bl b:=by unfold bl;rw[ByteArray.data_append,Array.toList_append]
theorem yL(n:Int):bl (itB n)=Lib.itoa n:=rfl
theorem Nb(x:aF):bl (mW x)=iN x++[10]:=by unfold mW iN;simp only[Jd,yL];simp[nmL,bl]
def prB(l:List aF):ByteArray:=l.foldl (fun s x=>s++mW x) ⟨#[]⟩
theorem Il(l:List aF)(x:aF):prB (l++[x])=prB l++mW x:=by simp[prB]
theorem xC:∀ (l:List aF) (s:ByteArray),bl (l.foldl (fun s x=>s++mW x) s)=bl s++unl (l.map iN)
 | [],s=>by simp[unl]
 | x::l,s=>by rw[mJ,xC l,Jd,Nb,fX,lA,eC,eC];rfl
theorem Sv(l:List aF):bl (prB l)=unl (l.map iN):=by exact(xC l _).trans (by simp[bl])
theorem tlE(a b:ByteArray):(a.toList==b.toList)=decide (a=b):=by
 rw[Bool.eq_iff_iff,tA,beq_iff_eq];constructor
 ·intro h;refine vG ?_;unfold bl;rw[<-ByteArray.toList_eq,<-ByteArray.toList_eq,h]
 ·rintro rfl; rfl
def mD(s:ByteArray):Int×Bool:=match Lib.parseIntB 64 (bl s) with
 | .ok v=>if itB v=s then (v,true) else (0,false)
 | _=>(0,false)
theorem kM{v:Int}(h:Lib.parseIntB 64 l = .ok v):sM v:=by
 cases l with
 | nil=>cases h
 | cons c r=>
  unfold Lib.parseIntB at h;simp only at h;cases hu:Lib.parseUintB 64 (if c.toNat=43\/c.toNat=45 then r else c::r) with
  | ok u=>
   rw[hu]at h;simp only at h;split at h
   ·cases h
   ·split at h
    ·cases h
    ·rename_i h1 h2;simp only[Lib.NumEnd.ok.injEq]at h;subst h;unfold sM;by_cases hn:c.toNat=45
     ·rw[aH hn];have:¬ (2 ^ (64-1)<u):=fun h'=>h2 ⟨hn,h'⟩;omega
     ·rw[aT hn];have:¬ (2 ^ (64-1)<=u):=fun h'=>h1 ⟨hn,h'⟩;omega
  | _=>rw[hu]at h; cases h
theorem Bk(h:sM n):mD (itB n)=(n,true):=by unfold mD;rw[yL,sN h];simp
theorem Bb(h:(mD s).2=true):sM (mD s).1/\itB (mD s).1=s:=by
 unfold mD at h ⊢;cases hp:Lib.parseIntB 64 (bl s) with
 | ok v=>
  rw[hp]at h;simp only at h ⊢;by_cases he:itB v=s
  ·rw[aH he]; exact⟨kM hp,he⟩
  ·rw[aT he]at h; cases h
 | _=>rw[hp]at h; cases h
theorem Ul(hs:s.size<=1000000000000):Fz s=some (mD s):=by
 unfold Fz Rj;simp only[Tr.den];unfold Ta mD;rw[aH hs];show Option.bind _ _=_;cases hp:Lib.parseIntB 64 (bl s) with
 | ok v=>
  have hp':Lib.parseIntB 64 s.data.toList = .ok v:=hp;rw[hp'];simp only[eI,sel];have h535:Ip v 10=some (itB v):=by unfold Ip;rw[aH ⟨rfl,kM hp⟩];rfl
  show Option.bind (Ip v 10) _=_;rw[h535];show (if (!((itB v).toList==s.toList))=true then _ else _)=_;rw[tlE];by_cases he:itB v=s
  ·rw[qN he,aH he]; rfl
  ·rw[rG he,aT he]; rfl
 | range=>have hp':Lib.parseIntB 64 s.data.toList = .range:=hp;rw[hp']; rfl
 | _=>have hp':Lib.parseIntB 64 s.data.toList=_:=hp;rw[hp']; rfl
def mO(L:List ByteArray)(s:ByteArray):Int:=match (List.range L.length).find? (fun i=>decide (L.getD i default=s)) with
 | some i=>(i:Int)
 | none=>-1
def spB(c:UInt8)(s:ByteArray):List ByteArray:=Lib.splitB ⟨#[c]⟩ 0 (Lib.countB s ⟨#[c]⟩) s
theorem Hn(c:UInt8)(s:ByteArray):(spB c s).map bl=spl c (bl s):=Lib.splitB_data _ _ _ _
def ln3:List ByteArray->Option aF
 | [a,b,c]=>if mO wNm a<0\/(mD b).2=false\/(mD c).2=false then none else some ⟨(mD b).1,mO wNm a,(mD c).1⟩
 | _=>none
theorem Qh{l:List ByteArray}(h:l.length≠3):ln3 l=none:=by
 unfold ln3;split
 ·exact absurd rfl h
 ·rfl
def lnP(s:ByteArray):Option aF:=ln3 (spB 32 s)
theorem uH{α:Type}{x:Option α}{v:α}(h:Sq true x (fun r=>r=v)):x=some v:=by obtain⟨y,hy⟩:=wJ.1 (h.2 rfl);rw[hy,h.1 y hy]
theorem nT(h:sM n):(itB n).size<=20:=by rw[<-yB,yL]; exact Fl h
theorem Ag(k:Nat):(wNm.getD k default).size<=6:=by
 match k with
 | 0 | 1 | 2 | 3 | 4 | 5 | 6 | 7 | 8=>decide
 | k+9=>rw[show wNm.getD (k+9) default=default from by simp[wNm]]; decide
theorem Ek(h:oJ x):(mW x).size<=49:=by unfold mW;simp only[nU];have h1:=Ag x.Rule.toNat;have h2:=nT h.1;have h3:=nT h.2;have e1:(⟨#[32]⟩:ByteArray).size=1:=rfl;have e2:(⟨#[10]⟩:ByteArray).size=1:=rfl;omega
theorem sQ:∀ (l:List aF) (s:ByteArray),(∀ x,x∈l->oJ x)->(l.foldl (fun s x=>s++mW x) s).size<=s.size+49*l.length
 | [],s,_=>by simp
 | x::l,s,h=>by rw[mJ];have h1:=sQ l (s++mW x) fun y hy=>h y (bI _ hy);have h2:=Ek (h x bT);rw[nU]at h1;rw[lE];omega
theorem wT(l:List aF)(h:∀ x,x∈l->oJ x):(prB l).size<=49*l.length:=by have:=sQ l ⟨#[]⟩ h;have e:(⟨#[]⟩:ByteArray).size=0:=rfl;unfold prB;omega
theorem Nv{b:Bool}(l:List aF)(hl:l.length<=1000000)(hk:∀ x,x∈l->oJ x):Sq b (Jv l) (fun r=>r=if l.all dL=true then prB l else ⟨#[]⟩):=by
 unfold Jv Qe;simp only[Tr.den];refine Sq.bind (fun z=>z=if l.all dL=true then .inl (prB l) else .inr ⟨#[]⟩) ?_ fun z hz=>?_
 ·refine tY (fun s=>s.2) l.length (by omega) (fun s=>s.1=prB (l.take s.2.toNat)/\(l.take s.2.toNat).all dL=true) (fun s k hI hk' hkN=>?_) ⟨rfl,rfl⟩ rfl;obtain⟨v1,v2⟩:=s;simp only at hk' hI;subst hk';simp only[iJ]at hI;obtain⟨rfl,hw⟩:=hI;unfold zH
  dsimp only[Tr.den]
  rw[iJ];by_cases hc:k<l.length
  ·have hx:oJ (l.getD k default):=by rw[lM hc]; exact hk _ (lC hc)
   rw[aH (rT (by omega)),aH (by omega)];generalize hxe:l.getD k default=x at hx ⊢;have hP:=wT (l.take k) fun y hy=>hk y (List.mem_of_mem_take hy);rw[cL]at hP;have h1:=Ag x.Rule.toNat;have h2:=nT hx.1;have h3:=nT hx.2;have e1:(⟨#[32]⟩:ByteArray).size=1:=rfl;have e2:(⟨#[10]⟩:ByteArray).size=1:=rfl;rw[Vx,We hx.1,We hx.2];have hlen:wNm.length=9:=rfl;have hwx:dL x=(decide (0<=x.Rule)&&decide (x.Rule<9)):=rfl;by_cases h0:x.Rule<0
   ·rw[aH (rT h0)];simp only[eI,if_true];refine bC.2 ?_;have:l.all dL=false:=by rw[List.all_eq_false];refine⟨x,?_,by rw[hwx]; simp; omega⟩;rw[<-hxe,lM hc]; exact lC hc
    simp[sel,this]
   ·rw[aT (qQ h0)];simp only[eI];by_cases h9:x.Rule>=9
    ·rw[aH (rT h9)];refine bC.2 ?_;have:l.all dL=false:=by rw[List.all_eq_false];refine⟨x,?_,by rw[hwx]; simp; omega⟩;rw[<-hxe,lM hc]; exact lC hc
     simp[sel,this]
    ·rw[aT (qQ h9)];rw[aH (by rw[hlen]; omega)];rw[aH (by (try simp only[nU]); omega),aH (by (try simp only[nU]); omega),aH (by (try simp only[nU]); omega),aH (by (try simp only[nU]); omega),aH (by (try simp only[nU]); omega),aH (by (try simp only[nU]); omega)];simp only[eI];refine bC.2 ⟨rfl,hc,?_⟩;rw[jD (by omega),iJ,gX hc,hxe,Il];refine⟨rfl,?_⟩;rw[List.all_append,hw];simp[hwx]; omega
  ·have:k=l.length:=by omega
   subst this;rw[aT (qQ (by omega))];rw[List.take_length]at hw ⊢;exact bC.2 (by simp[sel,hw])
 ·subst hz;by_cases ha:l.all dL=true
  ·rw[aH ha,aH ha]; exact bC.2 rfl
  ·rw[aT ha,aT ha]; exact bC.2 rfl
set_option maxRecDepth 100000
def Fu:List aY:=[(aY.mk (⟨#[97]⟩) 0 (⟨#[]⟩)),(aY.mk (⟨#[98]⟩) 0 (⟨#[]⟩))]
noncomputable def c1:aM:=(Gl 15 0 5).getD default
noncomputable def c2:aM:=(Gl 13 1 2).getD default
noncomputable def n0:aG:=aG.mk 0 ([]:List Int) (⟨#[115]⟩) 1 ([]:List aM) 0 0 0 ([]:List Int) ([]:List Int) 0 0 0 ([]:List dG) ([]:List cM) Fu
noncomputable def nF (i:Int)(c:aM):aG:=aG.mk 1 ([i]:List Int) (⟨#[]⟩) 0 ([c]:List aM) 0 0 0 ([]:List Int) ([]:List Int) 0 0 0 ([]:List dG) ([]:List cM) Fu
noncomputable def pX:aS:=aS.mk [] [n0,nF 0 c1,nF 1 c2]
noncomputable def qX:aS:=aS.mk [] [n0,nF 0 c1,nF 0 (aM.mk 17 0 (⟨#[]⟩) [c1,c2])]
theorem Tz:Gl 15 0 5=some c1:=by kernel_rfl
theorem Vu:Gl 13 1 2=some c2:=by kernel_rfl
theorem Xr:Mk []=some []:=by unfold Mk;refine Det.eq ?_;unfold Rz;simp[Tr.wpT]
theorem Yp:Mg pX ⟨2,0,0⟩=some (qX,true):=by
 unfold Mg Td;simp only[Tr.den];rw[show Mk pX.Funcs=some [] from Xr]
 kernel_rfl
theorem Ts:Fv pX [⟨2,0,0⟩] qX=some (-1,0):=by
 unfold Fv Np;simp only[Tr.den];rw[show Qz pX=some true from by kernel_rfl];have h0:Tr.den (fT [⟨2,0,0⟩] (pX.Funcs,pX.Nodes,0))=some (.inl (qX.Funcs,qX.Nodes,1)):=by
  unfold fT;simp only[Tr.den];rw[show Mg (aS.mk pX.Funcs pX.Nodes) ([(⟨2,0,0⟩:aF)].getD (Int.toNat 0) default)=some (qX,true) from Yp]
  kernel_rfl
 have h1:Tr.den (fT [⟨2,0,0⟩] (qX.Funcs,qX.Nodes,1))=some (.inr (.inl (qX.Funcs,qX.Nodes))):=by
  unfold fT;simp only[Tr.den]
  kernel_rfl
 have hw:=(oZ (b:=fun s=>Tr.den (fT [⟨2,0,0⟩] s)) h0).trans (iH (b:=fun s=>Tr.den (fT [⟨2,0,0⟩] s)) h1);refine(congrArg (fun x=>Option.bind x _) hw).trans ?_
 kernel_rfl
theorem Xh:Vc pX qX=some false:=by kernel_rfl
theorem Vz:Fv pX [] qX=some (0,26):=by
 unfold Fv Np;simp only[Tr.den];rw[show Qz pX=some true from by kernel_rfl];have h1:Tr.den (fT [] (pX.Funcs,pX.Nodes,0))=some (.inr (.inl (pX.Funcs,pX.Nodes))):=by unfold fT;simp only[Tr.den];rfl
 have hw:=iH (b:=fun s=>Tr.den (fT [] s)) h1;refine(congrArg (fun x=>Option.bind x _) hw).trans ?_;refine(congrArg (fun x=>Option.bind x _) Xh).trans ?_;rfl
theorem Vj:Jv [⟨2,0,0⟩]=some ⟨#[109,101,114,103,101,32,50,32,48,10]⟩:=by kernel_rfl
theorem Yn:Qn=some true:=by unfold Qn Ro;simp only[Tr.den];rw[Tz,Vu];simp only[eI];have ha:=Ts;have hb:=Vz;simp only[pX,qX,n0,nF,Fu]at ha hb;rw[ha,hb,Vj];simp only[eI];rw[aH (by decide),aH (by decide),aH (by decide),aH (by decide)];simp only[eI];rw[tlT rfl]
theorem nO(sep:ByteArray):∀ (k:Nat) (s x:ByteArray),x∈Lib.splitB sep 0 k s->x.size<=s.size
 | 0,s,x,h=>by rw[Lib.splitB_zero]at h;rw[bX.1 h]; exact cY _
 | k+1,s,x,h=>by
  rw[Lib.splitB]at h;split at h
  ·rw[bX.1 h]; exact cY _
  ·rcases aL.1 h with rfl | h
   ·rw[ByteArray.size_extract]; omega
   ·have h1:=nO sep k _ x h;rw[ByteArray.size_extract]at h1;omega
theorem sZ{x:ByteArray}(h:x∈spB c s):x.size<=s.size:=nO _ _ _ _ h
theorem Oa(c:UInt8)(s:ByteArray):(spB c s).length<=s.size+1:=by have h1:=Lib.splitB_length_le ⟨#[c]⟩ 0 (Lib.countB s ⟨#[c]⟩) s;have h2:=Lib.countB_le ⟨#[c]⟩ (cY 1) s.size s (cY _);unfold spB;omega
theorem Wl(h:s.size<4294967281):Na s ⟨#[c]⟩=some (spB c s):=by unfold Na;rw[aH ⟨h,cY 1⟩];rfl
def trB(s:ByteArray):ByteArray:=⟨(Lib.trimSuffix (bl s) [10]).toArray⟩
theorem qR(s:ByteArray):(trB s).size<=s.size:=by
 rw[<-yB,<-yB];show (Lib.trimSuffix (bl s) [10]).length<=_;unfold Lib.trimSuffix;split
 ·rw[cL]; omega
 ·exact cY _
def eR(s:ByteArray):List ByteArray:=if s=⟨#[]⟩ then [] else spB 10 (trB s)
theorem Ya(h:s.size<=1000000000):Pt s=some (eR s):=by
 unfold Pt Rq eR;simp only[Tr.den];rw[tlE];by_cases he:s=⟨#[]⟩
 ·rw[qN he,aH he]; rfl
 ·rw[rG he,aT he];have h2:Mm s ⟨#[10]⟩=some (trB s):=by unfold Mm;rw[aH (by omega)];rfl
  have h3:=qR s;rw[h2];simp only[eI,jF,fK];rw[Wl (by omega)];rfl
theorem qC(s:ByteArray):(eR s).length<=s.size+1:=by
 unfold eR;split
 ·simp
 ·have:=Oa 10 (trB s); have:=qR s; omega
theorem uW{x:ByteArray}(h:x∈eR s):x.size<=s.size:=by
 unfold eR at h;split at h
 ·cases h
 ·have:=sZ h; have:=qR s; omega
theorem Yy(L:List ByteArray)(s:ByteArray)(hL:L.length<=1000000):Nh L s=some (mO L s):=by
 refine uH ?_;unfold Nh Ss;simp only[Tr.den];refine Sq.bind (fun z=>(z = .inl ()/\mO L s = -1)\/z = .inr (mO L s)) ?_ fun z hz=>?_
 ·refine tY (fun v=>v) L.length (by omega) (fun v=>∀ i:Nat,(i:Int)<v->L.getD i default≠s) (fun v k hI hk hkN=>?_) (fun i hi=>by omega) rfl;subst hk;unfold Ad;simp only[Tr.den];rw[iJ];by_cases hc:k<L.length
  ·rw[aH (rT (by omega)),aH (by omega),tlE];by_cases he:s=L.getD k default
   ·rw[qN he,aH rfl];refine bC.2 (.inr ?_);have:(List.range L.length).find? (fun i=>decide (L.getD i default=s))=some k:=by rw[List.find?_range_eq_some];exact⟨by simpa using he.symm,pG.2 hc,fun j hj=>by simpa using hI j (by omega)⟩
    unfold mO;rw[this]
   ·rw[rG he];refine bC.2 ⟨rfl,hc,fun i hi=>?_⟩;rw[jD (by omega)]at hi;by_cases hik:i=k
    ·subst hik; exact fun h=>he h.symm
    ·exact hI i (by omega)
  ·have:k=L.length:=by omega
   subst this;rw[aT (qQ (by omega))];refine bC.2 (.inl ⟨rfl,?_⟩);have:(List.range L.length).find? (fun i=>decide (L.getD i default=s))=none:=by rw[List.find?_range_eq_none];exact fun i hi=>by simpa using hI i (by omega)
   unfold mO;rw[this]
 ·rcases hz with⟨rfl,h⟩ | rfl
  ·exact bC.2 h.symm
  ·exact bC.2 rfl
theorem xS(s:ByteArray):mO wNm s = -1\/(0<=mO wNm s/\mO wNm s<9/\wNm.getD (mO wNm s).toNat default=s):=by
 unfold mO;cases h:(List.range wNm.length).find? (fun i=>decide (wNm.getD i default=s)) with
 | none=>exact .inl rfl
 | some i=>rw[List.find?_range_eq_some]at h;have h1:i<9:=pG.1 h.2.1;refine .inr ⟨by simp only; omega,by simp only; omega,?_⟩;simp only[iJ];exact of_decide_eq_true h.1
theorem Pc{r:Int}(h0:0<=r)(h9:r<9):mO wNm (wNm.getD r.toNat default)=r:=by
 obtain⟨n,rfl⟩:=Int.eq_ofNat_of_zero_le h0;have hn:n<9:=by omega
 rw[iJ]
 match n,hn with
 | 0,_ | 1,_ | 2,_ | 3,_ | 4,_ | 5,_ | 6,_ | 7,_ | 8,_=>decide
theorem Px(h:lnP s=some x):oJ x/\dL x=true:=by
 unfold lnP ln3 at h;split at h
 ·rename_i a b c _;split at h
  ·cases h
  ·rename_i hn;cases h;simp only[not_or,Bool.not_eq_false,Int.not_lt]at hn;obtain⟨h1,h2,h3⟩:=hn;refine⟨⟨(Bb h2).1,(Bb h3).1⟩,?_⟩;rcases xS a with h | ⟨q1,q2,_⟩
   ·omega
   ·simp only[dL,q1,q2,decide_true,Bool.and_self]
 ·cases h
theorem Hc(hx:oJ x)(hw:dL x=true)(hs:bl s=iN x):lnP s=some x:=by
 simp only[dL,bJ,tA]at hw;have hnm:∀ b,b∈nmL x.Rule->b≠32:=by
  obtain⟨n,hn⟩:=Int.eq_ofNat_of_zero_le hw.1;have hn9:n<9:=by omega
  unfold nmL;rw[hn,iJ]
  match n,hn9 with
  | 0,_ | 1,_ | 2,_ | 3,_ | 4,_ | 5,_ | 6,_ | 7,_ | 8,_=>decide
 have hsp:spB 32 s=[wNm.getD x.Rule.toNat default,itB x.Node,itB x.N]:=by
  have h1:=Hn 32 s;rw[hs]at h1;unfold iN at h1;rw[uA _ hnm,uA _ (fun b hb=>(nK b hb).1),It (fun b hb=>(nK b hb).1)]at h1;generalize spB 32 s=l at h1
  match l,h1 with
  | [],h1=>simp at h1
  | [_],h1=>simp at h1
  | [_,_],h1=>simp at h1
  | _::_::_::_::_,h1=>simp at h1
  | [a,b,c],h1=>simp only[fX,List.map_nil,List.cons.injEq,and_true]at h1;obtain⟨q1,q2,q3⟩:=h1;rw[vG (a:=a) (b:=wNm.getD x.Rule.toNat default) q1,vG (a:=b) (b:=itB x.Node) q2,vG (a:=c) (b:=itB x.N) q3]
 unfold lnP;rw[hsp];show (if _ then none else _)=some x;rw[Pc hw.1 hw.2,Bk hx.1,Bk hx.2,aT (by simp; omega)]
theorem Aj{l:List ByteArray}{r:List aF}(h:l.mapM lnP=some r):(∀ x,x∈r->oJ x)/\r.all dL=true:=by
 induction l generalizing r with
 | nil=>cases h; exact⟨fun x hx=>(by cases hx),rfl⟩
 | cons s l ih=>
  rw[nC]at h;cases hs:lnP s with
  | none=>rw[hs]at h; cases h
  | some x=>
   rw[hs]at h;cases hl:l.mapM lnP with
   | none=>rw[hl]at h; cases h
   | some t=>
    rw[hl]at h;cases h;obtain⟨h1,h2⟩:=Px hs;obtain⟨h3,h4⟩:=ih hl;refine⟨fun y hy=>?_,by rw[rR,h2,h4]; rfl⟩;rcases aL.1 hy with rfl | hy
    ·exact h1
    ·exact h3 y hy
def yA(s:ByteArray):List aF×Bool:=match (eR s).mapM lnP with
 | none=>([],false)
 | some l=>if prB l=s then (l,true) else ([],false)
theorem Tl{l:List aF}(hl:l.length<=1000000)(hk:∀ x,x∈l->oJ x):Jv l=some (if l.all dL=true then prB l else ⟨#[]⟩):=uH (Nv l hl hk)
theorem Wo(h:s.size<=100000):Pq s=some (yA s):=by
 refine uH ?_;unfold Pq Pw;simp only[Tr.den];rw[Ya (by omega)];simp only[eI];have hln:=qC s;refine Sq.bind (fun z=>z=Rs ([],false) ((eR s).mapM lnP)) ?_ fun z hz=>?_
 ·refine Oh (eR s) lnP ([],false) (by omega) (fun acc k hk hal=>?_) (fun acc hal=>?_)
  ·unfold vE
   dsimp only[Tr.den]
   rw[iJ,aH (rT (by omega)),aH (by omega)];have hsm:((eR s).getD k default).size<=s.size:=by rw[lM hk]; exact uW (lC hk)
   generalize (eR s).getD k default=x at hsm;rw[Wl (by omega)];simp only[eI];have hss:∀ y,y∈spB 32 x->y.size<=1000000000000:=fun y hy=>by have:=sZ hy; omega
   unfold lnP;generalize spB 32 x=l at hss;by_cases h3:(l.length:Int)=3
   ·rw[aT (Wg h3)]
    match l,h3,hss with
    | [a,b,c],_,hss=>
     simp only[lE,List.length_nil,cH,Nat.reduceAdd];rw[aH (by decide)];show Sq _ (Option.bind (Fz b) _) _;rw[Ul (hss b (by simp))];simp only[eI];rw[aH (by decide)];show Sq _ (Option.bind (Fz c) _) _;rw[Ul (hss c (by simp)),Vx];simp only[eI];rw[aH (by decide)];show Sq _ (Option.bind (Nh wNm a) _) _;rw[Yy wNm a (by decide)];simp only[eI];by_cases h0:mO wNm a<0
     ·rw[aH (rT h0),show ln3 [a,b,c]=none from aH (Or.inl h0)];exact bC.2 rfl
     ·rw[aT (qQ h0)];cases h1:(mD b).2 with
      | false=>rw[show ln3 [a,b,c]=none from aH (Or.inr (Or.inl h1))];exact bC.2 rfl
      | true=>
       cases h2:(mD c).2 with
       | false=>rw[show ln3 [a,b,c]=none from aH (Or.inr (Or.inr h2))];exact bC.2 rfl
       | true=>rw[show ln3 [a,b,c]=some ⟨(mD b).1,mO wNm a,(mD c).1⟩ from aT (by rw[h1,h2]; simp; omega)];simp only[Bool.not_true,jF,fK,eI];rw[aH (by omega)];exact bC.2 rfl
   ·rw[aH (Xi h3),Qh (by omega)];exact bC.2 rfl
  ·unfold vE
   dsimp only[Tr.den]
   rw[aT (qQ (by omega))];exact bC.2 rfl
 ·subst hz;unfold yA;cases hm:(eR s).mapM lnP with
  | none=>exact bC.2 rfl
  | some r=>
   obtain⟨h1,h2⟩:=Aj hm;have h3:=nB hm;simp only[Rs,sel];rw[Tl (by omega) h1,aH h2];simp only[eI];rw[tlE];by_cases he:prB r=s
   ·rw[qN he,aH he]; exact bC.2 rfl
   ·rw[rG he,aT he]; exact bC.2 rfl
theorem xV{l:List aF}{L:List ByteArray}(hk:∀ x,x∈l->oJ x)(hw:l.all dL=true)(h:L.map bl=l.map iN):L.mapM lnP=some l:=by
 induction l generalizing L with
 | nil=>
  cases L with
  | nil=>rfl
  | cons a t=>simp at h
 | cons x l ih=>
  cases L with
  | nil=>simp at h
  | cons a t=>simp only[fX,List.cons.injEq]at h;rw[rR,bJ]at hw;rw[nC,Hc (hk x bT) hw.1 h.1,ih (fun y hy=>hk y (bI _ hy)) hw.2 h.2];rfl
theorem Rh(k:Nat):∀ b,b∈bl (wNm.getD k default)->b≠10:=by
 match k with
 | 0 | 1 | 2 | 3 | 4 | 5 | 6 | 7 | 8=>decide
 | k+9=>rw[show wNm.getD (k+9) default=default from by simp[wNm]]; decide
theorem Gj(x:aF):∀ b,b∈iN x->b≠10:=by
 intro b hb;unfold iN at hb;rcases dT.1 hb with hb | hb
 ·exact Rh _ b hb
 rcases aL.1 hb with rfl | hb
 ·decide
 rcases dT.1 hb with hb | hb
 ·exact(nK b hb).2
 rcases aL.1 hb with rfl | hb
 ·decide
 ·exact(nK b hb).2
theorem Nm{l:List aF}(hk:∀ x,x∈l->oJ x)(hw:l.all dL=true):yA (prB l)=(l,true):=by
 have hL:(eR (prB l)).map bl=l.map iN:=by
  unfold eR;cases l with
  | nil=>rfl
  | cons x l=>
   have hb:=Sv (x::l);have hne:prB (x::l)≠⟨#[]⟩:=by intro h;rw[h]at hb;exact zB (l:=iN x) (L:=l.map iN) hb.symm
   rw[aT hne,Hn];have h1:bl (trB (prB (x::l)))=(unl ((x::l).map iN)).dropLast:=by show Lib.trimSuffix (bl (prB (x::l))) [10]=_;rw[hb,vY ((x::l).map iN) (by simp),Cc,List.dropLast_concat]
   rw[h1];refine zY _ (by simp) fun m hm=>?_;obtain⟨y,_,rfl⟩:=cE.1 hm;exact Gj y
 unfold yA;rw[xV hk hw hL];simp only;rw[aH trivial]
theorem Nz{l:List aF}{b:Bool}(h:yA s=(l,b)):(b=false/\l=[])\/(b=true/\(∀ x,x∈l->oJ x)/\l.all dL=true/\l.length<=s.size+1/\prB l=s):=by
 unfold yA at h;cases hm:(eR s).mapM lnP with
 | none=>rw[hm]at h; cases h; exact .inl ⟨rfl,rfl⟩
 | some r=>
  rw[hm]at h;simp only at h;by_cases he:prB r=s
  ·rw[aH he]at h;cases h;obtain⟨h1,h2⟩:=Aj hm;have h3:=nB hm;have h4:=qC s;exact .inr ⟨rfl,h1,h2,by omega,he⟩
  ·rw[aT he]at h; cases h; exact .inl ⟨rfl,rfl⟩
theorem Xm(l:List aF)(hl:l.length<=1000000):Sb l l=some true:=by
 unfold Sb So;simp only[Tr.den];rw[aT (Wg rfl)];have h:=Eh (bd:=fun s=>Tr.den (pU l l s)) l.length (fun _=>true) false (by omega) (fun i hi=>?_) ?_
 ·refine(congrArg (fun x=>Option.bind x _) h).trans ?_;rw[show (List.range l.length).all (fun _=>true)=true from by simp];rfl
 ·unfold pU;simp only[Tr.den];rw[aH (rT (by omega)),aH (by omega),aH (by omega),aT (by simp)]
 ·unfold pU;simp only[Tr.den];rw[aT (qQ (by omega))]
theorem Bs(l:List aF)(s:ByteArray)(b r:Bool)(hl:l.length<=20):Sq b (dN (fun x=>Tr.den (uJ l s r x)) (true,0)) (fun z=>z = .inl (l.all dL)):=by
 refine tY (fun x=>x.2) l.length (by omega) (fun x=>x.1=(l.take x.2.toNat).all dL) (fun x k hI hk hkN=>?_) rfl rfl;obtain⟨v,v2⟩:=x;simp only at hk hI;subst hk;simp only[iJ]at hI;subst hI;unfold uJ
 dsimp only[Tr.den]
 rw[iJ];by_cases hc:k<l.length
 ·rw[aH (rT (by omega))];have hg:(0:Int)<=(k:Int)/\(k:Int)<(l.length:Int):=by omega
  have hs:(l.take (k+1)).all dL=((l.take k).all dL&&dL (l.getD k default)):=by rw[gX hc,List.all_append]; simp
  have hw:dL (l.getD k default)=(decide (0<=(l.getD k default).Rule)&&decide ((l.getD k default).Rule<9)):=rfl;refine Sq.bind (fun z=>z=(l.take (k+1)).all dL) ?_ fun z hz=>?_
  ·rw[hs,hw];cases (l.take k).all dL with
   | false=>exact bC.2 rfl
   | true=>
    rw[aH rfl,aH hg];by_cases h0:(l.getD k default).Rule>=0
    ·rw[aH (rT h0),aH hg,qN (show 0<=(l.getD k default).Rule from h0)];exact bC.2 (by simp)
    ·rw[aT (qQ h0),rG (show ¬ 0<=(l.getD k default).Rule from h0)];exact bC.2 rfl
  ·subst hz;refine bC.2 ⟨rfl,hc,?_⟩;rw[jD (by omega),iJ]
 ·have:k=l.length:=by omega
  subst this;rw[aT (qQ (by omega)),List.take_length];exact bC.2 rfl
theorem Eo(l:List aF)(s:ByteArray)(hl:okL 24 fQ l)(hs:qH s):Ci l s=some true:=by
 have hk:∀ x,x∈l->oJ x:=fun x hx=>⟨(hl.2 x hx).1,(hl.2 x hx).2.2⟩;refine uH ?_;unfold Ci Qp
 dsimp only[Tr.den]
 rw[Yn];simp only[eI];by_cases hl20:(l.length:Int)>20
 ·rw[aH (rT hl20)];exact bC.2 rfl
 rw[aT (qQ hl20)];simp only[eI];by_cases hs300:((s.size:Nat):Int)>300
 ·rw[aH (rT hs300)];exact bC.2 rfl
 rw[aT (qQ hs300)];refine Sq.bind _ (Bs l s true true (by omega)) fun z hz=>?_;subst hz;simp only[sel];rw[Tl (by omega) hk];simp only[eI];have hsz:=wT l hk;have hpz:(if l.all dL=true then prB l else ⟨#[]⟩:ByteArray).size<=100000:=by
  split
  ·omega
  ·show 0<=_; omega
 rw[Wo hpz,Wo (s:=s) (by omega)];simp only[eI];refine Sq.bind (fun z=>z=false) ?_ fun z hz=>?_
 ·cases hw:l.all dL with
  | true=>rw[aH rfl,aH rfl,Nm hk hw];simp only[Bool.not_true,jF,fK];rw[Xm l (by omega)];exact bC.2 rfl
  | false=>simp only[jF,fK,Bool.not_false,if_true];rw[tlE];exact bC.2 (by simp)
 ·subst hz;simp only[jF,fK];refine Sq.bind (fun z=>z=true) ?_ fun z hz=>bC.2 hz;simp only[if_true];cases hp:yA s with | mk m q=>
  rcases Nz hp with⟨rfl,rfl⟩ | ⟨rfl,h1,h2,h3,h4⟩
  ·exact bC.2 rfl
  ·simp only[if_true,Bool.not_true,jF,fK];rw[Tl (by omega) h1,aH h2,h4];simp only[eI];rw[tlE];exact bC.2 (by simp)
end Go.PL
namespace Go.Proofs.YtkgmkgldfjdlaaaGreatDoor
theorem certifyText_holds:Rows.CertifyTextUptoCardSaid:=nV fun a0 a1 h0 h1=>PL.Eo a0 a1 h0 h1
#print axioms certifyText_holds
end Go.Proofs.YtkgmkgldfjdlaaaGreatDoor
