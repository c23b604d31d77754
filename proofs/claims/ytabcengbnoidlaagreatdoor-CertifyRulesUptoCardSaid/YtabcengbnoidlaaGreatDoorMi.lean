/-
  Parts: From the reading of arguments to plain data; the frame of a law's row. Own work. What reads as data of the argument types reads as plain data of ours. Printed by a program of our own. What these texts lean on of our older plain laws, turned to this seat (gather.py). Own work. Plans, nodes, lists: the program and the reference compare them by equality. Own work. The comparing functions come to equality (printed by gen_ia.py, and by hand). Own work. errataref22.Same is equality. Own work. What the functions on expressions come to: levels, steps, the time, the columns that are read. Own work. Steps of expressions over functions; whether the time is read; which columns are read. Own work. Copies are what was copied (printed by gen_if.py, and by hand). Own work. Copies of expressions, functions, nodes and plans are what was copied. Own work. What the two ways of replacing a node in a plan come to: one list. Own work. Lists that hold a number; columns that may be read; columns that are put in, or get new numbers. Own work. Plans whose parts fit together, as far as the rules need it; what replacing keeps. Own work. The rules for filters over filters, maps and unions: both programs do the same. Own work. The rules that push filters: what they lay; maps and unions. Own work. Filters over windows, tops and matches. Own work. Filters over joins. Own work. Windows as panes; joins whose sides are swapped. Own work. Joins whose sides are swapped; nodes that are dropped. Own work.
-/
import Derived.Test.YtabcengbnoidlaaGreatDoorMh
import Derived.Test.YtabcengbnoidlaaGreatDoorRows
import Derived.JoinedCond
import Derived.ProofKit
import Derived.OpenShut
import Derived.Carry
import Derived.DataReads
import Derived.ChangeAnyMap
import Derived.Lib.Bytealg
import Derived.Sort.LotA
set_option maxHeartbeats 4000000
namespace Go.PL
open Go Go.RowKit
open Go.Proofs.YtabcengbnoidlaaGreatDoor.Rows (uptoBulk uptoBulkAll)
variable {X:Type} {fuel:Nat} {t:TypeId}
def RdL(F:Nat->Prop)(W:World)(l:List T)(cs:List Value):Prop:=cs.length=l.length/\∀ (j:Nat) x v,l[j]? = some x->cs[j]? = some v->Rd F W x v
theorem RdL.append{F:Nat->Prop}{W:World}{l l':List T}{cs cs':List Value}(h:RdL F W l cs)(h':RdL F W l' cs'):RdL F W (l++l') (cs++cs'):=by
 refine⟨by simp[h.1,h'.1],fun j x v hx hv=>?_⟩;by_cases hj:j<l.length
 ·rw[eU hj]at hx;rw[eU (by rw[h.1]; exact hj)]at hv;exact h.2 j x v hx hv
 ·rw[eG (by omega)]at hx;rw[eG (by rw[h.1]; omega),h.1]at hv;exact h'.2 _ x v hx hv
def gF(n:Int):Prop:=-9223372036854775808<=n/\n<=9223372036854775807
section
variable {H:Type} {enc:TypeId×Value->H} {P:Program} {W:World}
def gE(enc:TypeId×Value->H)(P:Program)(W:World)(t:TypeId)(c:X->List T)(ok:X->Prop)(fuel:Nat):Prop:=
 ∀ cs d ps,DataW.trod enc P W 0 (fun _=>true) true fuel t cs=some (d,ps)->uptoBulk d<=1048576->∃ x,RdL (fun b=>b<W.heap.size) W (c x) cs/\ok x
theorem dG{c:X->List T}{ok:X->Prop}:gE enc P W t c ok 0:=fun cs d ps h=>by simp[DataW.trod]at h
theorem RdL.one{F:Nat->Prop}{W:World}{x:T}{v:Value}(h:Rd F W x v):RdL F W [x] [v]:=by
 refine⟨rfl,fun j y u hy hu=>?_⟩;cases j with
 | zero=>simp at hy hu; subst hy; subst hu; exact h
 | succ j=>simp at hy
theorem dL(ht:P.underlying t=some (.int .i64))(fuel:Nat):gE enc P W t aG gF fuel:=by
 cases fuel with
 | zero=>exact dG
 | succ fuel=>
  intro cs d ps h _;unfold DataW.trod at h;rw[ht]at h;split at h <;> try (simp_all; done)
  rename_i k k' n hk;split at h
  ·rename_i hk2;cases hk;obtain⟨rfl,hwf⟩:=hk2;refine⟨n,RdL.one (.int _ _),?_⟩;simp[Lit.wf,IntKind.min,IntKind.max,IntKind.signed,IntKind.bits]at hwf;exact⟨by omega,by omega⟩
  ·cases h
def uD(s:ByteArray):Prop:=s.size<=1048576
theorem iE(ht:P.underlying t=some .string)(fuel:Nat):gE enc P W t Hj uD fuel:=by
 cases fuel with
 | zero=>exact dG
 | succ fuel=>
  intro cs d ps h hw;unfold DataW.trod at h;rw[ht]at h;split at h <;> try (simp_all; done)
  rename_i s hk;split at h
  ·cases h;refine⟨s,RdL.one (.str _),?_⟩;have:s.data.toList.length+1<=1048576:=hw;have:s.size=s.data.toList.length:=rfl;unfold uD;omega
  ·cases h
theorem uH{α β:Type}{f:α->Option β}:∀ {l:List α} {r:List β},l.mapM f=some r->r.length=l.length/\∀ (i:Nat) a b,l[i]? = some a->r[i]? = some b->f a=some b
 | [],r,h=>by simp at h; subst h; simp
 | x::l,r,h=>by
  rw[sD]at h;simp only[Option.bind_eq_bind,oK]at h;obtain⟨y,hy,ys,hys,hr⟩:=h;simp at hr; subst hr;obtain⟨h1,h2⟩:=uH hys;refine⟨by simp[h1],fun i a b ha hb=>?_⟩;cases i with
  | zero=>simp at ha hb; subst ha; subst hb; exact hy
  | succ i=>exact h2 i a b (by simpa using ha) (by simpa using hb)
theorem Gr:∀ d:DataW H,1<=uptoBulk d
 | .lit l=>by unfold uptoBulk; split <;> omega
 | .nil=>by simp[uptoBulk]
 | .ptr d=>by simp[uptoBulk]
 | .slice e s=>by simp[uptoBulk]
 | .agg p=>by simp[uptoBulk]
 | .iface t d=>by simp[uptoBulk]
 | .map e=>by simp[uptoBulk]
 | .held h=>by simp[uptoBulk]
theorem wZ:∀ l:List (DataW H),l.length<=uptoBulkAll l
 | []=>by simp
 | d::l=>by simp only[uptoBulkAll,sH]; have:=Gr d; have:=wZ l; omega
theorem xF:∀ {l:List (DataW H)} {d:DataW H},d∈l->uptoBulk d<=uptoBulkAll l
 | x::l,d,h=>by
  simp only[uptoBulkAll];rcases aW.1 h with rfl | h
  ·omega
  ·have:=xF h; omega
def okL(_b:Nat)(ok:X->Prop)(xs:List X):Prop:=xs.length<=1048576/\∀ x,x∈xs->ok x
theorem iA{t e b:Nat}(ht:P.underlying t=some (.slice e))(hn:Nat.blt 0 (P.cellsOf e)=true)(hb:P.bytesOf e=b){X:Type}[Inhabited X]{c:X->List T}{ok:X->Prop}{fuel:Nat}(he:gE enc P W e c ok fuel)(mk:List X->T)
  (hmk:∀ xs,(mk xs).view=some (xs.length,fun i=>c (xs.getD i default))):gE enc P W t (fun xs=>[mk xs]) (okL b ok) (fuel+1):=by
 have hz:0<P.cellsOf e:=by simpa[fD] using hn
 clear hn;subst hb;intro cs d ps h hw;unfold DataW.trod at h;rw[ht]at h;split at h <;> try (simp_all; done)
 ·
  rename_i hk;cases hk;refine⟨[],RdL.one (.nil (hmk [])),by simp,by simp⟩
 ·rename_i e' a len cap hk;cases hk;simp only at h;split at h
  ·rename_i hcap;simp only[oK,gB]at h;obtain⟨elems,hel,rest,hrest,hd⟩:=h;simp only[gM]at hd;obtain⟨rfl,rfl⟩:=hd;obtain⟨hlen,hget⟩:=uH hel;simp only[lG]at hlen;have hwt:uptoBulkAll (elems.map (·.1))<=1048576:=by have hw2:uptoBulkAll (elems.map (·.1))+uptoBulkAll (rest.map (·.1))+1<=1048576:=hw;omega
   have hl:len<=1048576:=by have:=wZ (elems.map (·.1));simp only[hP,hlen]at this;omega
   have each:∀ i,i<len->∃ x vs,W.cells? 0 (a.add (i*P.cellsOf e)) (P.cellsOf e)=some vs/\RdL (fun b=>b<W.heap.size) W (c x) vs/\ok x:=by
    intro i hi;have hi':i<elems.length:=by omega
    have:=hget i i elems[i] (by simp[hi]) (by simp[hi']);simp only[oK]at this;obtain⟨vs,hvs,htr⟩:=this;obtain⟨x,h1,h2⟩:=he vs elems[i].1 elems[i].2 htr (gY (xF (Bd (xM hi'))) hwt);exact⟨x,vs,hvs,h1,h2⟩
   have all:∃ xs:List X,xs.length=len/\∀ i,i<len->∃ vs,W.cells? 0 (a.add (i*P.cellsOf e)) (P.cellsOf e)=some vs/\RdL (fun b=>b<W.heap.size) W (c (xs.getD i default)) vs/\ok (xs.getD i default):=by
    clear hel hrest hget hw hwt hl hlen hcap
    induction len with
    | zero=>exact⟨[],rfl,fun i hi=>absurd hi (jP _)⟩
    | succ len ih=>
     obtain⟨xs,h1,h2⟩:=ih fun i hi=>each i (by omega);obtain⟨x,vs,h3,h4,h5⟩:=each len (by omega);refine⟨xs++[x],by simp[h1],fun i hi=>?_⟩;by_cases hil:i<len
     ·have:(xs++[x]).getD i default=xs.getD i default:=by simp[eU (show i<xs.length by omega)]
      rw[this]; exact h2 i hil
     ·have hil:i=len:=by omega
      subst hil;have:(xs++[x]).getD i default=x:=by simp[<-h1]
      rw[this]; exact⟨vs,h3,h4,h5⟩
   obtain⟨xs,hxl,hxs⟩:=all;refine⟨xs,RdL.one ?_,by rw[hxl]; exact hl,fun x hx=>?_⟩
   ·have hsz:∀ i,i<len->(c (xs.getD i default)).length=P.cellsOf e:=by intro i hi;obtain⟨vs,h1,h2,_⟩:=hxs i hi;rw[<-h2.1];unfold World.cells? at h1;rw[aA (Nat.zero_le _)]at h1;have:=(uH h1).1; simpa using this
    have hcell:∀ i j,i<len->j<P.cellsOf e->∃ u,W.cell? (a.add (i*P.cellsOf e+j))=some u/\∀ x,(c (xs.getD i default))[j]? = some x->Rd (fun b=>b<W.heap.size) W x u:=by intro i j hi hj;obtain⟨vs,h1,h2,_⟩:=hxs i hi;unfold World.cells? at h1;rw[aA (Nat.zero_le _)]at h1;obtain⟨h3,h4⟩:=uH h1;simp only[lG]at h3;have:=h4 j j vs[j] (by simp[hj]) (by simp[h3,hj]);rw[Addr.add_add]at this;exact⟨vs[j],this,fun x hx=>h2.2 j x vs[j] hx (by simp[h3,hj])⟩
    let vsf:Nat->Nat->Value:=fun i j=>(W.cell? (a.add (i*P.cellsOf e+j))).getD undef;refine .sl a cap (P.cellsOf e) vsf (n:=len) (f:=fun i=>c (xs.getD i default)) (by rw[hmk,hxl]) hcap.2.1 (fun hn=>?_) hsz (fun i j hi hj=>?_) (fun i j x hi hx=>?_)
    ·obtain⟨u,hu,_⟩:=hcell 0 0 hn hz;have hb:=World.block_lt_of_cell? W _ hu;have:(a.add (0*P.cellsOf e+0)).block=a.block:=by unfold Addr.add; split <;> rfl
     rw[this]at hb;exact hb
    ·obtain⟨u,hu,_⟩:=hcell i j hi hj;simp[vsf,hu]
    ·have hj:j<P.cellsOf e:=by rw[<-hsz i hi]; exact(eK.1 hx).1
     obtain⟨u,hu,hr⟩:=hcell i j hi hj;simp only[vsf,hu,Ax];exact hr x hx
   ·obtain⟨i,hi,rfl⟩:=Am hx;obtain⟨_,_,_,h⟩:=hxs i (by omega);simpa[cG,hi] using h
  ·cases h
def Dx(enc:TypeId×Value->H)(P:Program)(W:World)(off:Nat)(fs:List Field)(c:X->List T)(ok:X->Prop)(fuel:Nat):Prop:=
 ∀ (cs:List Value) xs,fs.mapM (fun f=>DataW.trod enc P W 0 (fun _=>true) true fuel f.type ((cs.drop f.offset).take (P.cellsOf f.type)))=some xs ->
  uptoBulkAll (xs.map (·.1))<=1048576->cs.length=off+(fs.map fun f=>P.cellsOf f.type).sum->∃ x,RdL (fun b=>b<W.heap.size) W (c x) (cs.drop off)/\ok x
theorem hU{off:Nat}:Dx enc P W off [] (fun (_:Unit)=>[]) (fun _=>True) fuel:=by intro cs xs _ _ hl;simp at hl;exact⟨(),⟨by simp[hl],by simp⟩,trivial⟩
theorem bA{off:Nat}{f:Field}{fs:List Field}{Y:Type}{c:X->List T}{c':Y->List T}{ok:X->Prop}{ok':Y->Prop}(ho:f.offset=off)(h:gE enc P W f.type c ok fuel)
  (h':Dx enc P W (off+P.cellsOf f.type) fs c' ok' fuel):Dx enc P W off (f::fs) (fun (x:X×Y)=>c x.1++c' x.2) (fun x=>ok x.1/\ok' x.2) fuel:=by
 intro cs xs hx hw hl;rw[sD]at hx;simp only[Option.bind_eq_bind,oK]at hx;obtain⟨y,hy,ys,hys,hr⟩:=hx;simp at hr; subst hr;simp only[kX,uptoBulkAll]at hw;obtain⟨x,h1,h2⟩:=h _ _ _ hy (by omega);simp only[kX,List.sum_cons]at hl;obtain⟨x',h3,h4⟩:=h' cs ys hys (by omega) (by omega);refine⟨(x,x'),?_,h2,h4⟩;have:cs.drop off=(cs.drop f.offset).take (P.cellsOf f.type)++cs.drop (off+P.cellsOf f.type):=by rw[ho,<-List.drop_drop,Aj]
 rw[this];exact h1.append h3
theorem fO{fs:Array Field}(ht:P.underlying t=some (.struct fs)){c:X->List T}{ok:X->Prop}(h:Dx enc P W 0 fs.toList c ok fuel)
  (hs:P.cellsOf t=(fs.toList.map fun f=>P.cellsOf f.type).sum):gE enc P W t c ok (fuel+1):=by
 intro cs d ps hd hw;unfold DataW.trod at hd;rw[ht]at hd;split at hd <;> try (simp_all; done)
 rename_i cs0 _ _ fs' hk;cases hk;split at hd
 ·rename_i hl;simp only[gB]at hd;obtain⟨xs,hxs,hd⟩:=hd;simp only[gM]at hd;obtain⟨rfl,_⟩:=hd;have hw2:uptoBulkAll (xs.map (·.1))+1<=1048576:=hw;have:=h _ xs hxs (by omega) (by rw[hl,hs]; simp);simpa using this
 ·cases hd
theorem gE.map{Y:Type}{c:X->List T}{ok:X->Prop}{c':Y->List T}{ok':Y->Prop}(h:gE enc P W t c ok fuel)(g:X->Y)(hc:∀ x,c' (g x)=c x)(ho:∀ x,ok x->ok' (g x)):
  gE enc P W t c' ok' fuel:=by
 intro cs d ps hd hw;obtain⟨x,h1,h2⟩:=h cs d ps hd hw;exact⟨g x,by rw[hc]; exact h1,ho x h2⟩
end
theorem RdL.agg{F:Nat->Prop}{W:World}{l:List T}{v:Value}(h:RdL F W l v.cells.toList)(hv:∃ vs,v = .agg vs):Rd F W (.agg l) v:=by obtain⟨vs,rfl⟩:=hv;simp only[Value.cells]at h;exact .agg (by simpa using h.1) fun j x v hx hv=>h.2 j x v hx (by simpa using hv)
section
variable {H:Type} {enc:TypeId×Value->H} {P:Program} {W:World} {r:Reach} {base:Nat}
theorem Al{fs:Array Field}(ht:P.underlying t=some (.struct fs)){c:X->List T}{ok:X->Prop}(hO:∀ fuel,gE enc P W t c ok fuel){v:Value}{d:DataW H}{ps:List MemPlace}
  (hv:Value.okWide P W r base t v)(h:DataW.Trod enc P W 0 (fun _=>true) true t v d ps)(hw:uptoBulk d<=1048576):∃ x,Rd (fun b=>b<W.heap.size) W (.agg (c x)) v/\ok x:=by
 obtain⟨cs,rfl,_⟩:=Go.WideShapes.okWide_struct ht hv;obtain⟨fuel,hf⟩:=h;obtain⟨x,h1,h2⟩:=hO fuel _ _ _ hf hw;exact⟨x,h1.agg ⟨cs,rfl⟩,h2⟩
end
theorem Bn{W W':World}(h:Below W.heap.size W W')(may:MemPlace->Prop):W.keptBut W' may:=by
 refine⟨h.os,h.output,fun i hi=>?_⟩;rw[h.block i hi];cases W.heap[i]? with
 | none=>trivial
 | some o=>cases o <;> simp
section
variable {H:Type} {enc:TypeId×Value->H} {P:Program}
theorem rZ(hl:laidOutB P=true){W W':World}(hb:Below W.heap.size W W'):∀ {ts:List TypeId} {vs:List Value} {ds:List (DataW H)} {ps:List MemPlace},
  (∀ t,t∈ts->P.readableRec t=true/\t<P.types.size)->DataW.TrodAll enc P W 0 (fun _=>true) true ts vs ds ps->(∀ x,x∈ps->x.block<W.heap.size) ->
  DataW.TrodAll enc P W' 0 (fun b=>decide (b<W.heap.size)) true ts vs ds ps
 | [],[],[],ps,_,h,_=>h
 | t::ts,v::vs,d::ds,ps,hr,h,hp=>by obtain⟨p,q,h1,h2,rfl⟩:=h;obtain⟨r1,r2⟩:=hr t (by simp);exact⟨p,q,Go.RowKit.Below.trod hl r1 r2 h1 hb (fun x hx=>hp x (tE _ hx)),rZ hl hb (fun t ht=>hr t (cU _ ht)) h2 (fun x hx=>hp x (pM _ hx)),rfl⟩
 | [],_::_,_,_,_,h,_=>by simp[DataW.TrodAll]at h
 | [],[],_::_,_,_,h,_=>by simp[DataW.TrodAll]at h
 | _::_,[],_,_,_,h,_=>by simp[DataW.TrodAll]at h
 | _::_,_::_,[],_,_,h,_=>by simp[DataW.TrodAll]at h
theorem aFK(hlay:laidOutB P=true){f:Func}{s:ChangeSpec}{W W':World}{args:Array Value}{ds gs:List (DataW H)}{before:List MemPlace}{tb:TypeId}(hvars:s.vars=[])
  (hW:DataW.Whole enc P f.params.toList s.vars false W args.toList ds gs before)(hb:Below W.heap.size W W')(hres:f.resultTypes=#[tb])(htb:P.underlying tb=some .bool)
  (hread:∀ t,t∈f.params.toList->P.readableRec t=true/\t<P.types.size)(hfn:s.fn H (ds++gs)={ results:=[.lit (.bool true)],args:=ds }):
  s.post enc P f false true false false W args (.bool true) W':=by
 have hW':=hW;obtain⟨p,q,hA,hV,rfl,_⟩:=hW;rw[hvars]at hV;cases gs with
 | cons g gs=>simp[DataW.TrodVars]at hV
 | nil=>
  simp only[DataW.TrodVars]at hV;subst hV;have hlt:∀ x,x∈p->x.block<W.heap.size:=fun x hx=>by simpa using hW'.lt x (by simp[hx])
  refine⟨ds,[],p++[],[],p,[],hW',?_,?_,?_,Bn hb _,fun h=>by cases h⟩
  ·rw[hfn,hres];exact⟨[],[],⟨1,by simp[DataW.trod,htb,Value.cells]⟩,rfl,rfl⟩
  ·rw[hfn];exact rZ hlay hb hread hA hlt
  ·rw[hvars,hfn]; exact rfl
theorem fS.law{P:Program}{k:FuncId}{args:List PV}(h:fS P k args [] [] (Ret (.t (.bool true)))){W:World}{vs:Array Value}(hs:vs.size=args.length)
  (hv:∀ (j:Nat) x v,args[j]? = some x->vs[j]? = some v->VR (fun b=>b<W.heap.size) (fun _=>undef) W x v)(hg:GLP P (fun b=>b<W.heap.size) W):
  Calls P k vs W fun e W'=>e = .returned (.bool true)/\Below W.heap.size W W':=by
 refine(h (fun b=>b<W.heap.size) (fun _=>undef) W vs hs hv ⟨by simp,by simp,by simp⟩ (fun _ h=>h) hg).mono ?_;rintro e w' ⟨v,r,H',F',g',rfl,hr,hvr,hW⟩;unfold Ret at hr;subst hr;have:=hvr.inv_bool;subst this;exact⟨rfl,⟨hW.ext.os,hW.ext.tape,hW.ext.output,hW.ext.size,fun b hb=>hW.ext.block b hb (by rintro⟨o,x,hx,_⟩; simp at hx)⟩⟩
end
set_option maxRecDepth 20000
theorem o47{H:Type}{enc:TypeId×Value->H}{W:World}(fuel:Nat):gE enc Proofs.Tryz.prog W 47 (fun xs=>[eL aG (xs)]) (okL 8 gF) fuel:=by
 cases fuel with
 | zero=>exact dG
 | succ fuel=>exact iA Proofs.Tryz.underlying47 (by kernel_rfl) (by kernel_rfl) (dL Proofs.Tryz.underlying3 fuel) (fun xs=>eL aG (xs)) (fun _=>rfl)
inductive eT:aD->Prop
 | mk0 {a b:Int} {s:ByteArray} {l:List aD} (ha:gF a) (hb:gF b) (hs:uD s) (hn:l.length<=1048576) (hl:∀ x,x∈l->eT x):eT (.mk a b s l)
theorem eT.mk{a b:Int}{s:ByteArray}{l:List aD}(ha:gF a)(hb:gF b)(hs:uD s)(hl:okL 56 eT l):eT (.mk a b s l):=.mk0 ha hb hs hl.1 hl.2
theorem Se{H:Type}{enc:TypeId×Value->H}{W:World}:∀ fuel,gE enc Proofs.Tryz.prog W 54 aH eT fuel/\gE enc Proofs.Tryz.prog W 48 (fun xs=>[.lz (.exprs xs)]) (okL 56 eT) fuel
 | 0=>⟨dG,dG⟩
 | fuel+1=>by have ih:=Se (enc:=enc) (W:=W) fuel;exact⟨(fO Proofs.Tryz.underlying54 (bA (by kernel_rfl) (dL Proofs.Tryz.underlying3 fuel) (bA (by kernel_rfl) (dL Proofs.Tryz.underlying3 fuel) (bA (by kernel_rfl) (iE Proofs.Tryz.underlying9 fuel) (bA (by kernel_rfl) ih.2 hU)))) (by kernel_rfl)).map (fun x=>aD.mk x.1 x.2.1 x.2.2.1 x.2.2.2.1) (fun _=>rfl) (fun x h=>.mk h.1 h.2.1 h.2.2.1 h.2.2.2.1),iA Proofs.Tryz.underlying48 (by kernel_rfl) (by kernel_rfl) ih.1 (fun xs=>.lz (.exprs xs)) (fun _=>rfl)⟩
def uQ(x:aU):Prop:=uD x.Name/\okL 8 gF x.Params/\gF x.Result/\eT x.Body
theorem o74{H:Type}{enc:TypeId×Value->H}{W:World}(fuel:Nat):gE enc Proofs.Tryz.prog W 74 aV uQ fuel:=by
 cases fuel with
 | zero=>exact dG
 | succ fuel=>exact(fO Proofs.Tryz.underlying74 (bA (by kernel_rfl) (iE Proofs.Tryz.underlying9 fuel) (bA (by kernel_rfl) (o47 fuel) (bA (by kernel_rfl) (dL Proofs.Tryz.underlying3 fuel) (bA (by kernel_rfl) (Se fuel).1 hU)))) (by kernel_rfl)).map (fun x=>aU.mk x.1 x.2.1 x.2.2.1 x.2.2.2.1) (fun _=>rfl) (fun x h=>⟨h.1,h.2.1,h.2.2.1,h.2.2.2.1⟩)
theorem o22{H:Type}{enc:TypeId×Value->H}{W:World}(fuel:Nat):gE enc Proofs.Tryz.prog W 22 (fun xs=>[eL aV (xs)]) (okL 104 uQ) fuel:=by
 cases fuel with
 | zero=>exact dG
 | succ fuel=>exact iA Proofs.Tryz.underlying22 (by kernel_rfl) (by kernel_rfl) (o74 fuel) (fun xs=>eL aV (xs)) (fun _=>rfl)
def Ku(x:cD):Prop:=gF x.Kind/\gF x.Col/\uD x.Name
theorem bBI{H:Type}{enc:TypeId×Value->H}{W:World}(fuel:Nat):gE enc Proofs.Tryz.prog W 121 bC Ku fuel:=by
 cases fuel with
 | zero=>exact dG
 | succ fuel=>exact(fO Proofs.Tryz.underlying121 (bA (by kernel_rfl) (dL Proofs.Tryz.underlying3 fuel) (bA (by kernel_rfl) (dL Proofs.Tryz.underlying3 fuel) (bA (by kernel_rfl) (iE Proofs.Tryz.underlying9 fuel) hU))) (by kernel_rfl)).map (fun x=>cD.mk x.1 x.2.1 x.2.2.1) (fun _=>rfl) (fun x h=>⟨h.1,h.2.1,h.2.2.1⟩)
theorem o49{H:Type}{enc:TypeId×Value->H}{W:World}(fuel:Nat):gE enc Proofs.Tryz.prog W 49 (fun xs=>[eL bC (xs)]) (okL 32 Ku) fuel:=by
 cases fuel with
 | zero=>exact dG
 | succ fuel=>exact iA Proofs.Tryz.underlying49 (by kernel_rfl) (by kernel_rfl) (bBI fuel) (fun xs=>eL bC (xs)) (fun _=>rfl)
def Ng(x:cB):Prop:=eT x.Pred/\gF x.Rep
theorem o98{H:Type}{enc:TypeId×Value->H}{W:World}(fuel:Nat):gE enc Proofs.Tryz.prog W 98 bG Ng fuel:=by
 cases fuel with
 | zero=>exact dG
 | succ fuel=>exact(fO Proofs.Tryz.underlying98 (bA (by kernel_rfl) (Se fuel).1 (bA (by kernel_rfl) (dL Proofs.Tryz.underlying3 fuel) hU)) (by kernel_rfl)).map (fun x=>cB.mk x.1 x.2.1) (fun _=>rfl) (fun x h=>⟨h.1,h.2.1⟩)
theorem o50{H:Type}{enc:TypeId×Value->H}{W:World}(fuel:Nat):gE enc Proofs.Tryz.prog W 50 (fun xs=>[eL bG (xs)]) (okL 64 Ng) fuel:=by
 cases fuel with
 | zero=>exact dG
 | succ fuel=>exact iA Proofs.Tryz.underlying50 (by kernel_rfl) (by kernel_rfl) (o98 fuel) (fun xs=>eL bG (xs)) (fun _=>rfl)
def Ni(x:aS):Prop:=uD x.Name/\gF x.Type_/\uD x.Unit
theorem o45{H:Type}{enc:TypeId×Value->H}{W:World}(fuel:Nat):gE enc Proofs.Tryz.prog W 45 aQ Ni fuel:=by
 cases fuel with
 | zero=>exact dG
 | succ fuel=>exact(fO Proofs.Tryz.underlying45 (bA (by kernel_rfl) (iE Proofs.Tryz.underlying9 fuel) (bA (by kernel_rfl) (dL Proofs.Tryz.underlying3 fuel) (bA (by kernel_rfl) (iE Proofs.Tryz.underlying9 fuel) hU))) (by kernel_rfl)).map (fun x=>aS.mk x.1 x.2.1 x.2.2.1) (fun _=>rfl) (fun x h=>⟨h.1,h.2.1,h.2.2.1⟩)
theorem o46{H:Type}{enc:TypeId×Value->H}{W:World}(fuel:Nat):gE enc Proofs.Tryz.prog W 46 (fun xs=>[eL aQ (xs)]) (okL 40 Ni) fuel:=by
 cases fuel with
 | zero=>exact dG
 | succ fuel=>exact iA Proofs.Tryz.underlying46 (by kernel_rfl) (by kernel_rfl) (o45 fuel) (fun xs=>eL aQ (xs)) (fun _=>rfl)
def yB(x:aB):Prop:=gF x.Op/\okL 8 gF x.In/\uD x.Source/\gF x.Schema/\okL 56 eT x.Exprs/\gF x.Kind/\gF x.Size/\gF x.Step/\okL 8 gF x.Key/\okL 8 gF x.Key2/\gF x.Before/\gF x.After/\gF x.Keep/\okL 32 Ku x.Aggs/\okL 64 Ng x.Seq/\okL 40 Ni x.Cols
theorem o52{H:Type}{enc:TypeId×Value->H}{W:World}(fuel:Nat):gE enc Proofs.Tryz.prog W 52 aI yB fuel:=by
 cases fuel with
 | zero=>exact dG
 | succ fuel=>exact(fO Proofs.Tryz.underlying52 (bA (by kernel_rfl) (dL Proofs.Tryz.underlying3 fuel) (bA (by kernel_rfl) (o47 fuel) (bA (by kernel_rfl) (iE Proofs.Tryz.underlying9 fuel) (bA (by kernel_rfl) (dL Proofs.Tryz.underlying3 fuel) (bA (by kernel_rfl) (Se fuel).2 (bA (by kernel_rfl) (dL Proofs.Tryz.underlying3 fuel) (bA (by kernel_rfl) (dL Proofs.Tryz.underlying3 fuel) (bA (by kernel_rfl) (dL Proofs.Tryz.underlying3 fuel) (bA (by kernel_rfl) (o47 fuel) (bA (by kernel_rfl) (o47 fuel) (bA (by kernel_rfl) (dL Proofs.Tryz.underlying3 fuel) (bA (by kernel_rfl) (dL Proofs.Tryz.underlying3 fuel) (bA (by kernel_rfl) (dL Proofs.Tryz.underlying3 fuel) (bA (by kernel_rfl) (o49 fuel) (bA (by kernel_rfl) (o50 fuel) (bA (by kernel_rfl) (o46 fuel) hU)))))))))))))))) (by kernel_rfl)).map (fun x=>aB.mk x.1 x.2.1 x.2.2.1 x.2.2.2.1 x.2.2.2.2.1 x.2.2.2.2.2.1 x.2.2.2.2.2.2.1 x.2.2.2.2.2.2.2.1 x.2.2.2.2.2.2.2.2.1 x.2.2.2.2.2.2.2.2.2.1 x.2.2.2.2.2.2.2.2.2.2.1 x.2.2.2.2.2.2.2.2.2.2.2.1 x.2.2.2.2.2.2.2.2.2.2.2.2.1 x.2.2.2.2.2.2.2.2.2.2.2.2.2.1 x.2.2.2.2.2.2.2.2.2.2.2.2.2.2.1 x.2.2.2.2.2.2.2.2.2.2.2.2.2.2.2.1) (fun _=>rfl) (fun x h=>⟨h.1,h.2.1,h.2.2.1,h.2.2.2.1,h.2.2.2.2.1,h.2.2.2.2.2.1,h.2.2.2.2.2.2.1,h.2.2.2.2.2.2.2.1,h.2.2.2.2.2.2.2.2.1,h.2.2.2.2.2.2.2.2.2.1,h.2.2.2.2.2.2.2.2.2.2.1,h.2.2.2.2.2.2.2.2.2.2.2.1,h.2.2.2.2.2.2.2.2.2.2.2.2.1,h.2.2.2.2.2.2.2.2.2.2.2.2.2.1,h.2.2.2.2.2.2.2.2.2.2.2.2.2.2.1,h.2.2.2.2.2.2.2.2.2.2.2.2.2.2.2.1⟩)
theorem o23{H:Type}{enc:TypeId×Value->H}{W:World}(fuel:Nat):gE enc Proofs.Tryz.prog W 23 (fun xs=>[eL aI (xs)]) (okL 248 yB) fuel:=by
 cases fuel with
 | zero=>exact dG
 | succ fuel=>exact iA Proofs.Tryz.underlying23 (by kernel_rfl) (by kernel_rfl) (o52 fuel) (fun xs=>eL aI (xs)) (fun _=>rfl)
def gU(x:aE):Prop:=okL 104 uQ x.Funcs/\okL 248 yB x.Nodes
theorem o25{H:Type}{enc:TypeId×Value->H}{W:World}(fuel:Nat):gE enc Proofs.Tryz.prog W 25 bK gU fuel:=by
 cases fuel with
 | zero=>exact dG
 | succ fuel=>exact(fO Proofs.Tryz.underlying25 (bA (by kernel_rfl) (o22 fuel) (bA (by kernel_rfl) (o23 fuel) hU)) (by kernel_rfl)).map (fun x=>aE.mk x.1 x.2.1) (fun _=>rfl) (fun x h=>⟨h.1,h.2.1⟩)
def lP(x:cA):Prop:=gF x.Node/\gF x.Rule/\gF x.N
theorem o27{H:Type}{enc:TypeId×Value->H}{W:World}(fuel:Nat):gE enc Proofs.Tryz.prog W 27 dS lP fuel:=by
 cases fuel with
 | zero=>exact dG
 | succ fuel=>exact(fO Proofs.Tryz.underlying27 (bA (by kernel_rfl) (dL Proofs.Tryz.underlying3 fuel) (bA (by kernel_rfl) (dL Proofs.Tryz.underlying3 fuel) (bA (by kernel_rfl) (dL Proofs.Tryz.underlying3 fuel) hU))) (by kernel_rfl)).map (fun x=>cA.mk x.1 x.2.1 x.2.2.1) (fun _=>rfl) (fun x h=>⟨h.1,h.2.1,h.2.2.1⟩)
end Go.PL
namespace Go.PL
open Go
set_option maxRecDepth 20000
variable {a j m:Int} {bb c:Bool} {fs:List aU} {i:Nat} {l ns:List aB} {n n0:aB} {r:List Int}
section
def Sq{α:Type}(b:Bool)(x:Option α)(Q:α->Prop):Prop:=(∀ y,x=some y->Q y)/\(b=true->x.isSome=true)
abbrev Sp {α:Type}(x:Option α)(Q:α->Prop):Prop:=Sq true x Q
section
variable {α β:Type} {b:Bool}
theorem aC{y:α}{Q:α->Prop}:Sq b (some y) Q↔Q y:=⟨fun h=>h.1 y rfl,fun h=>⟨fun z hz=>by cases hz; exact h,fun _=>rfl⟩⟩
theorem qV{Q:α->Prop}:Sq b (none:Option α) Q↔b=false:=⟨fun h=>by cases b with | false=>rfl | true=>exact absurd (h.2 rfl) (by simp),fun h=>⟨fun _ hz=>(by cases hz),fun hb=>(by rw[h]at hb; cases hb)⟩⟩
theorem iJ{x:Option α}{f:α->Option β}{Q:β->Prop}:Sq b (x.bind f) Q↔Sq b x (fun r=>Sq b (f r) Q):=by
 cases x with
 | none=>exact qV.trans qV.symm
 | some r=>exact(aC (Q:=fun r=>Sq b (f r) Q)).symm
theorem Sq.imp{x:Option α}{P Q:α->Prop}(h:Sq b x P)(hq:∀ y,P y->Q y):Sq b x Q:=⟨fun y hy=>hq y (h.1 y hy),h.2⟩
theorem Sq.of_eq{x:Option α}{y:α}{Q:α->Prop}(h:x=some y)(hq:Q y):Sq b x Q:=by rw[h]; exact aC.2 hq
theorem Sp.get{x:Option α}{Q:α->Prop}(h:Sp x Q):∃ y,x=some y/\Q y:=by obtain⟨y,hy⟩:=wT.1 (h.2 rfl);exact⟨y,hy,h.1 y hy⟩
theorem Sp.eq{x:Option α}{y:α}(h:Sp x (fun z=>z=y)):x=some y:=by obtain⟨z,h1,rfl⟩:=h.get; exact h1
theorem Sq.bind{x:Option α}{f:α->Option β}{Q:β->Prop}(P:α->Prop)(h:Sq b x P)(h':∀ y,P y->Sq b (f y) Q):Sq b (x.bind f) Q:=iJ.2 (h.imp h')
theorem bH{x y:Option α}{Q:α->Prop}(h:c=true->Sq b x Q)(h':c=false->Sq b y Q):Sq b (if c=true then x else y) Q:=by
 cases c with
 | true=>exact h rfl
 | false=>exact h' rfl
end
theorem eC{b:Int}(h:a≠b):¬ ((a==b)=true):=by simpa using h
theorem dB{b:Int}(h:a=b):(a==b)=true:=by simpa using h
theorem bP{p:Prop}[Decidable p](h:¬ p):¬ (decide p=true):=by simpa using h
theorem bU{p:Prop}[Decidable p](h:p):decide p=true:=by simpa using h
section
variable {S R:Type} {b:Bool} {bd:S->Option (S⊕R)}
theorem Sq.while(I:S->Prop)(μ:S->Nat){Q:R->Prop}(h:∀ s,I s->Sq b (bd s) (sel (fun s'=>I s'/\μ s' < μ s) Q)){s:S}(hs:I s):Sq b (bZ bd s) Q:=by
 have:∀ (k:Nat) (s:S),μ s<=k->I s->Sq b (bZ bd s) Q:=by
  intro k
  induction k with
  | zero=>
   intro s hk hs;have h1:=h s hs;rw[rM];cases hb:bd s with
   | none=>rw[hb]at h1; exact qV.2 (qV.1 h1)
   | some z=>
    rw[hb]at h1;have h2:=aC.1 h1;cases z with
    | inl s'=>exact absurd h2.2 (by omega)
    | inr r=>exact aC.2 h2
  | succ k ih=>
   intro s hk hs;have h1:=h s hs;rw[rM];cases hb:bd s with
   | none=>rw[hb]at h1; exact qV.2 (qV.1 h1)
   | some z=>
    rw[hb]at h1;have h2:=aC.1 h1;cases z with
    | inl s'=>exact ih s' (by have:=h2.2; omega) h2.1
    | inr r=>exact aC.2 h2
 exact this (μ s) s (fJ _) hs
theorem mR(f:Nat->S)(n:Nat){r:R}(h:∀ i,i<n->bd (f i)=some (.inl (f (i+1))))(h':bd (f n)=some (.inr r)):bZ bd (f 0)=some r:=by
 have:∀ k,k<=n->bZ bd (f (n-k))=some r:=by
  intro k
  induction k with
  | zero=>intro _; exact kL h'
  | succ k ih=>intro hk;rw[qP (h (n-(k+1)) (by omega)),show n-(k+1)+1=n-k by omega];exact ih (by omega)
 simpa using this n (fJ n)
end
section
variable {P:Program} {A R:Type}
theorem aPL{C:A->Option R->Prop}(c0:∀ a,C a none)(B:{f:A->Option R // ∀ a,C a (f a)}->A->Tr P R)(ok:∀ f a,C a (B f a).den)(I:A->Prop)(μ:A->Nat)(Q:A->R->Prop)
  (h:∀ b f a,I a->(∀ a',I a'->μ a' < μ a->Sq b (f.1 a') (Q a'))->Sq b (B f a).den (Q a)):∀ n a,I a->Sq (decide (μ a<n)) ((Jh c0 B ok n).1 a) (Q a):=by
 intro n
 induction n with
 | zero=>intro a ha; exact⟨fun y hy=>(by cases hy),fun hb=>by simp at hb⟩
 | succ n ih=>intro a ha;refine h _ _ a ha fun a' ha' hm=>?_;have h1:=ih a' ha';exact⟨h1.1,fun hb=>h1.2 (by simp at hb ⊢; omega)⟩
theorem fV{C:A->Option R->Prop}(c0:∀ a,C a none)(B:{f:A->Option R // ∀ a,C a (f a)}->A->Tr P R)(ok:∀ f a,C a (B f a).den)(I:A->Prop)(μ:A->Nat)(Q:A->R->Prop)
  (h:∀ b f a,I a->(∀ a',I a'->μ a' < μ a->Sq b (f.1 a') (Q a'))->Sq b (B f a).den (Q a))(b:Bool)(a:A)(ha:I a):Sq b (kZ c0 B ok a) (Q a):=by
 have h1:=aPL c0 B ok I μ Q h;unfold kZ;rcases Lim.or (fun n=>(Jh c0 B ok n).1 a) with⟨y,n,hn,hl⟩ | ⟨hl,hh⟩
 ·rw[hl];exact aC.2 ((h1 n a ha).1 _ hn)
 ·exfalso;have h2:=h1 (μ a+1) a ha;obtain⟨y,hy⟩:=wT.1 (h2.2 (by simp));exact hh y _ hy
end
end
section
theorem aDZ(n:Int):IntKind.i64.wrap n=(n+9223372036854775808) % 18446744073709551616-9223372036854775808:=by simp only[IntKind.wrap,IntKind.bits,IntKind.signed];simp;omega
theorem cQ{n:Int}(h1:-9223372036854775808<=n)(h2:n<=9223372036854775807):IntKind.i64.wrap n=n:=by rw[aDZ]; omega
theorem bM{n:Nat}(h:n<9223372036854775807):IntKind.i64.wrap ((n:Int)+1)=((n+1:Nat):Int):=by rw[cQ] <;> omega
section
variable {α:Type} [Inhabited α]
theorem eR{l:List α}{k:Nat}(h:k<l.length):l.getD k default=l[k]:=by simp[h]
theorem aR{l:List α}{k:Nat}(h:k<l.length):l.getD k default∈l:=by rw[eR h]; exact xM h
theorem Hx{l r:List α}(h:l.length=r.length)(h':∀ k,k<l.length->l.getD k default=r.getD k default):l=r:=by
 apply List.ext_getElem h;intro k h1 h2;have:=h' k h1
 rwa [eR h1,eR h2]at this
theorem dT{l:List α}{k:Nat}(h:k<l.length):l.take (k+1)=l.take k++[l.getD k default]:=by rw[eR h,List.take_succ_eq_append_getElem h]
theorem Wx{l:List α}{k:Nat}(h:k<l.length):l.drop k=l.getD k default::l.drop (k+1):=by rw[eR h,yS h]
end
end
section
theorem tJ(p q:Prop)[Decidable p][Decidable q]:(if decide p=true then some (decide q) else some false)=some (decide (p/\q)):=by by_cases hp:p <;> simp[hp]
end
section
theorem jQ{S R:Type}{b:Bool}{bd:S->Option (S⊕R)}(idx:S->Int)(N:Nat)(hN:N<=1000000000000000)(I:S->Prop){Q:R->Prop}
  (h:∀ s (k:Nat),I s->idx s=k->k<=N->Sq b (bd s) (sel (fun s'=>idx s'=IntKind.i64.wrap ((k:Int)+1)/\k<N/\I s') Q)){s:S}(hs:I s)(h0:idx s=0):Sq b (bZ bd s) Q:=by
 refine Sq.while (fun s=>I s/\∃ k:Nat,idx s=k/\k<=N) (fun s=>N-(idx s).toNat) (fun s hs=>?_) ⟨hs,0,h0,by omega⟩;obtain⟨hI,k,hk,hkN⟩:=hs;refine(h s k hI hk hkN).imp fun z hz=>?_;cases z with
 | inr r=>exact hz
 | inl s'=>obtain⟨q1,q2,q3⟩:=hz;rw[bM (by omega)]at q1;exact⟨⟨q3,k+1,q1,by omega⟩,by rw[q1,hk]; omega⟩
theorem eT.len{e:aD}(h:eT e):e.Args.length<=1048576:=by cases h; assumption
theorem eT.arg{e:aD}(h:eT e):∀ x,x∈e.Args->eT x:=by cases h; assumption
theorem sU{e x:aD}(h:x∈e.Args):SizeOf.sizeOf x<SizeOf.sizeOf e:=by
 cases e with
 | mk a b s l=>have:=List.sizeOf_lt_of_mem h;simp only[aD.Args]at this;simp only[aD.mk.sizeOf_spec];omega
theorem Pz(e:aD)(h:eT e):Sp (G79 e) (fun _=>True):=by
 refine fV (C:=fun (a:aD) (x:Option Int)=>Con Proofs.Tryz.prog 51 [.t (aL a)] x (fun (y:Int)=>.t (.int .i64 (y)))) (fun a=>⟨bJ Proofs.Tryz.func51 (by kernel_rfl),fun _ h=>nomatch h⟩) (fun rec a=>T79 rec a) (fun rec a=>aBM rec a)
  eT (fun e=>SizeOf.sizeOf e) (fun _ _=>True) (fun b f e he hrec=>?_) true e h
 have hl:=he.len;unfold T79;simp only[Tr.den,iJ];refine jQ (fun s:Int×Int=>s.2) e.Args.length (by omega) (fun _=>True) (fun s k _ hk hkN=>?_) trivial rfl;obtain⟨v1,v2⟩:=s;simp only at hk;subst hk;unfold aIG;simp only[Tr.den,aJ];by_cases hc:k<e.Args.length
 ·rw[aA (bU (by omega)),aA (by omega)];refine Sq.bind _ (hrec _ (he.arg _ (aR hc)) (sU (aR hc))) fun r _=>aC.2 ⟨rfl,hc,trivial⟩
 ·rw[aF (bP (by omega))];exact aC.2 (aC.2 trivial)
theorem aIL(e:aD)(h:eT e):Sp (G80 e) (fun _=>True):=by
 refine fV (C:=fun (a:aD) (x:Option Int)=>Con Proofs.Tryz.prog 52 [.t (aL a)] x (fun (y:Int)=>.t (.int .i64 (y)))) (fun a=>⟨bJ Proofs.Tryz.func52 (by kernel_rfl),fun _ h=>nomatch h⟩) (fun rec a=>T80 rec a) (fun rec a=>Oc rec a)
  eT (fun e=>SizeOf.sizeOf e) (fun _ _=>True) (fun b f e he hrec=>?_) true e h
 have hl:=he.len;unfold T80;simp only[Tr.den,iJ];refine jQ (fun s:Int×Int=>s.2) e.Args.length (by omega) (fun _=>True) (fun s k _ hk hkN=>?_) trivial rfl;obtain⟨v1,v2⟩:=s;simp only at hk;subst hk;unfold nH;simp only[Tr.den,aJ];by_cases hc:k<e.Args.length
 ·rw[aA (bU (by omega)),aA (by omega)];refine Sq.bind _ (hrec _ (he.arg _ (aR hc)) (sU (aR hc))) fun r _=>aC.2 ⟨rfl,hc,trivial⟩
 ·rw[aF (bP (by omega))];exact aC.2 (aC.2 trivial)
theorem Sr(fs:List Int)(e:aD)(hf:fs.length<=1100000)(h:eT e):Sp (bBC fs e) (fun _=>True):=by
 refine fV (C:=fun (a:(List Int)×aD) (x:Option Int)=>Con Proofs.Tryz.prog 100 [.t (eL aG (a.1)),.t (aL a.2)] x (fun (y:Int)=>.t (.int .i64 (y)))) (fun a=>⟨bJ Proofs.Tryz.func100 (by kernel_rfl),fun _ h=>nomatch h⟩) (fun rec a=>aCA rec a.1 a.2) (fun rec a=>Ru rec a.1 a.2)
  (fun a=>a.1.length<=1100000/\eT a.2) (fun a=>SizeOf.sizeOf a.2) (fun _ _=>True) (fun b f a ha hrec=>?_) true (fs,e) ⟨hf,h⟩
 obtain⟨fs,e⟩:=a;obtain⟨hf,he⟩:=ha;simp only at hf he hrec ⊢;have hl:=he.len;unfold aCA;simp only[Tr.den,iJ];refine jQ (fun s:List Int×Int=>s.2) e.Args.length (by omega) (fun s=>s.1.length=s.2.toNat) (fun s k hI hk hkN=>?_) rfl rfl;obtain⟨v1,v2⟩:=s;simp only at hk hI;subst hk;unfold Sv;simp only[Tr.den,aJ]at hI ⊢;by_cases hc:k<e.Args.length
 ·rw[aA (bU (by omega)),aA (by omega)];refine Sq.bind _ (hrec (fs,e.Args.getD k default) ⟨hf,he.arg _ (aR hc)⟩ (sU (aR hc))) fun r _=>?_;rw[aA (by simp only[sH,oE]; omega)];refine aC.2 ⟨rfl,hc,?_⟩;rw[bM (by omega)]; simp; omega
 ·rw[aF (bP (by omega))];refine aC.2 ?_;simp only[sel];have hv:v1.length=e.Args.length:=by omega
  have rest:Sq b ((bZ (fun s=>(Gy s).den) (1,v1,0)).bind (sel (fun b10=>((if (e.Op==22)=true then (if decide (e.N>=0)=true then some (decide (e.N<(fs.length:Int))) else some false) else some false)).bind fun j11=>
    ((if j11=true then (if 0<=e.N/\e.N<(fs.length:Int) then some (if (1099511627776:Int)<IntKind.i64.wrap (b10+fs.getD e.N.toNat default) then (1099511627776:Int) else IntKind.i64.wrap (b10+fs.getD e.N.toNat default)) else none) else some b10)).bind fun j12=>some j12) some)) (fun _=>True):=by
   rw[iJ];refine jQ (fun s:Int×List Int×Int=>s.2.2) v1.length (by omega) (fun s=>s.2.1=v1) (fun s k hI hk hkN=>?_) rfl rfl;obtain⟨w1,w2,w3⟩:=s;simp only at hk hI;subst hk hI;unfold Gy;simp only[Tr.den,aJ];by_cases hc:k<w2.length
   ·rw[aA (bU (by omega)),aA (by omega),aA hc];exact aC.2 ⟨rfl,hc,rfl⟩
   ·rw[aF (bP (by omega))];refine aC.2 ?_;simp only[sel,tJ];by_cases h22:(e.Op==22)=true
    ·rw[aA h22];simp only[aK];by_cases hr:e.N>=0/\e.N<(fs.length:Int)
     ·rw[aA (bU hr),aA hr]; exact aC.2 trivial
     ·rw[aF (bP hr)]; exact aC.2 trivial
    ·rw[aF h22]; exact aC.2 trivial
  by_cases h21:(e.Op==21)=true
  ·rw[aA h21];simp only[aK];by_cases h3:((v1.length:Int)==3)=true
   ·rw[aA h3];have h3':v1.length=3:=by have:=pY.1 h3; omega
    rw[aA (by omega),aA (by simp; omega),aA (by omega),aA (by simp; omega),aA (by omega),aA (by simp; omega)];exact aC.2 trivial
   ·rw[aF h3]; exact rest
  ·rw[aF h21];simp only[aK,cO,bY];exact rest
theorem okEs.get{l:List aD}(h:okL 56 eT l){k:Nat}(hk:k<l.length):eT (l.getD k default):=h.2 _ (aR hk)
end
section
def bl(b:ByteArray):List UInt8:=b.data.toList
theorem aUW{a b:ByteArray}(h:bl a=bl b):a=b:=by cases a; cases b; simp[bl]at h; simp[h]
end
section
theorem zE{P:Program}{A R:Type}{C C':A->Option R->Prop}(c0:∀ a,C a none)(c0':∀ a,C' a none)
  (B:{f:A->Option R // ∀ a,C a (f a)}->A->Tr P R)(B':{f:A->Option R // ∀ a,C' a (f a)}->A->Tr P R)(ok:∀ f a,C a (B f a).den)(ok':∀ f a,C' a (B' f a).den)
  (h:∀ f g,f.1=g.1->∀ a,(B f a).den=(B' g a).den):∀ n,(Jh c0 B ok n).1=(Jh c0' B' ok' n).1
 | 0=>rfl
 | n+1=>funext fun a=>h _ _ (zE c0 c0' B B' ok ok' h n) a
theorem tC{P:Program}{A R:Type}{C C':A->Option R->Prop}(c0:∀ a,C a none)(c0':∀ a,C' a none)
  (B:{f:A->Option R // ∀ a,C a (f a)}->A->Tr P R)(B':{f:A->Option R // ∀ a,C' a (f a)}->A->Tr P R)(ok:∀ f a,C a (B f a).den)(ok':∀ f a,C' a (B' f a).den)
  (h:∀ f g,f.1=g.1->∀ a,(B f a).den=(B' g a).den)(a:A):kZ c0 B ok a=kZ c0' B' ok' a:=by
 unfold kZ;simp only[zE c0 c0' B B' ok ok' h]
end
section
theorem dM{S R:Type}{b:Bool}{bd:S->Option (S⊕R)}(idx:S->Int)(N:Nat)(hN:N<=1000000000000000)(I:S->Prop){Q:R->Prop}
  (h:∀ s (k:Nat),I s->idx s=k->k<=N->Sq b (bd s) (sel (fun s'=>idx s'=IntKind.i64.wrap ((k:Int)+1)/\k<N/\I s') Q)){s:S}(hs:I s)(h0:idx s=0):Sq b (bZ bd s) Q:=by
 refine Sq.while (fun s=>I s/\∃ k:Nat,idx s=k/\k<=N) (fun s=>N-(idx s).toNat) (fun s hs=>?_) ⟨hs,0,h0,by omega⟩;obtain⟨hI,k,hk,hkN⟩:=hs;refine(h s k hI hk hkN).imp fun z hz=>?_;cases z with
 | inr r=>exact hz
 | inl s'=>obtain⟨q1,q2,q3⟩:=hz;rw[bM (by omega)]at q1;exact⟨⟨q3,k+1,q1,by omega⟩,by rw[q1,hk]; omega⟩
end
section
theorem Sq.of{α:Type}{b:Bool}{x:Option α}{Q:α->Prop}(h:Sp x Q):Sq b x Q:=⟨h.1,fun _=>h.2 rfl⟩
inductive cC:aD->Prop
 | mk {e:aD} (hs:e.S.size<=1048576) (hl:e.Args.length<=1048576) (hA:∀ i,i<e.Args.length->cC (e.Args.getD i default)):cC e
theorem dQ{e x:aD}(h:x∈e.Args):SizeOf.sizeOf x<SizeOf.sizeOf e:=by
 cases e with
 | mk a b s l=>have:=List.sizeOf_lt_of_mem h;simp only[aD.Args]at this;simp only[aD.mk.sizeOf_spec];omega
end
section
theorem aJV(e:aD)(h:cC e):Sp (G80 e) (fun _=>True):=by
 refine fV (C:=fun (a:aD) (x:Option (Int))=>Con Proofs.Tryz.prog 52 [.t (aL a)] x (fun (y:Int)=>.t (.int .i64 (y)))) (fun a=>⟨bJ Proofs.Tryz.func52 (by kernel_rfl),fun _ h=>nomatch h⟩) (fun rec a=>T80 rec a) (fun rec a=>Oc rec a)
  cC (fun e=>SizeOf.sizeOf e) (fun _ _=>True) (fun b f e he hrec=>?_) true e h
 cases he with
 | mk hs hl hA=>
 unfold T80;simp only[Tr.den,iJ];refine dM (fun s:Int×Int=>s.2) e.Args.length (by omega) (fun _=>True) (fun s k _ hk hkN=>?_) trivial rfl;obtain⟨v1,v2⟩:=s;simp only at hk;subst hk;unfold nH;simp only[Tr.den,aJ];by_cases hc:k<e.Args.length
 ·rw[aA (bU (by omega)),aA (by omega)];refine Sq.bind _ (hrec _ (hA k hc) (dQ (aR hc))) fun r _=>aC.2 ⟨rfl,hc,trivial⟩
 ·rw[aF (bP (by omega))];exact aC.2 (aC.2 trivial)
end
section
theorem eT.bnd{e:aD}(h:eT e):cC e:=by
 induction h with
 | mk0 ha hb hs hn hl ih=>exact .mk hs hn (fun i hi=>ih _ (aR hi))
end
section
theorem Sn(fs:List aU)(e:aD)(hl:okL 104 uQ fs)(h:eT e):Sp (G81 fs e) (fun _=>True):=by
 have hl1:=hl.1;unfold G81 T81;simp only[Tr.den,iJ];refine jQ (fun s:List Int×Int=>s.2) fs.length (by omega) (fun s=>s.1.length=s.2.toNat) (fun s k hI hk hkN=>?_) rfl rfl;obtain⟨v1,v2⟩:=s;simp only at hk hI;subst hk;simp only[aJ]at hI;unfold aHF;simp only[Tr.den,aJ];by_cases hc:k<fs.length
 ·rw[aA (bU (by omega)),aA (by omega)];refine Sq.bind _ (Sq.of (Sr v1 _ (by omega) (hl.2 _ (aR hc)).2.2.2)) fun r _=>?_;rw[aA (by simp only[sH,oE]; omega)];refine aC.2 ⟨rfl,hc,?_⟩;simp only;rw[bM (by omega)]; simp; omega
 ·rw[aF (bP (by omega))];refine aC.2 ?_;simp only[sel,iJ];exact(Sq.of (Sr v1 e (by omega) h)).imp fun _ _=>aC.2 trivial
theorem aKO(fs:List aU)(n:aB)(hl:okL 104 uQ fs)(h:yB n):Sp (G33 fs n) (fun r=>r=true->n.Key.length<=20/\n.Seq.length<=8):=by
 obtain⟨_,_,_,_,hE,_,_,_,_,_,_,_,_,_,hS,_⟩:=h;have hE1:=hE.1;have hS1:=hS.1;have hl1:=hl.1;unfold G33 T33;simp only[Tr.den,iJ];refine jQ (fun s:Int=>s) fs.length (by omega) (fun _=>True) (fun s k _ hk hkN=>?_) trivial rfl;subst hk;unfold aFV;simp only[Tr.den,aJ,tJ,aK];by_cases hc:((k:Int)<(fs.length:Int))/\(k:Int)<6
 ·rw[aA (bU hc),aA (by omega)];refine Sq.bind _ (Pz _ (hl.2 _ (aR (show k<fs.length by omega))).2.2.2) fun r _=>?_;refine Sq.bind (fun _=>True) ?_ (fun j _=>?_)
  ·by_cases h1:r>100
   ·rw[aA (bU h1)]; exact aC.2 trivial
   ·rw[aF (bP h1),aA (by omega)]; exact aC.2 trivial
  ·cases j with
   | true=>exact aC.2 (aC.2 fun h=>by cases h)
   | false=>exact aC.2 ⟨rfl,by omega,trivial⟩
 ·rw[aF (bP hc)];refine aC.2 ?_;simp only[sel,iJ];refine jQ (fun s:Int=>s) n.Exprs.length (by omega) (fun _=>True) (fun s k _ hk hkN=>?_) trivial rfl;subst hk;unfold aEV;simp only[Tr.den,aJ,tJ,aK];by_cases hc:((k:Int)<(n.Exprs.length:Int))/\(k:Int)<13
  ·rw[aA (bU hc),aA (by omega)];have he:=okEs.get hE (show k<n.Exprs.length by omega);refine Sq.bind _ (Sq.of (Pz _ he)) fun r _=>?_;refine Sq.bind (fun _=>True) ?_ (fun j _=>?_)
   ·by_cases h1:r>200
    ·rw[aA (bU h1)]; exact aC.2 trivial
    ·rw[aF (bP h1),aA (by omega)];refine Sq.bind _ (Sq.of (aIL _ he)) fun r _=>?_;by_cases h2:r>12
     ·rw[aA (bU h2)]; exact aC.2 trivial
     ·rw[aF (bP h2),aA (by omega)];refine Sq.bind _ (Sq.of (Sn fs _ hl he)) fun r _=>aC.2 trivial
   ·cases j with
    | true=>exact aC.2 (aC.2 fun h=>by cases h)
    | false=>exact aC.2 ⟨rfl,by omega,trivial⟩
  ·rw[aF (bP hc)];refine aC.2 ?_;simp only[sel,iJ];refine jQ (fun s:Int=>s) n.Seq.length (by omega) (fun _=>True) (fun s k _ hk hkN=>?_) trivial rfl;subst hk;unfold aEX;simp only[Tr.den,aJ,tJ,aK];by_cases hc:((k:Int)<(n.Seq.length:Int))/\(k:Int)<9
   ·rw[aA (bU hc),aA (by omega)];have he:=(hS.2 _ (aR (show k<n.Seq.length by omega))).1;refine Sq.bind _ (Sq.of (Pz _ he)) fun r _=>?_;refine Sq.bind (fun _=>True) ?_ (fun j _=>?_)
    ·by_cases h1:r>200
     ·rw[aA (bU h1)]; exact aC.2 trivial
     ·rw[aF (bP h1),aA (by omega)];refine Sq.bind _ (Sq.of (aIL _ he)) fun r _=>?_;by_cases h2:r>12
      ·rw[aA (bU h2)]; exact aC.2 trivial
      ·rw[aF (bP h2),aA (by omega)];refine Sq.bind _ (Sq.of (Sn fs _ hl he)) fun r _=>aC.2 trivial
    ·cases j with
     | true=>exact aC.2 (aC.2 fun h=>by cases h)
     | false=>exact aC.2 ⟨rfl,by omega,trivial⟩
   ·rw[aF (bP hc)];refine aC.2 ?_;simp only[sel];exact aC.2 fun h=>by have:=vD h; omega
end
section
theorem bAH{a b:ByteArray}(h:(a.toList==b.toList)=true):bl a=bl b:=by have h:=pY.1 h;rw[ByteArray.toList_eq,ByteArray.toList_eq]at h;exact h
end
section
end
section
section
variable {α β:Type} {b:Bool}
end
def Fa{A B:Type}[Inhabited A][Inhabited B](p:A->B->Bool)(l:List A)(r:List B):Bool:=decide (l.length=r.length)&&(List.range l.length).all fun i=>p (l.getD i default) (r.getD i default)
theorem wK{A B:Type}[Inhabited A][Inhabited B]{p:A->B->Bool}{l:List A}{r:List B}:Fa p l r=true↔l.length=r.length/\∀ i,i<l.length->p (l.getD i default) (r.getD i default)=true:=by unfold Fa;simp only[cM,pI,dO,sC]
end
section
theorem aD.eta(e:aD):aD.mk e.Op e.N e.S e.Args=e:=by cases e; rfl
def aD.zero:aD:=.mk 0 0 ⟨#[]⟩ []
theorem cC.get{e:aD}(h:cC e):e.S.size<=1048576/\e.Args.length<=1048576/\∀ i,i<e.Args.length->cC (e.Args.getD i default):=by cases h with | mk a b c=>exact⟨a,b,c⟩
theorem cC.mem{e x:aD}(h:cC e)(hx:x∈e.Args):cC x:=by
 obtain⟨i,hi,rfl⟩:=Am hx;have:=h.get.2.2 i hi
 rwa [eR hi]at this
theorem cC.of{e:aD}(hs:e.S.size<=1048576)(hl:e.Args.length<=1048576)(hA:∀ x,x∈e.Args->cC x):cC e:=.mk hs hl fun _i hi=>hA _ (aR hi)
theorem cC.ind{M:aD->Prop}(h:∀ e,cC e->(∀ x,x∈e.Args->cC x/\M x)->M e){e:aD}(he:cC e):M e:=by
 induction he with
 | @mk e hs hl hA ih=>refine h e (.mk hs hl hA) fun x hx=>?_;obtain⟨i,hi,rfl⟩:=Am hx;have h1:=ih i hi;have h2:=hA i hi;rw[eR hi]at h1 h2;exact⟨h2,h1⟩
theorem Wp{A B:Type}[Inhabited A]{f:A->Option B}{l:List A}{k:Nat}(h:k<l.length)(hf:f (l.getD k default)=none):l.mapM f=none:=by
 have e:l=l.take k++l.getD k default::l.drop (k+1):=by rw[<-Wx h,Aj]
 rw[e,List.mapM_append,sD,hf];cases List.mapM f (l.take k) <;> rfl
theorem Wu{A B:Type}[Inhabited A]{f:A->Option B}{l:List A}{k:Nat}(h:k<l.length){acc:List B}{y:B}(h1:(l.take k).mapM f=some acc)(h2:f (l.getD k default)=some y):(l.take (k+1)).mapM f=some (acc++[y]):=by rw[dT h,List.mapM_append,h1,sD,h2];rfl
theorem tV{A B:Type}{f:A->Option B}:∀ {l:List A} {r:List B},l.mapM f=some r->r.length=l.length/\∀ y,y∈r->∃ x,x∈l/\f x=some y
 | [],r,h=>by simp at h; subst h; simp
 | x::l,r,h=>by
  rw[sD]at h;simp only[Option.bind_eq_bind,oK]at h;obtain⟨y,hy,ys,hys,hr⟩:=h;simp at hr; subst hr;obtain⟨h1,h2⟩:=tV hys;refine⟨by simp[h1],fun z hz=>?_⟩;rcases aW.1 hz with rfl | hz
  ·exact⟨x,by simp,hy⟩
  ·obtain⟨x',h3,h4⟩:=h2 z hz; exact⟨x',cU _ h3,h4⟩
def bBK{B R:Type}(r:R)(x:Option (List B)):List B⊕R:=match x with | some ys=>.inl ys | none=>.inr r
theorem aKK{A B R:Type}[Inhabited A]{b:Bool}(l:List A){bd:List B×Int->Option ((List B×Int)⊕(List B⊕R))}(f:A->Option B)(r:R)(hN:l.length<=1000000000000)
  (h:∀ (acc:List B) (k:Nat),k<l.length->acc.length=k->Sq b (bd (acc,(k:Int))) (fun z=>z=match f (l.getD k default) with | some y=>.inl (acc++[y],IntKind.i64.wrap ((k:Int)+1)) | none=>.inr (.inr r)))
  (hf:∀ acc:List B,acc.length=l.length->Sq b (bd (acc,(l.length:Int))) (fun z=>z = .inr (.inl acc))):Sq b (bZ bd ([],0)) (fun z=>z=bBK r (l.mapM f)):=by
 refine dM (fun s=>s.2) l.length (by omega) (fun s=>(l.take s.2.toNat).mapM f=some s.1) (fun s k hI hk hkN=>?_) rfl rfl;obtain⟨acc,v⟩:=s;simp only at hk hI;subst hk;simp only[aJ]at hI;have hal:acc.length=k:=by rw[(tV hI).1,dJ]; omega
 by_cases hc:k<l.length
 ·refine(h acc k hc hal).imp fun z hz=>?_;subst hz;cases hx:f (l.getD k default) with
  | none=>simp only[sel]; rw[Wp hc hx]; rfl
  | some y=>simp only[sel];refine⟨trivial,hc,?_⟩;rw[bM (by omega),aJ];exact Wu hc hI hx
 ·have:k=l.length:=by omega
  subst this;refine(hf acc hal).imp fun z hz=>?_;subst hz;simp only[sel];rw[fQ (fJ _)]at hI;rw[hI]; rfl
theorem aNH(b:Bool)(e:aD)(h:cC e):Sq b (aRN e) (fun y=>y=e):=by
 unfold aRN aTV;refine fV _ _ _ cC (fun e=>SizeOf.sizeOf e) (fun e y=>y=e) (fun b f e he hrec=>?_) b e h;obtain⟨hs,hl,hA⟩:=he.get;unfold aJK;simp only[Tr.den];refine iJ.2 ((dM (fun s=>s.2) e.Args.length (by omega) (fun s=>s.1=e.Args.take s.2.toNat) (fun s k hI hk hkN=>?_) rfl rfl:Sq b _ (fun z:List aD⊕aD=>z = .inl e.Args)).imp fun z hz=>?_)
 ·obtain⟨v1,v2⟩:=s;simp only at hk hI;subst hk;simp only[aJ]at hI;subst hI;unfold Ro;simp only[Tr.den,aJ];by_cases hc:k<e.Args.length
  ·rw[aA (bU (by omega)),aA (by omega)];refine Sq.bind _ (hrec _ (hA k hc) (dQ (aR hc))) fun r hr=>?_;subst hr;rw[aA (by rw[dJ]; omega)];refine aC.2 ⟨rfl,hc,?_⟩;simp only;rw[bM (by omega),aJ,dT hc]
  ·rw[aF (bP (by omega))];refine aC.2 ?_;simp only[sel];rw[fQ (by omega)]
 ·subst hz;exact aC.2 (aD.eta e)
def lT(op:Int)(l:List aD):aD->Option aD
 | .mk o n s xs=>match o==op with
  | true=>match decide (n<0) || decide (n>=(l.length:Int)) with
   | true=>none
   | false=>some (l.getD n.toNat default)
  | false=>(go xs).map (aD.mk o n s)
where go:List aD->Option (List aD)
 | []=>some []
 | x::xs=>match lT op l x with
  | none=>none
  | some y=>(go xs).map (y::·)
theorem Tb(op:Int)(l:List aD):∀ xs,lT.go op l xs=xs.mapM (lT op l)
 | []=>rfl
 | x::xs=>by simp only[lT.go,sD,Tb op l xs];cases lT op l x <;> simp <;> cases List.mapM (lT op l) xs <;> rfl
theorem tK(op:Int)(l:List aD)(e:aD):lT op l e=match e.Op==op with
  | true=>match decide (e.N<0) || decide (e.N>=(l.length:Int)) with
   | true=>none
   | false=>some (l.getD e.N.toNat default)
  | false=>(e.Args.mapM (lT op l)).map (aD.mk e.Op e.N e.S):=by
 cases e with | mk a b s xs=>simp only[lT,aD.Op,aD.N,aD.S,aD.Args,Tb]; rfl
theorem Iw{op:Int}{l:List aD}(hl:∀ x,x∈l->cC x){e:aD}(h:cC e):∀ r,lT op l e=some r->cC r:=by
 refine cC.ind (M:=fun e=>∀ r,lT op l e=some r->cC r) (fun e he ih r hr=>?_) h;rw[tK]at hr;split at hr
 ·split at hr
  ·cases hr
  ·rename_i h2;cases hr;simp only[Bool.or_eq_false_iff,decide_eq_false_iff_not]at h2;exact hl _ (aR (by omega))
 ·simp only[gB]at hr;obtain⟨ys,hys,rfl⟩:=hr;obtain⟨h1,h2⟩:=tV hys;refine .of he.get.1 (by show ys.length<=_; rw[h1]; exact he.get.2.1) (fun y hy=>?_);obtain⟨x,hx,hxy⟩:=h2 y hy;exact(ih x hx).2 y hxy
def ofM(x:Option aD):aD×Bool:=match x with | some e=>(e,true) | none=>(.zero,false)
theorem aPM(b:Bool)(e:aD)(op:Int)(l:List aD)(h:cC e)(hl:∀ x,x∈l->cC x):Sq b (aLA e op l) (fun y=>y=ofM (lT op l e)):=by
 unfold aLA aVE;refine fV _ _ _ (fun a=>cC a.1/\∀ x,x∈a.2.2->cC x) (fun a=>SizeOf.sizeOf a.1) (fun a y=>y=ofM (lT a.2.1 a.2.2 a.1)) (fun b f a ha hrec=>?_) b (e,op,l) ⟨h,hl⟩;clear h hl e op l;obtain⟨e,op,l⟩:=a;obtain⟨he,hl⟩:=ha;simp only at he hl hrec;obtain⟨hs,hlen,hA⟩:=he.get;have hr:∀ i,i<e.Args.length->Sq b (f.1 (e.Args.getD i default,op,l)) (fun y=>y=ofM (lT op l (e.Args.getD i default))):=fun i hi=>hrec (_,op,l) ⟨hA i hi,hl⟩ (dQ (aR hi));unfold aJP;simp only[Tr.den];rw[tK];cases ho:(e.Op==op) with
 | true=>
  simp only[bS];by_cases h1:e.N<0
  ·simp only[h1,decide_true,bS,aK,Bool.true_or];exact aC.2 rfl
  ·by_cases h2:e.N>=(l.length:Int)
   ·simp only[h1,h2,decide_false,decide_true,cO,bY,bS,aK,Bool.or_true];exact aC.2 rfl
   ·simp only[h1,h2,decide_false,Bool.or_false,cO,bY,aK];rw[aA (by constructor <;> omega)];exact Sq.bind _ (aNH b _ (hl _ (aR (by omega)))) fun r hr=>aC.2 (by rw[hr]; rfl)
 | false=>
  simp only[cO,bY];refine Sq.bind _ (aKK e.Args (lT op l) (aD.zero,false) (by omega) (fun acc k hk hal=>?_) (fun acc hal=>?_)) fun z hz=>?_
  ·unfold Hd;simp only[Tr.den,aJ];rw[aA (bU (by omega)),aA (by omega)];refine Sq.bind _ (hr k hk) fun r hr=>?_;subst hr;cases lT op l (e.Args.getD k default) with
   | none=>exact aC.2 rfl
   | some y=>simp only[ofM,jF,cO,bY];rw[aA (by simp only[nZ]; omega)];exact aC.2 rfl
  ·unfold Hd;simp only[Tr.den];rw[aF (bP (by omega))];exact aC.2 rfl
  ·subst hz;cases e.Args.mapM (lT op l) with
   | none=>exact aC.2 rfl
   | some ys=>exact aC.2 rfl
end
section
theorem aNL(e:aD):aMH e=G80 e:=by
 unfold aMH aXJ G80 H80;refine tC _ _ _ _ _ _ (fun f g hfg a=>?_) _;have:∀ s,(Fc f a s).den=(nH g a s).den:=fun s=>by obtain⟨v1,v2⟩:=s;unfold Fc nH;simp only[Tr.den,hfg]
 unfold aJT T80;simp only[Tr.den,this]
noncomputable def jL (e:aD):Int:=(G80 e).getD 0
theorem aUS(b:Bool){e:aD}(h:cC e):Sq b (G80 e) (fun y=>y=jL e):=by obtain⟨y,hy,_⟩:=(aJV e h).get;unfold jL;rw[hy]; exact aC.2 rfl
end
section
def eqR(t:Bool):Unit⊕Bool:=match t with | true=>.inl () | false=>.inr false
theorem Hv{A B:Type}[Inhabited A][Inhabited B]{b:Bool}{l:List A}{r:List B}{bd:Int->Option (Int⊕(Unit⊕Bool))}(p:A->B->Bool)(hN:l.length<=1000000000000)(hl:l.length=r.length)
  (h:∀ k:Nat,k<l.length->Sq b (bd (k:Int)) (fun z=>z=match p (l.getD k default) (r.getD k default) with | true=>.inl (IntKind.i64.wrap ((k:Int)+1)) | false=>.inr (.inr false)))
  (hf:Sq b (bd (l.length:Int)) (fun z=>z = .inr (.inl ()))):Sq b (bZ bd 0) (fun z=>z=eqR (Fa p l r)):=by
 refine dM (fun s:Int=>s) l.length (by omega) (fun s=>∀ i:Nat,(i:Int)<s->p (l.getD i default) (r.getD i default)=true) (fun s k hI hk hkN=>?_) (fun i hi=>by omega) rfl;subst hk;by_cases hc:k<l.length
 ·refine(h k hc).imp fun z hz=>?_;subst hz;cases hx:p (l.getD k default) (r.getD k default) with
  | false=>
   simp only[sel];have:Fa p l r=false:=by
    cases ha:Fa p l r with
    | false=>rfl
    | true=>have:=(wK.1 ha).2 k hc;rw[hx]at this; cases this
   rw[this]; rfl
  | true=>
   simp only[sel];refine⟨trivial,hc,fun i hi=>?_⟩;rw[bM (by omega)]at hi;by_cases hik:i=k
   ·subst hik; exact hx
   ·exact hI i (by omega)
 ·have:k=l.length:=by omega
  subst this;refine hf.imp fun z hz=>?_;subst hz;simp only[sel];rw[wK.2 ⟨hl,fun i hi=>hI i (by omega)⟩]; rfl
theorem Xa{A B:Type}[Inhabited A][Inhabited B]{b:Bool}{l:List A}{r:List B}{bd:Int->Option (Int⊕(Unit⊕Bool))}(p:A->B->Bool)(hN:l.length<=1000000000000)
  (h:l.length=r.length->∀ k:Nat,k<l.length->Sq b (bd (k:Int)) (fun z=>z=match p (l.getD k default) (r.getD k default) with | true=>.inl (IntKind.i64.wrap ((k:Int)+1)) | false=>.inr (.inr false)))
  (hf:Sq b (bd (l.length:Int)) (fun z=>z = .inr (.inl ()))):
  Sq b (if ((l.length:Int) != (r.length:Int))=true then some false else (bZ bd 0).bind (sel (fun _=>some true) some)) (fun z=>z=Fa p l r):=by
 by_cases hl:l.length=r.length
 ·rw[aF (by simp[hl])];refine Sq.bind _ (Hv p hN hl (h hl) hf) fun z hz=>?_;subst hz;cases Fa p l r <;> exact aC.2 rfl
 ·rw[aA (by simp; omega)];refine aC.2 ?_;unfold Fa;simp[hl]
theorem xY{a b:ByteArray}:(a.toList==b.toList)=true↔a=b:=by
 constructor
 ·intro h;exact aUW (bAH h)
 ·rintro rfl; simp
end
set_option linter.unusedVariables false
open Classical in
noncomputable def eqD {A:Type}(x y:A):Bool:=decide (x=y)
theorem eS{A:Type}{x y:A}:eqD x y=true↔x=y:=by simp[eqD]
theorem pZ{A:Type}(x:A):eqD x x=true:=eS.2 rfl
theorem Jf{A:Type}[Inhabited A](l r:List A):Fa eqD l r=eqD l r:=by
 rw[kU,wK,eS];constructor
 ·rintro⟨h1,h2⟩; exact Hx h1 fun k hk=>eS.1 (h2 k hk)
 ·rintro rfl; exact⟨rfl,fun i _=>pZ _⟩
theorem qF(a b:ByteArray):(a.toList==b.toList)=eqD a b:=by rw[kU,xY,eS]
theorem jK(a b:Int):(a==b)=eqD a b:=by rw[kU,pY,eS]
theorem Ar{A:Type}{l r:List A}(h:¬ l.length=r.length):eqD l r=false:=by
 cases hx:eqD l r with
 | false=>rfl
 | true=>exact absurd (congrArg List.length (eS.1 hx)) h
theorem aWT{A:Type}[Inhabited A]{b:Bool}{l r:List A}{bd:Int->Option (Int⊕(Unit⊕Bool))}(hN:l.length<=1000000000000)(hl:l.length=r.length)
  (h:∀ k:Nat,k<l.length->Sq b (bd (k:Int)) (fun z=>z=match eqD (l.getD k default) (r.getD k default) with | true=>.inl (IntKind.i64.wrap ((k:Int)+1)) | false=>.inr (.inr false)))
  (hf:Sq b (bd (l.length:Int)) (fun z=>z = .inr (.inl ()))):Sq b (bZ bd 0) (fun z=>z=eqR (eqD l r)):=by
 have:=Hv eqD hN hl h hf
 rwa [Jf]at this
theorem pH{A:Type}[Inhabited A]{b:Bool}{l r:List A}{bd:Int->Option (Int⊕(Unit⊕Bool))}(hN:l.length<=1000000000000)
  (h:l.length=r.length->∀ k:Nat,k<l.length->Sq b (bd (k:Int)) (fun z=>z=match eqD (l.getD k default) (r.getD k default) with | true=>.inl (IntKind.i64.wrap ((k:Int)+1)) | false=>.inr (.inr false)))
  (hf:Sq b (bd (l.length:Int)) (fun z=>z = .inr (.inl ()))):
  Sq b (if ((l.length:Int) != (r.length:Int))=true then some false else (bZ bd 0).bind (sel (fun _=>some true) some)) (fun z=>z=eqD l r):=by
 have:=Xa eqD hN h hf
 rwa [Jf]at this
theorem Gv{A:Type}{b:Bool}{x:Option Bool}{u v:A}{k:Int}(h:Sq b x (fun z=>z=eqD u v)):
  Sq b (x.bind fun r=>if (!r)=true then some (.inr (.inr false)) else some (.inl k):Option (Int⊕(Unit⊕Bool))) (fun z=>z=match eqD u v with | true=>.inl k | false=>.inr (.inr false)):=by
 refine Sq.bind _ h fun z hz=>?_;subst hz;cases eqD u v <;> exact aC.2 rfl
theorem Px{A:Type}{b:Bool}{u v:A}{k:Int}(h:c=eqD u v):
  Sq b (if (!c)=true then some (.inr (.inr false)) else some (.inl k):Option (Int⊕(Unit⊕Bool))) (fun z=>z=match eqD u v with | true=>.inl k | false=>.inr (.inr false)):=by
 subst h;cases eqD u v <;> exact aC.2 rfl
theorem aIK{b:Bool}{u v k:Int}:
  Sq b (if (u != v)=true then some (.inr (.inr false)) else some (.inl k):Option (Int⊕(Unit⊕Bool))) (fun z=>z=match eqD u v with | true=>.inl k | false=>.inr (.inr false)):=by
 have e:(u != v) = !(eqD u v):=by rw[<-jK]; rfl
 rw[e];cases eqD u v <;> exact aC.2 rfl
theorem Rq(a b:cD):((a.Kind==b.Kind)&&((a.Col==b.Col)&&((a.Name.toList==b.Name.toList)&&true)))=eqD a b:=by rw[jK,jK,qF,kU,eS];simp only[cM,eS,and_true];cases a; cases b;simp
theorem Ue(a b:aS):((a.Name.toList==b.Name.toList)&&((a.Type_==b.Type_)&&((a.Unit.toList==b.Unit.toList)&&true)))=eqD a b:=by rw[jK,qF,qF,kU,eS];simp only[cM,eS,and_true];cases a; cases b;simp
theorem aKT(b:Bool)(l r:List Int)(hN:l.length<=1000000000000):Sq b (aLS l r) (fun z=>z=eqD l r):=by
 unfold aLS aQQ;simp only[Tr.den];refine pH hN (fun hl k hk=>?_) ?_
 ·unfold Fd;simp only[Tr.den,aJ];rw[aA (bU (by omega)),aA (by omega),aA (by omega)];exact aIK
 ·unfold Fd;simp only[Tr.den];rw[aF (bP (by omega))];exact aC.2 rfl
theorem aJZ(b:Bool)(l r:List cD)(hN:l.length<=1000000000000):Sq b (aPC l r) (fun z=>z=eqD l r):=by
 unfold aPC aRF;simp only[Tr.den];refine pH hN (fun hl k hk=>?_) ?_
 ·unfold He;simp only[Tr.den,aJ];rw[aA (bU (by omega)),aA (by omega),aA (by omega)];exact Px (Rq _ _)
 ·unfold He;simp only[Tr.den];rw[aF (bP (by omega))];exact aC.2 rfl
theorem uR{d:Bool}:(if c=true then some d else some false)=some (c&&d):=by cases c <;> rfl
theorem Fk{d:Bool}:(if c=true then some true else some d)=some (c || d):=by cases c <;> rfl
theorem aNK(b:Bool)(l r:List Int)(hN:l.length<=1000000000000):Sq b (aHX l r) (fun z=>z=eqD l r):=by
 unfold aHX aYC;simp only[Tr.den];refine pH hN (fun hl k hk=>?_) ?_
 ·unfold Dz;simp only[Tr.den,aJ];rw[aA (bU (by omega)),aA (by omega),aA (by omega)];exact aIK
 ·unfold Dz;simp only[Tr.den];rw[aF (bP (by omega))];exact aC.2 rfl
theorem aOL(b:Bool)(l r:List aS)(hN:l.length<=1000000000000):Sq b (aLB l r) (fun z=>z=eqD l r):=by
 unfold aLB aXV;simp only[Tr.den];refine pH hN (fun hl k hk=>?_) ?_
 ·unfold Ej;simp only[Tr.den,aJ];rw[aA (bU (by omega)),aA (by omega),aA (by omega)];exact Px (Ue _ _)
 ·unfold Ej;simp only[Tr.den];rw[aF (bP (by omega))];exact aC.2 rfl
theorem aLJ(b:Bool)(l r:List aS)(hN:l.length<=1000000000000):Sq b (aKL l r) (fun z=>z=eqD l r):=by
 unfold aKL aYI;simp only[Tr.den];refine pH hN (fun hl k hk=>?_) ?_
 ·unfold Gu;simp only[Tr.den,aJ];rw[aA (bU (by omega)),aA (by omega),aA (by omega)];exact Px (Ue _ _)
 ·unfold Gu;simp only[Tr.den];rw[aF (bP (by omega))];exact aC.2 rfl
theorem Dh(b:Bool)(f:Og)(l r:List aD)(hN:l.length<=1000000000000)(h:∀ x,x∈l->∀ y,Sq b (f.1 (x,y)) (fun z=>z=eqD x y)):Sq b (Ei f l r) (fun z=>z=eqD l r):=by
 unfold Ei Pp;simp only[Tr.den];refine pH hN (fun hl k hk=>?_) ?_
 ·unfold vE;simp only[Tr.den,aJ];rw[aA (bU (by omega)),aA (by omega),aA (by omega)];exact Gv (h _ (aR hk) _)
 ·unfold vE;simp only[Tr.den];rw[aF (bP (by omega))];exact aC.2 rfl
theorem Id(e e':aD):eqD e e'=(e.Op==e'.Op&&(e.N==e'.N&&((e.S:ByteArray).toList==(e'.S:ByteArray).toList&&eqD e.Args e'.Args))):=by
 rw[jK,jK,qF,kU];simp only[cM,eS];constructor
 ·rintro rfl; exact⟨rfl,rfl,rfl,rfl⟩
 ·rintro⟨h1,h2,h3,h4⟩;rw[<-aD.eta e,<-aD.eta e',h1,h2,h3,h4]
theorem Rv(b:Bool)(a:aD×aD)(h:cC a.1):Sq b (aPY a) (fun y=>y=eqD a.1 a.2):=by
 unfold aPY;refine fV _ _ _ (fun a=>cC a.1) (fun a=>SizeOf.sizeOf a.1) (fun a y=>y=eqD a.1 a.2) (fun b f a ha hrec=>?_) b a h;obtain⟨e,e'⟩:=a;simp only at ha hrec;obtain⟨hs,hl,hA⟩:=ha.get;have hin:=(Dh b f e.Args e'.Args (by omega) fun x hx y=>hrec (x,y) (ha.mem hx) (dQ hx));unfold aJH;simp only[Tr.den];rw[Id];generalize (e.Op==e'.Op)=c1;generalize (e.N==e'.N)=c2;generalize ((e.S:ByteArray).toList==(e'.S:ByteArray).toList)=c3;refine Sq.bind (fun z=>z=(c1&&(c2&&(c3&&eqD e.Args e'.Args)))) ?_ fun z hz=>aC.2 hz;cases c1
 ·exact aC.2 rfl
 cases c2
 ·exact aC.2 rfl
 cases c3
 ·exact aC.2 rfl
 exact Sq.bind _ hin fun z hz=>aC.2 (by rw[hz]; rfl)
theorem aPK(b:Bool)(e e':aD)(h:cC e):Sq b (aQS e e') (fun y=>y=eqD e e'):=Rv b (e,e') h
theorem aNN(b:Bool)(e e':aD)(h:cC e):Sq b (aNA e e') (fun y=>y=eqD e e'):=by
 unfold aNA aYF;refine fV _ _ _ (fun a=>cC a.1) (fun a=>SizeOf.sizeOf a.1) (fun a y=>y=eqD a.1 a.2) (fun b f a ha hrec=>?_) b (e,e') h;clear h e e';obtain⟨e,e'⟩:=a;simp only at ha hrec;obtain⟨hs,hl,hA⟩:=ha.get;unfold aNC;simp only[Tr.den];rw[Id];have n1:(e.Op != e'.Op) = !(e.Op==e'.Op):=rfl;have n2:(e.N != e'.N) = !(e.N==e'.N):=rfl;rw[n1,n2];generalize (e.Op==e'.Op)=c1;generalize (e.N==e'.N)=c2;generalize ((e.S:ByteArray).toList==(e'.S:ByteArray).toList)=c3;refine Sq.bind (fun z=>z=(!c1 || (!c2 || (!c3 || ((e.Args.length:Int) != (e'.Args.length:Int)))))) ?_ fun z hz=>?_
 ·simp only[Fk]; exact aC.2 rfl
 subst hz;cases c1
 ·exact aC.2 rfl
 cases c2
 ·exact aC.2 rfl
 cases c3
 ·exact aC.2 rfl
 simp only[jF,Bool.false_or,Cr];refine pH (by omega) (fun hl k hk=>?_) ?_
 ·unfold Eg;simp only[Tr.den,aJ];rw[aA (bU (by omega)),aA (by omega),aA (by omega)];exact Gv (hrec (_,_) (ha.mem (aR hk)) (dQ (aR hk)))
 ·unfold Eg;simp only[Tr.den];rw[aF (bP (by omega))];exact aC.2 rfl
theorem Ev{l:List Int}(h:l.length<=1000000000000):aLS l r=some (eqD l r):=Sp.eq (aKT true l r h)
theorem aSV{l r:List aS}(h:l.length<=1000000000000):aKL l r=some (eqD l r):=Sp.eq (aLJ true l r h)
theorem nC{l:List Int}(h:l.length<=1000000000000):aHX l r=some (eqD l r):=Sp.eq (aNK true l r h)
theorem aID{l r:List cD}(h:l.length<=1000000000000):aPC l r=some (eqD l r):=Sp.eq (aJZ true l r h)
theorem aGS{l r:List aS}(h:l.length<=1000000000000):aLB l r=some (eqD l r):=Sp.eq (aOL true l r h)
theorem aCI{e e':aD}(h:cC e):aQS e e'=some (eqD e e'):=Sp.eq (aPK true e e' h)
theorem Ma{e e':aD}(h:cC e):aNA e e'=some (eqD e e'):=Sp.eq (aNN true e e' h)
theorem aIE{l r:List aD}(h:l.length<=1000000000000)(hl:∀ x,x∈l->cC x):Ei ⟨_,tW⟩ l r=some (eqD l r):=Sp.eq (Dh true ⟨_,tW⟩ l r h fun x hx y=>Rv true (x,y) (hl x hx))
structure BF (f:aU):Prop where
 b:cC f.Body
 p:f.Params.length<=1000000000
structure BN (n:aB):Prop where
 i:n.In.length<=1000000000
 e:n.Exprs.length<=1000000000
 eB:∀ x,x∈n.Exprs->cC x
 k:n.Key.length<=1000000000
 k2:n.Key2.length<=1000000000
 a:n.Aggs.length<=1000000000
 s:n.Seq.length<=1000000000
 sB:∀ x,x∈n.Seq->cC x.Pred
 c:n.Cols.length<=1000000000
structure BP (p:aE):Prop where
 f:p.Funcs.length<=1000000000
 fB:∀ x,x∈p.Funcs->BF x
 n:p.Nodes.length<=1000000000
 nB:∀ x,x∈p.Nodes->BN x
theorem aDI(f g:aU):eqD f g=(eqD f.Name g.Name&&(eqD f.Result g.Result&&(eqD f.Params g.Params&&eqD f.Body g.Body))):=by rw[kU];simp only[cM,eS];cases f; cases g;simp;grind
theorem Fu(f g:cB):eqD f g=(eqD f.Rep g.Rep&&eqD f.Pred g.Pred):=by rw[kU];simp only[cM,eS];cases f; cases g;simp;grind
theorem aTD{f g:cB}(h:cC f.Pred):aTA f g=some (eqD f g):=by unfold aTA aRV;simp only[Tr.den,aCI h,aK,uR,jK,Fu]
theorem aXE{f g:cB}(h:cC f.Pred):aUN f g=some (eqD f g):=by unfold aUN aWC;simp only[Tr.den,aCI h,aK,uR,jK,Fu]
theorem Wo(b:Bool)(l r:List cB)(hN:l.length<=1000000000000)(hl1:∀ x,x∈l->cC x.Pred):Sq b (Et l r) (fun z=>z=eqD l r):=by
 unfold Et Md;simp only[Tr.den];refine pH hN (fun hl k hk=>?_) ?_
 ·unfold vX;simp only[Tr.den,aJ];rw[aA (bU (by omega)),aA (by omega),aA (by omega)];exact Gv (.of_eq (aTD (hl1 _ (aR hk))) rfl)
 ·unfold vX;simp only[Tr.den];rw[aF (bP (by omega))];exact aC.2 rfl
theorem Xe(b:Bool)(l r:List cB)(hN:l.length<=1000000000000)(hl1:∀ x,x∈l->cC x.Pred):Sq b (Dv l r) (fun z=>z=eqD l r):=by
 unfold Dv Rb;simp only[Tr.den];refine pH hN (fun hl k hk=>?_) ?_
 ·unfold vZ;simp only[Tr.den,aJ];rw[aA (bU (by omega)),aA (by omega),aA (by omega)];exact Gv (.of_eq (aXE (hl1 _ (aR hk))) rfl)
 ·unfold vZ;simp only[Tr.den];rw[aF (bP (by omega))];exact aC.2 rfl
theorem aGJ{l r:List cB}(h:l.length<=1000000000000)(hB:∀ x,x∈l->cC x.Pred):Et l r=some (eqD l r):=Sp.eq (Wo true l r h hB)
theorem aDO{l r:List cB}(h:l.length<=1000000000000)(hB:∀ x,x∈l->cC x.Pred):Dv l r=some (eqD l r):=Sp.eq (Xe true l r h hB)
theorem Jm(a b:aB):eqD a b=(eqD [a.Op,a.Schema,a.Kind,a.Size,a.Step,a.Before,a.After,a.Keep] [b.Op,b.Schema,b.Kind,b.Size,b.Step,b.Before,b.After,b.Keep] &&
  ((eqD a.In b.In&&(eqD a.Key b.Key&&(eqD a.Key2 b.Key2&&(eqD a.Aggs b.Aggs&&eqD a.Cols b.Cols))))&&(eqD a.Seq b.Seq&&(eqD a.Source b.Source&&eqD a.Exprs b.Exprs)))):=by
 rw[kU];simp only[cM,eS];cases a; cases b;simp;grind
theorem aIU(a b:List Int):(a==b)=eqD a b:=by rw[kU,pY,eS]
theorem aEN{a b:aB}(h:BN a):aDW a b=some (eqD a b):=by
 have h1:=h.i; have h2:=h.k; have h3:=h.k2; have h4:=h.a; have h5:=h.c; have h6:=h.s; have h7:=h.e;unfold aDW aXK;simp only[Tr.den,nC (show a.In.length<=_ by omega),nC (show a.Key.length<=_ by omega),nC (show a.Key2.length<=_ by omega),aID (show a.Aggs.length<=_ by omega),aGS (show a.Cols.length<=_ by omega),
  aGJ (show a.Seq.length<=_ by omega) h.sB,aIE (show a.Exprs.length<=_ by omega) h.eB,aK,uR,qF,aIU,Jm]
theorem aGA{a b:aB}(h:BN a):aCT a b=some (eqD a b):=by
 have h1:=h.i; have h2:=h.k; have h3:=h.k2; have h4:=h.a; have h5:=h.c; have h6:=h.s; have h7:=h.e;unfold aCT aXU bAQ aRP bAA aUD;simp only[Tr.den,nC (show a.In.length<=_ by omega),nC (show a.Key.length<=_ by omega),nC (show a.Key2.length<=_ by omega),aID (show a.Aggs.length<=_ by omega),aGS (show a.Cols.length<=_ by omega),
  aDO (show a.Seq.length<=_ by omega) h.sB,aIE (show a.Exprs.length<=_ by omega) h.eB,aK,uR,qF,aIU,Jm]
 generalize eqD [a.Op,a.Schema,a.Kind,a.Size,a.Step,a.Before,a.After,a.Keep] _=c1;generalize (eqD a.In b.In&&_)=c2;generalize eqD a.Seq b.Seq=c3;generalize eqD a.Source b.Source=c4;generalize eqD a.Exprs b.Exprs=c5;cases c1 <;> cases c2 <;> cases c3 <;> cases c4 <;> cases c5 <;> rfl
theorem aCE(p q:aE):eqD p q=(eqD p.Funcs q.Funcs&&eqD p.Nodes q.Nodes):=by rw[kU];simp only[cM,eS];cases p; cases q;simp
theorem aAM(a b:aB):eqD a b=((eqD a.Op b.Op&&(eqD a.Source b.Source&&(eqD a.Schema b.Schema&&(eqD a.Kind b.Kind&&(eqD a.Size b.Size&&(eqD a.Step b.Step&&(eqD a.Before b.Before&&(eqD a.After b.After&&eqD a.Keep b.Keep)))))))) &&
  (eqD a.In b.In&&(eqD a.Key b.Key&&(eqD a.Key2 b.Key2&&(eqD a.Cols b.Cols&&(eqD a.Exprs b.Exprs&&(eqD a.Aggs b.Aggs&&eqD a.Seq b.Seq))))))):=by
 rw[kU];simp only[cM,eS];cases a; cases b;simp;grind
theorem lpL{A:Type}[Inhabited A]{l r:List A}{bd:Int->Option (Int⊕(Unit⊕Bool))}(hN:l.length<=1000000000000)(hl:l.length=r.length)
  (h:∀ k:Nat,k<l.length->bd (k:Int)=some (match eqD (l.getD k default) (r.getD k default) with | true=>.inl (IntKind.i64.wrap ((k:Int)+1)) | false=>.inr (.inr false)))
  (hf:bd (l.length:Int)=some (.inr (.inl ()))):bZ bd 0=some (eqR (eqD l r)):=
 Sp.eq (aWT (b:=true) hN hl (fun k hk=>.of_eq (h k hk) rfl) (.of_eq hf rfl))
theorem ltK{k n:Nat}(h:k<n):(decide ((k:Int)<(n:Int)))=true:=cX (by omega)
theorem aRE{a b:aB}(h:BN a):aQW a b=some (eqD a b):=by
 have h1:=h.i; have h2:=h.k; have h3:=h.k2; have h4:=h.a; have h5:=h.c; have h6:=h.s; have h7:=h.e;unfold aQW aVS;simp only[Tr.den,Ev (show a.In.length<=_ by omega),Ev (show a.Key.length<=_ by omega),Ev (show a.Key2.length<=_ by omega),aSV (show a.Cols.length<=_ by omega),aK,uR,Fk,qF,jK];rw[aAM];generalize (eqD a.Op b.Op&&_)=c1;generalize eqD a.In b.In=c2;generalize eqD a.Key b.Key=c3;generalize eqD a.Key2 b.Key2=c4;generalize eqD a.Cols b.Cols=c5;cases c1
 ·rfl
 cases c2
 ·rfl
 cases c3
 ·rfl
 cases c4
 ·rfl
 cases c5
 ·rfl
 simp only[jF,Bool.false_or,Cr];by_cases e1:a.Exprs.length=b.Exprs.length
 case neg=>rw[Ar e1,aA (by simp; omega)]; rfl
 by_cases e2:a.Aggs.length=b.Aggs.length
 case neg=>rw[Ar e2,aA (by simp; omega)]; simp
 by_cases e3:a.Seq.length=b.Seq.length
 case neg=>rw[Ar e3,aA (by simp; omega)]; simp
 rw[aF (by simp; omega)];rw[lpL (l:=a.Exprs) (r:=b.Exprs) (by omega) e1 (fun k hk=>by
   unfold Gc;simp only[Tr.den,aJ,ltK hk,bS];rw[aA (by omega),aA (by omega),Ma (h.eB _ (aR hk))];simp only[aK];cases eqD (a.Exprs.getD k default) (b.Exprs.getD k default) <;> rfl) (by
   unfold Gc;simp only[Tr.den];rw[aF (bP (by omega))])]
 rw[lpL (l:=a.Aggs) (r:=b.Aggs) (by omega) e2 (fun k hk=>by
   unfold El;simp only[Tr.den,aJ,ltK hk,bS];rw[aA (by omega),aA (by omega)];simp only[Rq];cases eqD (a.Aggs.getD k default) (b.Aggs.getD k default) <;> rfl) (by
   unfold El;simp only[Tr.den];rw[aF (bP (by omega))])]
 rw[lpL (l:=a.Seq) (r:=b.Seq) (by omega) e3 (fun k hk=>by
   unfold Gj;simp only[Tr.den,aJ,ltK hk,bS];rw[aA (by omega),aA (by omega),Ma (h.sB _ (aR hk)),Fu];have e:((a.Seq.getD k default).Rep != (b.Seq.getD k default).Rep) = !(eqD (a.Seq.getD k default).Rep (b.Seq.getD k default).Rep):=by rw[<-jK]; rfl
   have i1:0<=(k:Int)/\(k:Int)<(a.Seq.length:Int):=by omega
   have i2:0<=(k:Int)/\(k:Int)<(b.Seq.length:Int):=by omega
   simp only[e,aK,aA i1,aA i2];cases eqD (a.Seq.getD k default).Rep (b.Seq.getD k default).Rep <;> cases eqD (a.Seq.getD k default).Pred (b.Seq.getD k default).Pred <;> rfl) (by
   unfold Gj;simp only[Tr.den];rw[aF (bP (by omega))])]
 cases eqD a.Exprs b.Exprs <;> cases eqD a.Aggs b.Aggs <;> cases eqD a.Seq b.Seq <;> rfl
theorem aGD{p q:aE}(h:BP p):aQD p q=some (eqD p q):=by
 have h1:=h.f; have h2:=h.n;unfold aQD aTC;simp only[Tr.den,aK,Fk];rw[aCE];by_cases e1:p.Funcs.length=q.Funcs.length
 case neg=>rw[Ar e1,aA (by simp; omega)]; rfl
 by_cases e2:p.Nodes.length=q.Nodes.length
 case neg=>rw[Ar e2,aA (by simp; omega)]; simp
 rw[aF (by simp; omega)];rw[lpL (l:=p.Funcs) (r:=q.Funcs) (by omega) e1 (fun k hk=>by
   have hb:=h.fB _ (aR hk);have hp:=hb.p;unfold Dy;simp only[Tr.den,aJ,ltK hk,bS];rw[aA (by omega),aA (by omega)];have e:((p.Funcs.getD k default).Result != (q.Funcs.getD k default).Result) = !(eqD (p.Funcs.getD k default).Result (q.Funcs.getD k default).Result):=by rw[<-jK]; rfl
   simp only[Ev (show (p.Funcs.getD k default).Params.length<=_ by omega),Ma hb.b,aK,Fk,qF,e,aDI];cases eqD (p.Funcs.getD k default).Name (q.Funcs.getD k default).Name <;> cases eqD (p.Funcs.getD k default).Result (q.Funcs.getD k default).Result <;>
    cases eqD (p.Funcs.getD k default).Params (q.Funcs.getD k default).Params <;> cases eqD (p.Funcs.getD k default).Body (q.Funcs.getD k default).Body <;> rfl) (by
   unfold Dy;simp only[Tr.den];rw[aF (bP (by omega))])]
 rw[lpL (l:=p.Nodes) (r:=q.Nodes) (by omega) e2 (fun k hk=>by
   unfold Ha;simp only[Tr.den,aJ,ltK hk,bS];rw[aA (by omega),aA (by omega),aRE (h.nB _ (aR hk))];simp only[aK];cases eqD (p.Nodes.getD k default) (q.Nodes.getD k default) <;> rfl) (by
   unfold Ha;simp only[Tr.den];rw[aF (bP (by omega))])]
 cases eqD p.Funcs q.Funcs <;> cases eqD p.Nodes q.Nodes <;> rfl
theorem aNV(e:aD):aPA e=G80 e:=by
 unfold aPA aVL G80 H80;refine tC _ _ _ _ _ _ (fun f g hfg a=>?_) _;have:∀ s,(Eh f a s).den=(nH g a s).den:=fun s=>by obtain⟨v1,v2⟩:=s;unfold Eh nH;simp only[Tr.den,hfg]
 unfold aLC T80;simp only[Tr.den,this]
theorem aOY(e:aD):aMY e=G80 e:=by
 unfold aMY aXY G80 H80;refine tC _ _ _ _ _ _ (fun f g hfg a=>?_) _;have:∀ s,(Fb f a s).den=(nH g a s).den:=fun s=>by obtain⟨v1,v2⟩:=s;unfold Fb nH;simp only[Tr.den,hfg]
 unfold aKB T80;simp only[Tr.den,this]
theorem aIM{e:aD}(h:cC e):G80 e=some (jL e):=Sp.eq (aUS true h)
theorem aSC{e:aD}(h:cC e):aPA e=some (jL e):=(aNV e).trans (aIM h)
theorem aYG{e:aD}(h:cC e):aMY e=some (jL e):=(aOY e).trans (aIM h)
theorem aCO{e:aD}(h:cC e):aMH e=some (jL e):=(aNL e).trans (aIM h)
inductive wfE (nf nc:Nat):aD->Prop
 | mk {e:aD} (h1:e.Op=21->3<=e.Args.length) (h2:e.Op=22->0<=e.N/\e.N<(nf:Int)) (h3:e.Op=3->0<=e.N/\e.N<(nc:Int)/\e.S=⟨#[]⟩/\e.Args=[]) (hA:∀ x,x∈e.Args->wfE nf nc x):wfE nf nc e
theorem wfE.get{nf nc:Nat}{e:aD}(h:wfE nf nc e):(e.Op=21->3<=e.Args.length)/\(e.Op=22->0<=e.N/\e.N<(nf:Int))/\(e.Op=3->0<=e.N/\e.N<(nc:Int)/\e.S=⟨#[]⟩/\e.Args=[])/\∀ x,x∈e.Args->wfE nf nc x:=by cases h with | mk a b c d=>exact⟨a,b,c,d⟩
def FW(fs:List aU):Prop:=∀ i,i<fs.length->wfE i 0 (fs.getD i default).Body/\cC (fs.getD i default).Body
theorem Pb(a b:Int):aZT a b=some (if (1099511627776:Int)<IntKind.i64.wrap (a+b) then 1099511627776 else IntKind.i64.wrap (a+b)):=rfl
theorem Ug(bs:List Int)(nc:Nat)(e:aD)(h:cC e/\wfE bs.length nc e):Sp (aRA bs e) (fun _=>True):=by
 unfold aRA aUR;refine fV _ _ _ (fun a=>cC a.2/\wfE a.1.length nc a.2) (fun a=>SizeOf.sizeOf a.2) (fun _ _=>True) (fun b f a ha hrec=>?_) true (bs,e) h;clear h bs e;obtain⟨bs,e⟩:=a;obtain⟨he,hw⟩:=ha;simp only at he hw hrec;obtain⟨hs,hl,hA⟩:=he.get;obtain⟨w1,w2,w3,wA⟩:=hw.get;have hr:∀ i,i<e.Args.length->Sq b (f.1 (bs,e.Args.getD i default)) (fun _=>True):=fun i hi=>hrec (bs,_) ⟨hA i hi,wA _ (aR hi)⟩ (dQ (aR hi));unfold aMJ;simp only[Tr.den];refine Sq.bind (fun z=>∃ l:List Int,z = .inl l/\l.length=e.Args.length) ?_ fun z hz=>?_
 ·refine dM (fun s=>s.2) e.Args.length (by omega) (fun s=>s.1.length=s.2.toNat) (fun s k hI hk hkN=>?_) rfl rfl;obtain⟨acc,v⟩:=s;simp only at hk hI;subst hk;simp only[aJ]at hI;unfold Ui;simp only[Tr.den,aJ];by_cases hc:k<e.Args.length
  ·rw[aA (bU (by omega)),aA (by omega)];refine Sq.bind _ (hr k hc) fun r _=>?_;rw[aA (by simp only[nZ]; omega)];refine aC.2 ⟨rfl,hc,?_⟩;simp only[cY,nZ];rw[bM (by omega),aJ,hI]
  ·rw[aF (bP (by omega))];refine aC.2 ?_;simp only[sel];exact⟨acc,rfl,by omega⟩
 obtain⟨l,rfl,hlen⟩:=hz;simp only[sel];by_cases h21:e.Op=21
 ·have:=w1 h21;rw[aA (dB h21),aA (by omega),aA (by simp; omega),aA (by omega),aA (by simp; omega),aA (by omega),aA (by simp; omega)];simp only[Pb,aK];exact aC.2 trivial
 ·rw[aF (eC h21)];have key:∀ n0:Int,Sq b ((bZ (fun s=>(Ex l s).den) (n0,l,0)).bind (sel (fun b12=>some b12) some)) (fun _=>True):=by
   intro n0;refine Sq.bind (fun z=>True) ?_ fun z _=>by cases z <;> exact aC.2 trivial
   refine dM (fun s=>s.2.2) l.length (by omega) (fun s=>s.2.1=l) (fun s k hI hk hkN=>?_) rfl rfl;obtain⟨a,l',v⟩:=s;simp only at hk hI;subst hk hI;unfold Ex;simp only[Tr.den,aJ,Pb,aK];by_cases hc:k<l'.length
   ·rw[aA (bU (by omega)),aA (by omega),aA hc];exact aC.2 ⟨rfl,hc,rfl⟩
   ·rw[aF (bP (by omega))];exact aC.2 trivial
  by_cases h22:e.Op=22
  ·have:=w2 h22;rw[aA (dB h22),aA (by omega)];simp only[Pb,aK];exact key _
  ·rw[aF (eC h22)];simp only[aK];exact key _
theorem aKX(fs:List aU)(nc:Nat)(e:aD)(hf:fs.length<=1000000000)(hW:FW fs)(h:cC e)(hw:wfE fs.length nc e):Sp (Ii fs e) (fun _=>True):=by
 unfold Ii aVJ;simp only[Tr.den];refine Sq.bind (fun z=>∃ l:List Int,z = .inl l/\l.length=fs.length) ?_ fun z hz=>?_
 ·refine dM (fun s=>s.2) fs.length (by omega) (fun s=>s.1.length=s.2.toNat) (fun s k hI hk hkN=>?_) rfl rfl;obtain⟨acc,v⟩:=s;simp only at hk hI;subst hk;simp only[aJ]at hI;unfold Un;simp only[Tr.den,aJ];by_cases hc:k<fs.length
  ·rw[aA (bU (by omega)),aA (by omega)];refine Sq.bind _ (Ug acc 0 _ ⟨(hW k hc).2,by rw[hI]; exact(hW k hc).1⟩) fun r _=>?_;rw[aA (by simp only[nZ]; omega)];refine aC.2 ⟨rfl,hc,?_⟩;simp only[cY,nZ];rw[bM (by omega),aJ,hI]
  ·rw[aF (bP (by omega))];refine aC.2 ?_;simp only[sel];exact⟨acc,rfl,by omega⟩
 obtain⟨l,rfl,hlen⟩:=hz;simp only[sel];refine Sq.bind _ (Ug l nc e ⟨h,by rw[hlen]; exact hw⟩) fun r _=>aC.2 trivial
theorem Xq(m:List Bool)(nc:Nat)(e:aD)(t:Bool)(hw:wfE m.length nc e):Sq bb (Mw e m t) (fun _=>True):=by obtain⟨w1,w2,w3,wA⟩:=hw.get;unfold Mw Ky;simp only[Tr.den];refine Sq.bind (fun _=>True) ?_ fun _ _=>aC.2 trivial;refine bH (fun _=>aC.2 trivial) fun _=>bH (fun _=>aC.2 trivial) fun _=>bH (fun hc=>?_) fun _=>aC.2 trivial;have:=w2 (by simpa using hc);rw[aA (by omega),aA (by omega)];exact aC.2 trivial
theorem Wz(a:aD×List Bool×Bool)(nc:Nat)(h:cC a.1/\wfE a.2.1.length nc a.1):Sq bb (Gs a) (fun _=>True):=by
 unfold Gs;refine fV _ _ _ (fun a=>cC a.1/\wfE a.2.1.length nc a.1) (fun a=>SizeOf.sizeOf a.1) (fun _ _=>True) (fun b f a ha hrec=>?_) bb a h;obtain⟨e,m,t⟩:=a;obtain⟨he,hw⟩:=ha;simp only at he hw hrec;obtain⟨hs,hl,hA⟩:=he.get;obtain⟨w1,w2,w3,wA⟩:=hw.get;unfold Gw;simp only[Tr.den];refine Sq.bind _ (Xq m nc e t hw) fun r _=>?_;refine Sq.bind (fun z=>True) ?_ fun z _=>by cases z <;> exact aC.2 trivial
 refine dM (fun s=>s.2) e.Args.length (by omega) (fun s=>True) (fun s k hI hk hkN=>?_) trivial rfl;obtain⟨v1,v2⟩:=s;simp only at hk;subst hk;unfold Cb;simp only[Tr.den,aJ];by_cases hc:k<e.Args.length
 ·rw[aA (bU (by omega)),aA (by omega)];refine Sq.bind _ (hrec (_,m,v1) ⟨hA k hc,wA _ (aR hc)⟩ (dQ (aR hc))) fun r _=>aC.2 ⟨rfl,hc,trivial⟩
 ·rw[aF (bP (by omega))];exact aC.2 trivial
theorem Dq(m:List Bool)(nc:Nat)(e:aD)(h:cC e)(hw:wfE m.length nc e):Sp (Mv e m) (fun _=>True):=by unfold Mv Kx;simp only[Tr.den];exact Sq.bind _ (Wz (e,m,false) nc ⟨h,hw⟩) fun r _=>aC.2 trivial
theorem aPZ(fs:List aU)(nc:Nat)(e:aD)(hf:fs.length<=1000000000)(hW:FW fs)(h:cC e)(hw:wfE fs.length nc e):Sp (aCX fs e) (fun _=>True):=by
 unfold aCX aWL;simp only[Tr.den];refine Sq.bind (fun z=>∃ l:List Bool,z = .inl l/\l.length=fs.length) ?_ fun z hz=>?_
 ·refine dM (fun s=>s.2) fs.length (by omega) (fun s=>s.1.length=s.2.toNat) (fun s k hI hk hkN=>?_) rfl rfl;obtain⟨acc,v⟩:=s;simp only at hk hI;subst hk;simp only[aJ]at hI;unfold Va;simp only[Tr.den,aJ];by_cases hc:k<fs.length
  ·rw[aA (bU (by omega)),aA (by omega)];refine Sq.bind _ (Dq acc 0 _ (hW k hc).2 (by rw[hI]; exact(hW k hc).1)) fun r _=>?_;rw[aA (by omega)];refine aC.2 ⟨rfl,hc,?_⟩;simp only[cY,nZ];rw[bM (by omega),aJ,hI]
  ·rw[aF (bP (by omega))];refine aC.2 ?_;simp only[sel];exact⟨acc,rfl,by omega⟩
 obtain⟨l,rfl,hlen⟩:=hz;simp only[sel];exact Sq.bind _ (Dq l nc e h (by rw[hlen]; exact hw)) fun r _=>aC.2 trivial
def cR:aD->List Int
 | .mk o n _ xs=>(if o=3 then [n] else [])++go xs
where go:List aD->List Int
 | []=>[]
 | x::xs=>cR x++go xs
theorem Js:∀ xs,cR.go xs=xs.flatMap cR
 | []=>rfl
 | x::xs=>by simp only[cR.go,sN,Js xs]
theorem iV(e:aD):cR e=(if e.Op=3 then [e.N] else [])++e.Args.flatMap cR:=by cases e with | mk a b s l=>rw[cR,Js]; rfl
theorem kH{nf nc:Nat}{e:aD}(h:wfE nf nc e):∀ c,c∈cR e->0<=c/\c<(nc:Int):=by
 induction h with
 | @mk e h1 h2 h3 hA ih=>
  intro c hc;rw[iV,dZ]at hc;rcases hc with hc | hc
  ·split at hc
   ·rename_i h0;have:=h3 h0;rw[cE.1 hc];exact⟨this.1,this.2.1⟩
   ·cases hc
  ·obtain⟨x,hx,hc⟩:=Aq.1 hc;exact ih x hx c hc
structure rT (m:List (Int×Bool))(S:Int->Prop):Prop where
 nd:(dH m).Nodup
 mem:∀ c,c∈dH m↔S c
theorem Wt(m:List (Int×Bool))(n:Int):dH (lC m n)=(dH m).filter (fun c=>decide (c≠n)):=by unfold dH lC;rw[List.filter_map];rfl
theorem rT.put{m:List (Int×Bool)}{S:Int->Prop}(h:rT m S)(n:Int):rT (Lr m n true) (fun c=>S c\/c=n):=by
 have hp:(dH (Lr m n true)).Perm (n::dH (lC m n)):=by have h:=List.Perm.map (fun p:Int×Bool=>p.1) (Do m n true);exact h
 rw[Wt]at hp;refine⟨hp.nodup_iff.2 (wM.2 ⟨by simp,h.nd.filter _⟩),fun c=>?_⟩;rw[hp.mem_iff,aW,tD,h.mem];by_cases hc:c=n
 ·simp[hc]
 ·simp[hc]
theorem rT.imp{m:List (Int×Bool)}{S S':Int->Prop}(h:rT m S)(hs:∀ c,S c↔S' c):rT m S':=⟨h.nd,fun c=>(h.mem c).trans (hs c)⟩
theorem Bh{l:List aD}{k:Nat}(h:k<l.length)(c:Int):c∈(l.take (k+1)).flatMap cR↔c∈(l.take k).flatMap cR\/c∈cR (l.getD k default):=by rw[dT h,List.flatMap_append,dZ];simp
theorem Yw(a:aD×List (Int×Bool))(h:cC a.1):Sq bb (Fw a) (fun r=>∀ S,rT a.2 S->rT r (fun c=>S c\/c∈cR a.1)):=by
 unfold Fw;refine fV _ _ _ (fun a=>cC a.1) (fun a=>SizeOf.sizeOf a.1) (fun a r=>∀ S,rT a.2 S->rT r (fun c=>S c\/c∈cR a.1)) (fun b f a ha hrec=>?_) bb a h;obtain⟨e,m⟩:=a;simp only at ha hrec;obtain⟨hs,hl,hA⟩:=ha.get;unfold Ek;simp only[Tr.den];refine Sq.bind (fun r=>∀ S,rT m S->rT r (fun c=>S c\/c∈(if e.Op=3 then [e.N] else []))) ?_ fun r hr=>?_
 ·unfold aGR Ou;simp only[Tr.den];by_cases h3:e.Op=3
  ·rw[aA (dB h3)];refine aC.2 fun S h=>(h.put e.N).imp fun c=>?_;rw[aA h3,cE]
  ·rw[aF (eC h3)];refine aC.2 fun S h=>h.imp fun c=>?_;rw[aF h3]; simp
 refine Sq.bind (fun z=>∃ r2,z = .inl r2/\∀ S,rT m S->rT r2 (fun c=>S c\/c∈cR e)) ?_ fun z hz=>?_
 ·refine dM (fun s=>s.2) e.Args.length (by omega) (fun s=>∀ S,rT m S->rT s.1 (fun c=>(S c\/c∈(if e.Op=3 then [e.N] else []))\/c∈(e.Args.take s.2.toNat).flatMap cR)) (fun s k hI hk hkN=>?_) (fun S hS=>(hr S hS).imp fun c=>by simp) rfl;obtain⟨v1,v2⟩:=s;simp only at hk hI;subst hk;simp only[aJ]at hI;unfold Cp;simp only[Tr.den,aJ];by_cases hc:k<e.Args.length
  ·rw[aA (bU (by omega)),aA (by omega)];refine Sq.bind _ (hrec (_,v1) (hA k hc) (dQ (aR hc))) fun r3 hr3=>aC.2 ⟨rfl,hc,fun S hS=>?_⟩;simp only;rw[bM (by omega),aJ];refine(hr3 _ (hI S hS)).imp fun c=>?_;rw[Bh hc];grind
  ·rw[aF (bP (by omega))];refine aC.2 ?_;simp only[sel];refine⟨v1,rfl,fun S hS=>(hI S hS).imp fun c=>?_⟩;rw[fQ (by omega),iV,dZ];grind
 obtain⟨r2,rfl,h2⟩:=hz;exact aC.2 h2
theorem yQ:∀ (n:Nat) (l:List Nat),l.Nodup->(∀ x,x∈l->x<n)->l.length<=n
 | 0,l,_,h=>by
  cases l with
  | nil=>exact fJ _
  | cons x l=>exact absurd (h x dI) (jP _)
 | n+1,l,hn,h=>by
  by_cases hm:n∈l
  ·have h1:=yQ n (l.erase n) (hn.erase n) fun x hx=>by
    have h2:=h x (List.mem_of_mem_erase hx);have:x≠n:=fun e=>by rw[e]at hx; exact(hn.not_mem_erase) hx
    omega
   rw[List.length_erase_of_mem hm]at h1;omega
  ·have:=yQ n l hn fun x hx=>by have h2:=h x hx;have:x≠n:=fun e=>hm (e▸hx);omega
   omega
theorem aAL{n:Nat}{l:List Int}(hn:l.Nodup)(h:∀ x,x∈l->0<=x/\x<(n:Int)):l.length<=n:=by
 have:=yQ n (l.map Int.toNat) ?_ ?_
 ·simpa using this
 ·refine List.Pairwise.map _ (fun _ _ h=>h) (List.Pairwise.imp_of_mem (fun {a b} ha hb hab=>?_) hn);have:=h a ha; have:=h b hb;omega
 ·intro x hx;obtain⟨y,hy,rfl⟩:=dW.1 hx;have:=h y hy;omega
theorem yR(l:List Int):(kP l).Perm l:=List.mergeSort_perm _ _
theorem tF{nf nc:Nat}(e:aD)(h:cC e)(hw:wfE nf nc e)(hn:nc<=1000000000):Sp (aTB e) (fun r=>r.length<=nc/\∀ c,c∈r↔c∈cR e):=by
 unfold aTB aYH;simp only[Tr.den];refine Sq.bind _ (Yw (e,[]) h) fun r hr=>?_;have hS:=hr (fun _=>False) ⟨List.nodup_nil,fun c=>by simp[dH]⟩;simp only[false_or]at hS;have hc:=kH hw;have hlen:(dH r).length<=nc:=aAL hS.nd fun x hx=>hc x ((hS.mem x).1 hx);have hok:aCJ (dH r)=true:=by unfold aCJ;rw[cM,pI,dO];refine⟨by omega,fun k hk=>?_⟩;have:=hc k ((hS.mem k).1 hk);exact cX (by omega)
 simp only[aK];rw[aA hok];refine aC.2 ⟨?_,fun c=>?_⟩
 ·rw[(yR _).length_eq]; exact hlen
 ·rw[(yR _).mem_iff,hS.mem]
theorem aZC(l:List Int)(h:l.length<=100000000000):G36 l=some l:=by
 unfold G36;refine Det.eq ?_;unfold T36;simp only[Tr.wpT];refine⟨fun h0=>?_,?_⟩
 ·rw[aA trivial]; exact(mN h0).symm
 ·rw[aF (by simp)];refine⟨by simp only[oE]; omega,rfl⟩
theorem qZ(l:List Int)(h:l.length<=100000000000):Tm l=some l:=by
 unfold Tm;refine Det.eq ?_;unfold aIN;simp only[Tr.wpT];refine⟨fun h0=>?_,?_⟩
 ·rw[aA trivial]; exact(mN h0).symm
 ·rw[aF (by simp)];refine⟨by simp only[oE]; omega,rfl⟩
theorem aTU(l:List aU)(h:l.length<=100000000000):aBY l=some l:=by
 unfold aBY;refine Det.eq ?_;unfold aUJ;simp only[Tr.wpT];refine⟨fun h0=>?_,?_⟩
 ·rw[aA trivial]; exact(mN h0).symm
 ·rw[aF (by simp)];refine⟨by simp only[oE]; omega,rfl⟩
theorem aEJ(l:List aU)(h:l.length<=100000000000):Lq l=some l:=by
 unfold Lq;refine Det.eq ?_;unfold Ny;simp only[Tr.wpT];refine⟨fun h0=>?_,?_⟩
 ·rw[aA trivial]; exact(mN h0).symm
 ·rw[aF (by simp)];refine⟨by simp only[oE]; omega,rfl⟩
theorem aHR(l:List aB)(h:l.length<=100000000000):Qy l=some l:=by
 unfold Qy;refine Det.eq ?_;unfold Oq;simp only[Tr.wpT];refine⟨fun h0=>?_,?_⟩
 ·rw[aA trivial]; exact(mN h0).symm
 ·rw[aF (by simp)];refine⟨by simp only[oE]; omega,rfl⟩
theorem aDT(l:List cD)(h:l.length<=100000000000):Qn l=some l:=by
 unfold Qn;refine Det.eq ?_;unfold Qa;simp only[Tr.wpT];refine⟨fun h0=>?_,?_⟩
 ·rw[aA trivial]; exact(mN h0).symm
 ·rw[aF (by simp)];refine⟨by simp only[oE]; omega,rfl⟩
theorem aBW(l:List aS)(h:l.length<=100000000000):Ol l=some l:=by
 unfold Ol;refine Det.eq ?_;unfold Mb;simp only[Tr.wpT];refine⟨fun h0=>?_,?_⟩
 ·rw[aA trivial]; exact(mN h0).symm
 ·rw[aF (by simp)];refine⟨by simp only[oE]; omega,rfl⟩
theorem Ia(l:List aD)(h:l.length<=100000000000):Nl l=some l:=by
 unfold Nl;refine Det.eq ?_;unfold Nj;simp only[Tr.wpT];refine⟨fun h0=>?_,?_⟩
 ·rw[aA trivial]; exact(mN h0).symm
 ·rw[aF (by simp)];refine⟨by simp only[oE]; omega,rfl⟩
theorem aER(l:List cB)(h:l.length<=100000000000):Pg l=some l:=by
 unfold Pg;refine Det.eq ?_;unfold Pq;simp only[Tr.wpT];refine⟨fun h0=>?_,?_⟩
 ·rw[aA trivial]; exact(mN h0).symm
 ·rw[aF (by simp)];refine⟨by simp only[oE]; omega,rfl⟩
theorem Ic(n:Int)(h:0<=n)(h2:n<=100000000000):Rh n=some []:=by
 unfold Rh Lh;simp only[Tr.den];rw[aF (bP (by omega))];have e:IntKind.i64.wrap (n-0)=n:=by rw[cQ] <;> omega
 rw[e];by_cases hp:n>0
 ·rw[aA (bU hp)];rw[aA (show 0<=n/\n.toNat*40<=140737488355328 by omega)];simp;omega
 ·rw[aF (bP hp)];rfl
theorem aCS(n:Int)(h:0<=n)(h2:n<=100000000000):No n=some []:=by
 unfold No Lj;simp only[Tr.den];rw[aF (bP (by omega))];have e:IntKind.i64.wrap (n-0)=n:=by rw[cQ] <;> omega
 rw[e];by_cases hp:n>0
 ·rw[aA (bU hp)];rw[aA (show 0<=n/\n.toNat*8<=140737488355328 by omega)];simp;omega
 ·rw[aF (bP hp)];rfl
theorem Iy(n:Int)(h:0<=n)(h2:n<=100000000000):Qh n=some []:=by
 unfold Qh Ln;simp only[Tr.den];rw[aF (bP (by omega))];have e:IntKind.i64.wrap (n-0)=n:=by rw[cQ] <;> omega
 rw[e];by_cases hp:n>0
 ·rw[aA (bU hp)];rw[aA (show 0<=n/\n.toNat*248<=140737488355328 by omega)];simp;omega
 ·rw[aF (bP hp)];rfl
theorem nW{A:Type}[Inhabited A]{b:Bool}(ls:List (List A))(M:Nat)(hM:M<=10000000000)(hl:ls.length<=1000)(hs:∀ x,x∈ls->x.length<=M):
  (ls.flatMap id).length<=ls.length*M/\∀ k,k<=ls.length->((ls.take k).flatMap id).length<=ls.length*M:=by
 have key:∀ (l:List (List A)),(∀ x,x∈l->x.length<=M)->(l.flatMap id).length<=l.length*M:=by
  intro l
  induction l with
  | nil=>intro _; simp
  | cons x l ih=>intro h;have h1:=h x dI;have h2:=ih fun y hy=>h y (cU _ hy);rw[sN,cY,sH,Nat.succ_mul,show id x=x from rfl];omega
 refine⟨key ls hs,fun k hk=>?_⟩;have:=key (ls.take k) fun x hx=>hs x (Af hx);rw[dJ]at this;exact gY this (iL _ (Nat.min_le_right _ _))
theorem cK{A:Type}{ls:List (List A)}{k:Nat}(h:k<ls.length):(ls.take (k+1)).flatMap id=(ls.take k).flatMap id++ls.getD k default:=by rw[dT h,List.flatMap_append];simp
theorem aXW(ls:List (List aS))(hl:ls.length<=10)(hs:∀ x,x∈ls->x.length<=1000000000):aOA ls=some (ls.flatMap id):=by
 obtain⟨c1,c2⟩:=nW (b:=true) ls 1000000000 (by omega) (by omega) hs;unfold aOA aVH;simp only[Tr.den];refine Sp.eq ?_;refine Sq.bind (fun z=>z = .inl (((ls.flatMap id).length:Nat):Int)) ?_ fun z hz=>?_
 ·refine dM (fun s=>s.2) ls.length (by omega) (fun s=>s.1=((((ls.take s.2.toNat).flatMap id).length:Nat):Int)) (fun s k hI hk hkN=>?_) rfl rfl;obtain⟨v1,v2⟩:=s;simp only at hk hI;subst hk;simp only[aJ]at hI;subst hI;unfold Rt;simp only[Tr.den,aJ];by_cases hc:k<ls.length
  ·have h3:=c2 (k+1) (by omega);rw[cK hc,cY]at h3;have e:IntKind.i64.wrap (((((ls.take k).flatMap id).length:Nat):Int)+((ls.getD k default).length:Int))=((((ls.take (k+1)).flatMap id).length:Nat):Int):=by rw[cK hc,cY,cQ] <;> omega
   rw[aA (bU (by omega)),aA (by omega),aF (bP (by rw[e]; omega)),e];refine aC.2 ⟨rfl,hc,?_⟩;simp only;rw[bM (by omega),aJ]
  ·rw[aF (bP (by omega))];refine aC.2 ?_;simp only[sel];rw[fQ (by omega)]
 subst hz;simp only[sel];rw[Ic _ (by omega) (by omega)];simp only[aK];refine Sq.bind (fun z=>z = .inl (ls.flatMap id)) ?_ fun z hz=>by subst hz; exact aC.2 rfl
 refine dM (fun s=>s.2) ls.length (by omega) (fun s=>s.1=(ls.take s.2.toNat).flatMap id) (fun s k hI hk hkN=>?_) rfl rfl;obtain⟨v1,v2⟩:=s;simp only at hk hI;subst hk;simp only[aJ]at hI;subst hI;unfold Ur;simp only[Tr.den,aJ];by_cases hc:k<ls.length
 ·have h3:=c2 (k+1) (by omega);rw[cK hc,cY]at h3;rw[aA (bU (by omega)),aA (by omega),aA (by omega)];refine aC.2 ⟨rfl,hc,?_⟩;simp only;rw[bM (by omega),aJ,cK hc]
 ·rw[aF (bP (by omega))];refine aC.2 ?_;simp only[sel];rw[fQ (by omega)]
theorem aIZ(ls:List (List aS))(hl:ls.length<=10)(hs:∀ x,x∈ls->x.length<=1000000000):Fj ls=some (ls.flatMap id):=by
 obtain⟨c1,c2⟩:=nW (b:=true) ls 1000000000 (by omega) (by omega) hs;unfold Fj Pu;simp only[Tr.den];refine Sp.eq ?_;refine Sq.bind (fun z=>z = .inl (((ls.flatMap id).length:Nat):Int)) ?_ fun z hz=>?_
 ·refine dM (fun s=>s.2) ls.length (by omega) (fun s=>s.1=((((ls.take s.2.toNat).flatMap id).length:Nat):Int)) (fun s k hI hk hkN=>?_) rfl rfl;obtain⟨v1,v2⟩:=s;simp only at hk hI;subst hk;simp only[aJ]at hI;subst hI;unfold Di;simp only[Tr.den,aJ];by_cases hc:k<ls.length
  ·have h3:=c2 (k+1) (by omega);rw[cK hc,cY]at h3;have e:IntKind.i64.wrap (((((ls.take k).flatMap id).length:Nat):Int)+((ls.getD k default).length:Int))=((((ls.take (k+1)).flatMap id).length:Nat):Int):=by rw[cK hc,cY,cQ] <;> omega
   rw[aA (bU (by omega)),aA (by omega),aF (bP (by rw[e]; omega)),e];refine aC.2 ⟨rfl,hc,?_⟩;simp only;rw[bM (by omega),aJ]
  ·rw[aF (bP (by omega))];refine aC.2 ?_;simp only[sel];rw[fQ (by omega)]
 subst hz;simp only[sel];rw[Ic _ (by omega) (by omega)];simp only[aK];refine Sq.bind (fun z=>z = .inl (ls.flatMap id)) ?_ fun z hz=>by subst hz; exact aC.2 rfl
 refine dM (fun s=>s.2) ls.length (by omega) (fun s=>s.1=(ls.take s.2.toNat).flatMap id) (fun s k hI hk hkN=>?_) rfl rfl;obtain⟨v1,v2⟩:=s;simp only at hk hI;subst hk;simp only[aJ]at hI;subst hI;unfold Cy;simp only[Tr.den,aJ];by_cases hc:k<ls.length
 ·have h3:=c2 (k+1) (by omega);rw[cK hc,cY]at h3;rw[aA (bU (by omega)),aA (by omega),aA (by omega)];refine aC.2 ⟨rfl,hc,?_⟩;simp only;rw[bM (by omega),aJ,cK hc]
 ·rw[aF (bP (by omega))];refine aC.2 ?_;simp only[sel];rw[fQ (by omega)]
theorem aIX(ls:List (List aB))(hl:ls.length<=10)(hs:∀ x,x∈ls->x.length<=1000000000):Lx ls=some (ls.flatMap id):=by
 obtain⟨c1,c2⟩:=nW (b:=true) ls 1000000000 (by omega) (by omega) hs;unfold Lx Qp;simp only[Tr.den];refine Sp.eq ?_;refine Sq.bind (fun z=>z = .inl (((ls.flatMap id).length:Nat):Int)) ?_ fun z hz=>?_
 ·refine dM (fun s=>s.2) ls.length (by omega) (fun s=>s.1=((((ls.take s.2.toNat).flatMap id).length:Nat):Int)) (fun s k hI hk hkN=>?_) rfl rfl;obtain⟨v1,v2⟩:=s;simp only at hk hI;subst hk;simp only[aJ]at hI;subst hI;unfold Bz;simp only[Tr.den,aJ];by_cases hc:k<ls.length
  ·have h3:=c2 (k+1) (by omega);rw[cK hc,cY]at h3;have e:IntKind.i64.wrap (((((ls.take k).flatMap id).length:Nat):Int)+((ls.getD k default).length:Int))=((((ls.take (k+1)).flatMap id).length:Nat):Int):=by rw[cK hc,cY,cQ] <;> omega
   rw[aA (bU (by omega)),aA (by omega),aF (bP (by rw[e]; omega)),e];refine aC.2 ⟨rfl,hc,?_⟩;simp only;rw[bM (by omega),aJ]
  ·rw[aF (bP (by omega))];refine aC.2 ?_;simp only[sel];rw[fQ (by omega)]
 subst hz;simp only[sel];rw[Iy _ (by omega) (by omega)];simp only[aK];refine Sq.bind (fun z=>z = .inl (ls.flatMap id)) ?_ fun z hz=>by subst hz; exact aC.2 rfl
 refine dM (fun s=>s.2) ls.length (by omega) (fun s=>s.1=(ls.take s.2.toNat).flatMap id) (fun s k hI hk hkN=>?_) rfl rfl;obtain⟨v1,v2⟩:=s;simp only at hk hI;subst hk;simp only[aJ]at hI;subst hI;unfold Cc;simp only[Tr.den,aJ];by_cases hc:k<ls.length
 ·have h3:=c2 (k+1) (by omega);rw[cK hc,cY]at h3;rw[aA (bU (by omega)),aA (by omega),aA (by omega)];refine aC.2 ⟨rfl,hc,?_⟩;simp only;rw[bM (by omega),aJ,cK hc]
 ·rw[aF (bP (by omega))];refine aC.2 ?_;simp only[sel];rw[fQ (by omega)]
theorem aQX(ls:List (List aB))(hl:ls.length<=10)(hs:∀ x,x∈ls->x.length<=1000000000):aWG ls=some (ls.flatMap id):=by
 obtain⟨c1,c2⟩:=nW (b:=true) ls 1000000000 (by omega) (by omega) hs;unfold aWG aSH;simp only[Tr.den];refine Sp.eq ?_;refine Sq.bind (fun z=>z = .inl (((ls.flatMap id).length:Nat):Int)) ?_ fun z hz=>?_
 ·refine dM (fun s=>s.2) ls.length (by omega) (fun s=>s.1=((((ls.take s.2.toNat).flatMap id).length:Nat):Int)) (fun s k hI hk hkN=>?_) rfl rfl;obtain⟨v1,v2⟩:=s;simp only at hk hI;subst hk;simp only[aJ]at hI;subst hI;unfold Tw;simp only[Tr.den,aJ];by_cases hc:k<ls.length
  ·have h3:=c2 (k+1) (by omega);rw[cK hc,cY]at h3;have e:IntKind.i64.wrap (((((ls.take k).flatMap id).length:Nat):Int)+((ls.getD k default).length:Int))=((((ls.take (k+1)).flatMap id).length:Nat):Int):=by rw[cK hc,cY,cQ] <;> omega
   rw[aA (bU (by omega)),aA (by omega),aF (bP (by rw[e]; omega)),e];refine aC.2 ⟨rfl,hc,?_⟩;simp only;rw[bM (by omega),aJ]
  ·rw[aF (bP (by omega))];refine aC.2 ?_;simp only[sel];rw[fQ (by omega)]
 subst hz;simp only[sel];rw[Iy _ (by omega) (by omega)];simp only[aK];refine Sq.bind (fun z=>z = .inl (ls.flatMap id)) ?_ fun z hz=>by subst hz; exact aC.2 rfl
 refine dM (fun s=>s.2) ls.length (by omega) (fun s=>s.1=(ls.take s.2.toNat).flatMap id) (fun s k hI hk hkN=>?_) rfl rfl;obtain⟨v1,v2⟩:=s;simp only at hk hI;subst hk;simp only[aJ]at hI;subst hI;unfold Sj;simp only[Tr.den,aJ];by_cases hc:k<ls.length
 ·have h3:=c2 (k+1) (by omega);rw[cK hc,cY]at h3;rw[aA (bU (by omega)),aA (by omega),aA (by omega)];refine aC.2 ⟨rfl,hc,?_⟩;simp only;rw[bM (by omega),aJ,cK hc]
 ·rw[aF (bP (by omega))];refine aC.2 ?_;simp only[sel];rw[fQ (by omega)]
theorem aTS(ls:List (List Int))(hl:ls.length<=10)(hs:∀ x,x∈ls->x.length<=1000000000):aWP ls=some (ls.flatMap id):=by
 obtain⟨c1,c2⟩:=nW (b:=true) ls 1000000000 (by omega) (by omega) hs;unfold aWP aXZ;simp only[Tr.den];refine Sp.eq ?_;refine Sq.bind (fun z=>z = .inl (((ls.flatMap id).length:Nat):Int)) ?_ fun z hz=>?_
 ·refine dM (fun s=>s.2) ls.length (by omega) (fun s=>s.1=((((ls.take s.2.toNat).flatMap id).length:Nat):Int)) (fun s k hI hk hkN=>?_) rfl rfl;obtain⟨v1,v2⟩:=s;simp only at hk hI;subst hk;simp only[aJ]at hI;subst hI;unfold Ta;simp only[Tr.den,aJ];by_cases hc:k<ls.length
  ·have h3:=c2 (k+1) (by omega);rw[cK hc,cY]at h3;have e:IntKind.i64.wrap (((((ls.take k).flatMap id).length:Nat):Int)+((ls.getD k default).length:Int))=((((ls.take (k+1)).flatMap id).length:Nat):Int):=by rw[cK hc,cY,cQ] <;> omega
   rw[aA (bU (by omega)),aA (by omega),aF (bP (by rw[e]; omega)),e];refine aC.2 ⟨rfl,hc,?_⟩;simp only;rw[bM (by omega),aJ]
  ·rw[aF (bP (by omega))];refine aC.2 ?_;simp only[sel];rw[fQ (by omega)]
 subst hz;simp only[sel];rw[aCS _ (by omega) (by omega)];simp only[aK];refine Sq.bind (fun z=>z = .inl (ls.flatMap id)) ?_ fun z hz=>by subst hz; exact aC.2 rfl
 refine dM (fun s=>s.2) ls.length (by omega) (fun s=>s.1=(ls.take s.2.toNat).flatMap id) (fun s k hI hk hkN=>?_) rfl rfl;obtain⟨v1,v2⟩:=s;simp only at hk hI;subst hk;simp only[aJ]at hI;subst hI;unfold Rm;simp only[Tr.den,aJ];by_cases hc:k<ls.length
 ·have h3:=c2 (k+1) (by omega);rw[cK hc,cY]at h3;rw[aA (bU (by omega)),aA (by omega),aA (by omega)];refine aC.2 ⟨rfl,hc,?_⟩;simp only;rw[bM (by omega),aJ,cK hc]
 ·rw[aF (bP (by omega))];refine aC.2 ?_;simp only[sel];rw[fQ (by omega)]
theorem kO{A:Type}[Inhabited A]{l:List A}{k:Nat}(h:k<l.length):l.set k (l.getD k default)=l:=by rw[eR h,List.set_getElem_self]
theorem qD{A R:Type}{n:Nat}{st:Int->A}{bd:A->Option (A⊕R)}{r:R}(hn:n<=1000000000000)(h:∀ k:Nat,k<n->bd (st (k:Int))=some (.inl (st (IntKind.i64.wrap ((k:Int)+1)))))(hf:bd (st (n:Int))=some (.inr r)):bZ bd (st 0)=some r:=by refine mR (fun k=>st (k:Int)) n (fun k hk=>?_) hf;rw[h k hk,bM (by omega)]
theorem Rf{e:aD}(h:cC e):aVQ e=some e:=by
 refine Sp.eq ?_;unfold aVQ aWM;refine fV _ _ _ cC (fun e=>SizeOf.sizeOf e) (fun e y=>y=e) (fun b f e he hrec=>?_) true e h;obtain⟨hs,hl,hA⟩:=he.get;unfold aOM;simp only[Tr.den];rw[Ia _ (by omega)];simp only[aK];refine Sq.bind (fun z=>z = .inl e.Args) ?_ fun z hz=>by subst hz; exact aC.2 (aD.eta e)
 refine dM (fun s=>s.2) e.Args.length (by omega) (fun s=>s.1=e.Args) (fun s k hI hk hkN=>?_) rfl rfl;obtain⟨v1,v2⟩:=s;simp only at hk hI;subst hk hI;unfold Rl;simp only[Tr.den,aJ];by_cases hc:k<e.Args.length
 ·rw[aA (bU (by omega)),aA (by omega),aA hc];refine Sq.bind _ (hrec _ (hA k hc) (dQ (aR hc))) fun r hr=>?_;subst hr;rw[aA (by omega),aA hc,aA (by simp; exact hc),kO hc];exact aC.2 ⟨rfl,hc,rfl⟩
 ·rw[aF (bP (by omega))];exact aC.2 rfl
theorem aGT{l:List aU}(h:l.length<=1000000000)(hl:∀ x,x∈l->BF x):aXC l=some l:=by
 unfold aXC aSL;simp only[Tr.den];rw[aEJ _ (by omega)];simp only[aK];have hw:bZ (fun s=>(yH l s).den) (l,0)=some (.inl l):=by
  refine qD (n:=l.length) (st:=fun i=>(l,i)) (by omega) (fun k hk=>?_) ?_
  ·have hb:=hl _ (aR hk);unfold yH;simp only[Tr.den,aJ];rw[aA (bU (by omega)),aA (by omega),aZC _ (gY hb.p (by omega)),Rf hb.b];simp only[aK];have e1:aU.mk (l.getD k default).Name (l.getD k default).Params (l.getD k default).Result (l.getD k default).Body=l.getD k default:=by cases l.getD k default; rfl
   rw[aA (by omega),aA hk,aA (by omega),aA (by simp; exact hk)];simp only[e1,kO hk];rw[aA hk,aA (by simp; exact hk)]
  ·unfold yH;simp only[Tr.den];rw[aF (bP (by omega))]
 rw[hw];rfl
theorem aOU(x:cB):cB.mk x.Pred x.Rep=x:=by cases x; rfl
theorem Oy(h:BN n):
  bZ (fun s=>(xW n.Exprs s).den) (n.In,n.Key,n.Key2,n.Aggs,n.Seq,n.Cols,n.Exprs,0)=some (.inl (n.In,n.Exprs,n.Key,n.Key2,n.Aggs,n.Seq,n.Cols)) /\
  bZ (fun s=>(yO n.Seq s).den) (n.In,n.Exprs,n.Key,n.Key2,n.Aggs,n.Cols,n.Seq,0)=some (.inl (n.In,n.Exprs,n.Key,n.Key2,n.Aggs,n.Seq,n.Cols)):=by
 have h6:=h.s; have h7:=h.e;constructor
 ·refine qD (n:=n.Exprs.length) (st:=fun i=>(n.In,n.Key,n.Key2,n.Aggs,n.Seq,n.Cols,n.Exprs,i)) (by omega) (fun k hk=>?_) ?_
  ·unfold xW;simp only[Tr.den,aJ];rw[aA (bU (by omega)),aA (by omega),aA hk,Rf (h.eB _ (aR hk))];simp only[aK];rw[aA (by omega),aA hk,aA (by simp; exact hk),kO hk]
  ·unfold xW;simp only[Tr.den];rw[aF (bP (by omega))]
 ·refine qD (n:=n.Seq.length) (st:=fun i=>(n.In,n.Exprs,n.Key,n.Key2,n.Aggs,n.Cols,n.Seq,i)) (by omega) (fun k hk=>?_) ?_
  ·unfold yO;simp only[Tr.den,aJ];rw[aA (bU (by omega)),aA (by omega),aA hk,Rf (h.sB _ (aR hk))];simp only[aK];rw[aA (by omega),aA hk,aOU,aA (by simp; exact hk),kO hk]
  ·unfold yO;simp only[Tr.den];rw[aF (bP (by omega))]
theorem aGU(h:BN n):aLY n=some n:=by have h1:=h.i; have h2:=h.k; have h3:=h.k2; have h4:=h.a; have h5:=h.c; have h6:=h.s; have h7:=h.e;obtain⟨l1,l2⟩:=Oy h;unfold aLY aWD;simp only[Tr.den,qZ n.In (by omega),qZ n.Key (by omega),qZ n.Key2 (by omega),aDT n.Aggs (by omega),aBW n.Cols (by omega),Ia n.Exprs (by omega),aER n.Seq (by omega),aK,l1,l2,sel]
theorem Ho(h:BN n):Ov n=some n:=by rw[<-aGU h];unfold Ov aLY;rfl
section
variable {A B S R:Type} [Inhabited A]
theorem qQ(p:A->Bool)(l:List A){bd:Int->Option (Int⊕R)}{a:Int->R}{r:R}(hn:l.length<=1000000000000)
  (h:∀ k:Nat,k<l.length->bd (k:Int)=some (if p (l.getD k default)=true then .inl (IntKind.i64.wrap ((k:Int)+1)) else .inr (a k)))
  (hf:bd (l.length:Int)=some (.inr r)):(l.all p=true/\bZ bd 0=some r)\/(l.all p=false/\∃ k:Nat,k<l.length/\bZ bd 0=some (a k)):=by
 have key:∀ (s:List A) (k:Nat),k<=l.length->l.drop k=s->(s.all p=true/\bZ bd (k:Int)=some r)\/(s.all p=false/\∃ k':Nat,k' < l.length/\bZ bd (k:Int)=some (a k')):=by
  intro s
  induction s with
  | nil=>
   intro k hk hd;have:k=l.length:=by have:=congrArg List.length hd;simp at this;omega
   subst this;exact Or.inl ⟨rfl,kL hf⟩
  | cons x s ih=>
   intro k hk hd;have hlt:k<l.length:=by have:=congrArg List.length hd;simp at this;omega
   have hx:l.getD k default=x:=by rw[eR hlt];have:=yS hlt;rw[hd]at this;exact(List.cons.inj this).1.symm
   have ht:l.drop (k+1)=s:=by have:=yS hlt;rw[hd]at this;exact(List.cons.inj this).2.symm
   have hb:=h k hlt;rw[hx]at hb;by_cases hp:p x=true
   ·rw[aA hp,bM (by omega)]at hb;rw[qP hb];rcases ih (k+1) hlt ht with⟨h1,h2⟩ | ⟨h1,h2⟩
    ·exact Or.inl ⟨by simp[hp,h1],h2⟩
    ·exact Or.inr ⟨by simp[h1],h2⟩
   ·rw[aF hp]at hb;exact Or.inr ⟨by simp[hp],k,hlt,kL hb⟩
 exact key l 0 (Nat.zero_le _) rfl
theorem jV(p:A->Bool)(l:List A){bd:Int->Option (Int⊕R)}{a r:R}(hn:l.length<=1000000000000)
  (h:∀ k:Nat,k<l.length->bd (k:Int)=some (if p (l.getD k default)=true then .inl (IntKind.i64.wrap ((k:Int)+1)) else .inr a))
  (hf:bd (l.length:Int)=some (.inr r)):bZ bd 0=some (if l.all p=true then r else a):=by
 rcases qQ (a:=fun _=>a) p l hn h hf with⟨h1,h2⟩ | ⟨h1,k,_,h2⟩
 ·rw[h2,aA h1]
 ·rw[h2,aF (by simp[h1])]
theorem eO(f:A->B)(l:List A)(v0:List B){st:List B->Int->S}{bd:S->Option (S⊕R)}{r:List B->R}(hn:l.length<=1000000000000)
  (h:∀ v (k:Nat),k<l.length->v.length=v0.length+k->bd (st v k)=some (.inl (st (v++[f (l.getD k default)]) (IntKind.i64.wrap ((k:Int)+1)))))
  (hf:∀ v,bd (st v l.length)=some (.inr (r v))):bZ bd (st v0 0)=some (r (v0++l.map f)):=by
 have:=mR (fun k=>st (v0++(l.take k).map f) (k:Int)) l.length (bd:=bd) (r:=r (v0++l.map f)) (fun k hk=>?_) ?_
 ·simpa using this
 ·rw[h _ k hk (by simp; omega),bM (by omega)];simp only[dT hk,Cj,gT];rfl
 ·simp only[List.take_length];exact hf _
theorem oZ(f:A->A)(l:List A){st:List A->Int->S}{bd:S->Option (S⊕R)}{r:List A->R}(hn:l.length<=1000000000000)
  (h:∀ v (k:Nat),k<l.length->v.length=l.length->v.getD k default=l.getD k default->bd (st v k)=some (.inl (st (v.set k (f (l.getD k default))) (IntKind.i64.wrap ((k:Int)+1)))))
  (hf:∀ v,v.length=l.length->bd (st v l.length)=some (.inr (r v))):bZ bd (st l 0)=some (r (l.map f)):=by
 have:=mR (fun k=>st ((l.take k).map f++l.drop k) (k:Int)) l.length (bd:=bd) (r:=r (l.map f)) (fun k hk=>?_) ?_
 ·simpa using this
 ·have hm:min k l.length=k:=by omega
  rw[h _ k hk (by simp; omega) (by simp[eG,hm]),bM (by omega)];have:((l.take k).map f++l.drop k).set k (f (l.getD k default))=(l.take (k+1)).map f++l.drop (k+1):=by rw[dT hk,yS hk,List.set_append_right _ _ (by simp[hm])];rw[show k-((l.take k).map f).length=0 by simp[hm],List.set_cons_zero];simp
  rw[this]
 ·simp only[List.take_length,List.drop_length,jD];exact hf _ (by simp)
end
theorem cT{β:Type}{z:β}{f:Unit->β}:Ag z f (if c=true then some () else none)=if c=true then f () else z:=by cases c <;> rfl
theorem cV{R β:Type}{z:β}{f:R->β}:Ag z f none=z:=rfl
theorem cS{R β:Type}{z:β}{f:R->β}{r:R}:Ag z f (some r)=f r:=rfl
theorem dN{S Y β:Type}{f:S->β}{g:Y->β}{v:S}:sel f g (.inl v)=f v:=rfl
theorem fL{S Y β:Type}{f:S->β}{g:Y->β}{v:Y}:sel f g (.inr v)=g v:=rfl
noncomputable def Hi (fs:List aU)(e:aD):Int:=(Ii fs e).getD 0
noncomputable def okE (fs:List aU)(e:aD):Bool:=decide (jL e<=12)&&decide (Hi fs e<=10000)
noncomputable def zR (fs:List aU)(l:List aB):Bool:=l.all fun n=>n.Exprs.all (okE fs)
def shi(k d:Int)(i:Int):Int:=if k<=i then i+d else i
def shN(k d:Int)(n:aB):aB:=aB.mk n.Op (n.In.map (shi k d)) n.Source n.Schema n.Exprs n.Kind n.Size n.Step n.Key n.Key2 n.Before n.After n.Keep n.Aggs n.Seq n.Cols
def kB(ns:List aB)(k:Nat)(l:List aB):List aB:=ns.take k++l++(ns.drop (k+1)).map (shN k ((l.length:Int)-1))
def StB(fs:List aU)(l:List aB):Prop:=∀ n,n∈l->BN n/\∀ e,e∈n.Exprs->Ii fs e=some (Hi fs e)
def InB(ns:List aB):Prop:=∀ n,n∈ns->∀ j,j∈n.In->0<=j/\j<1000000000
theorem tT{A:Type}(l:List A)(k:Nat):(l.drop k).take (l.length-k)=l.drop k:=fQ (by simp)
theorem aIO{e:aD}(h:cC e)(hs:Ii fs e=some (Hi fs e)):Py e ⟨⟨fs,ns⟩⟩=some (!okE fs e):=by
 unfold Py Ki okE;simp only[Tr.den,aYG h,hs,aK];by_cases h1:jL e<=12
 ·rw[aF (bP (by omega))];by_cases h2:Hi fs e<=10000
  ·simp[h1,h2]
  ·simp[h1,h2]; omega
 ·rw[aA (bU (by omega))];simp[h1]
theorem aEY{l:List aD}(hn:l.length<=1000000000)(h:∀ e,e∈l->cC e/\Ii fs e=some (Hi fs e)):Qi l ⟨⟨fs,ns⟩⟩=some (!l.all (okE fs)):=by
 unfold Qi Ps aBR Ld;simp only[Tr.den];have hw:(l.all (okE fs)=true/\bZ (fun s=>(nU l ⟨⟨fs,ns⟩⟩ s).den) 0=some (.inl ()))\/(l.all (okE fs)=false/\∃ k:Nat,k<l.length/\bZ (fun s=>(nU l ⟨⟨fs,ns⟩⟩ s).den) 0=some (.inr (k:Int))):=by
  refine qQ (okE fs) l (a:=fun k=>Sum.inr k) (r:=Sum.inl ()) (by omega) (fun k hk=>?_) ?_
  ·unfold nU;have he:=h _ (aR hk);simp only[Tr.den,aJ];rw[aA (bU (by omega)),aA (by omega),aIO he.1 he.2];simp only[aK];cases okE fs (l.getD k default) <;> rfl
  ·unfold nU;simp only[Tr.den];rw[aF (bP (by omega))]
 rcases hw with⟨h1,h2⟩ | ⟨h1,k,hk,h2⟩
 ·rw[h2,h1]; rfl
 ·rw[h2,h1];simp only[aK,fL];rw[bU (by omega)]; rfl
theorem kD{j k:Nat}(h:k<(l.drop j).length):(l.drop j).getD k default∈l:=List.mem_of_mem_drop (aR h)
theorem wr1{k n:Nat}(h:n<=10):IntKind.i64.wrap ((n:Int)-1)=(n:Int)-1:=cQ (by omega) (by omega)
theorem If{p:aE}(hp:BP p)(hI:InB p.Nodes){k:Nat}(hk:k<p.Nodes.length){nd:aB}(hl:l.length<=5)(hS:StB p.Funcs l):
  yY l ⟨p,k,m,nd⟩=some (if zR p.Funcs l=true then some (kB p.Nodes k l) else none):=by
 have hn:=hp.n;unfold yY Nn;simp only[Tr.den];rw[jV (fun n=>n.Exprs.all (okE p.Funcs)) l (a:=.inr none) (r:=.inl ()) (by omega) (fun i hi=>?_) ?_]
 ·simp only[aK];by_cases ho:zR p.Funcs l=true
  ·have ho':(l.all fun n=>n.Exprs.all (okE p.Funcs))=true:=ho;rw[aA ho,aA ho'];simp only[dN];rw[show IntKind.i64.wrap ((k:Int)+1)=((k+1:Nat):Int) from bM (by omega)];rw[aA (by omega),aA (by omega),aIX _ (by simp) ?_]
   ·simp only[aK];rw[aA (by omega),aA (by omega)];have e2:((p.Nodes.length:Int)-IntKind.i64.wrap ((k:Int)+1)).toNat=p.Nodes.length-(k+1):=by rw[bM (by omega)]; omega
    have e1:((p.Nodes.drop (IntKind.i64.wrap ((k:Int)+1)).toNat).take (p.Nodes.length-(k+1)))=p.Nodes.drop (k+1):=by rw[bM (by omega),aJ];exact tT _ _
    rw[eO (st:=fun v i=>(v,i)) (shN k ((l.length:Int)-1)) (p.Nodes.drop (k+1)) _ (r:=fun v=>.inl v) (by simp; omega) (fun v i hi hv=>?_) fun v=>?_]
    ·simp only[aK,dN];rw[kB]
     congr 2
     simp only[sN,zQ,id,jD,sP,List.drop_zero,Int.sub_zero,aJ]
    ·have hb:=hp.nB _ (kD hi);have hin:=hI _ (kD hi);have hbi:=hb.i;unfold vF;simp only[Tr.den,e1,e2,aJ];rw[aA (bU (by simp at hi ⊢; omega)),aA (by omega),qZ _ (by omega)];simp only[aK];rw[oZ (st:=fun w j=>(w,v,j)) (shi k ((l.length:Int)-1)) ((p.Nodes.drop (k+1)).getD i default).In (r:=fun w=>.inl (w,v)) (by omega) (fun w j hj hw hg=>?_) fun w hw=>?_]
     ·simp only[aK,dN];rw[aA (by simp at hi hv ⊢; omega)];rfl
     ·unfold wC;have hji:=hin _ (aR hj);simp only[Tr.den,aJ,hg];rw[aA (bU (by omega)),aA (by omega),aA (by omega)];by_cases hge:(k:Int)<=((p.Nodes.drop (k+1)).getD i default).In.getD j default
      ·rw[aA (bU (by omega)),aA (by omega),aA (by omega),aA (by omega),aA (by omega),aA (by simp; omega),shi,aA hge,wr1 (k:=0) (by omega),cQ (n:=_+_) (by omega) (by omega)];rfl
      ·rw[aF (bP (by omega)),shi,aF hge,<-hg,kO (by omega)];rfl
     ·unfold wC;simp only[Tr.den,hw];rw[aF (bP (by omega))]
    ·unfold vF;simp only[Tr.den,e2];rw[aF (bP (by simp))]
   ·intro x hx;rcases aW.1 hx with rfl | hx
    ·simp; omega
    ·rcases cE.1 hx with rfl;omega
  ·have ho':¬ (l.all fun n=>n.Exprs.all (okE p.Funcs))=true:=ho;rw[aF ho,aF ho'];rfl
 ·unfold uT;simp only[Tr.den];rw[aF (bP (by omega))]
 ·unfold uT;simp only[Tr.den];obtain⟨hb,hst⟩:=hS _ (aR hi);have hbe:=hb.e;rw[aA (bU (by omega)),aA (by omega)];rw[jV (okE p.Funcs) (l.getD i default).Exprs (a:=.inr (.inr (.inr none))) (r:=.inl ()) (by omega) (fun j hj=>?_) ?_]
  ·cases (l.getD i default).Exprs.all (okE p.Funcs) <;> rfl
  ·unfold vM;simp only[Tr.den,aJ];rw[aF (bP (by omega))]
  ·have hx:=aR hj;unfold vM;simp only[Tr.den,aJ];rw[aA (bU (by omega)),aA (by omega),aSC (hb.eB _ hx)];simp only[aK];unfold okE;by_cases h1:jL ((l.getD i default).Exprs.getD j default)<=12
   ·rw[aA (bU h1),hst _ hx];simp only[aK,cT,h1,decide_true,Cr];by_cases h2:Hi p.Funcs ((l.getD i default).Exprs.getD j default)<=10000
    ·simp only[h2,decide_true,bS,aK,dN]
    ·simp only[h2,decide_false,cO,bY,aK,fL]
   ·rw[aF (bP h1)];simp only[h1,decide_false,Bool.false_and,cO,bY];rfl
theorem aDG{p:aE}(hp:BP p)(hI:InB p.Nodes){k:Nat}(hk:k<p.Nodes.length){nd:aB}(hl:l.length<=5)(hS:StB p.Funcs l):
  Gg l ⟨p,k,m,nd⟩=some (if zR p.Funcs l=true then some (kB p.Nodes k l) else none):=by
 rw[<-If hp hI hk hl hS (m:=m) (nd:=nd)];unfold Gg yY;rfl
theorem aSB{p:aE}(hp:BP p)(hI:InB p.Nodes){k:Nat}(hk:k<p.Nodes.length)(hl:l.length<=5)(hS:StB p.Funcs l):
  aMQ ⟨p⟩ k l=some (if 40<(p.Nodes.length:Int)+l.length-1 then (⟨[],[]⟩,6) else if zR p.Funcs l=true then (⟨p.Funcs,kB p.Nodes k l⟩,0) else (⟨[],[]⟩,6)):=by
 have hn:=hp.n;unfold aMQ aXX;simp only[Tr.den];rw[cQ (n:=(p.Nodes.length:Int)+l.length) (by omega) (by omega),cQ (n:=(p.Nodes.length:Int)+l.length-1) (by omega) (by omega)];by_cases h40:40<(p.Nodes.length:Int)+l.length-1
 ·rw[aA (bU (by omega)),aA h40]
 rw[aF (bP (by omega)),aF h40];have w0:bZ (fun s=>(yC ⟨p⟩ l s).den) 0=some (if (l.all fun n=>n.Exprs.all (okE p.Funcs))=true then .inl () else .inr (⟨[],[]⟩,6)):=by
  refine jV (fun n=>n.Exprs.all (okE p.Funcs)) l (by omega) (fun i hi=>?_) ?_
  ·obtain⟨hb,hst⟩:=hS _ (aR hi);unfold yC;simp only[Tr.den,aJ];rw[aA (bU (by omega)),aA (by omega),aEY hb.e (fun e he=>⟨hb.eB e he,hst e he⟩)];simp only[aK];cases (l.getD i default).Exprs.all (okE p.Funcs) <;> rfl
  ·unfold yC;simp only[Tr.den];rw[aF (bP (by omega))]
 rw[w0];simp only[aK];by_cases ho:zR p.Funcs l=true
 ·have ho':(l.all fun n=>n.Exprs.all (okE p.Funcs))=true:=ho;rw[aA ho,aA ho'];simp only[dN];rw[aGT hp.f hp.fB];simp only[aK];rw[aA (by omega),aQX _ (by simp) ?_]
  ·simp only[aK];have e0:(List.flatMap id [(p.Nodes.drop (0:Int).toNat).take ((k:Int)-0).toNat,l])=p.Nodes.take k++l:=by simp only[sN,zQ,id,jD,sP,List.drop_zero,Int.sub_zero,aJ]
   rw[e0];have hBl:∀ x,x∈p.Nodes.take k++l->BN x:=by
    intro x hx;rcases dZ.1 hx with hx | hx
    ·exact hp.nB _ (Af hx)
    ·exact(hS _ hx).1
   have w1:bZ (fun s=>(uJ (p.Nodes.take k++l) s).den) ([],0)=some (.inl (p.Nodes.take k++l)):=by
    have:=eO (st:=fun v i=>(v,i)) (bd:=fun s=>(uJ (p.Nodes.take k++l) s).den) (fun n=>n) (p.Nodes.take k++l) [] (r:=fun v=>.inl v) (by simp; omega) (fun v i hi hv=>?_) (fun v=>?_)
    ·simpa using this
    ·unfold uJ;simp only[Tr.den,aJ];rw[aA (bU (by omega)),aA (by omega),aGU (hBl _ (aR hi))];simp only[aK];rw[aA (by simp at hi hv; omega)]
    ·unfold uJ;simp only[Tr.den];rw[aF (bP (by omega))]
   rw[w1];simp only[aK,dN];have e2:((p.Nodes.length:Int)-IntKind.i64.wrap ((k:Int)+1)).toNat=p.Nodes.length-(k+1):=by rw[bM (by omega)]; omega
   have e1:((p.Nodes.drop (IntKind.i64.wrap ((k:Int)+1)).toNat).take (p.Nodes.length-(k+1)))=p.Nodes.drop (k+1):=by rw[bM (by omega),aJ];exact tT _ _
   have e3:IntKind.i64.wrap ((k:Int)+1)=((k+1:Nat):Int):=bM (by omega);rw[aA (by omega)];have w2:bZ (fun s=>(yK ⟨p⟩ k l p.Funcs s).den) (p.Nodes.take k++l,0)=some (.inl (kB p.Nodes k l)):=by
    rw[kB];refine eO (st:=fun v i=>(v,i)) (shN k ((l.length:Int)-1)) (p.Nodes.drop (k+1)) _ (r:=fun v=>Sum.inl v) (by simp; omega) (fun v i hi hv=>?_) fun v=>?_
    ·have hb:=hp.nB _ (kD hi);have hin:=hI _ (kD hi);have hbi:=hb.i;unfold yK;simp only[Tr.den,e1,e2,aJ];rw[aA (bU (by omega)),aA (by omega),Ho hb];simp only[aK];rw[oZ (st:=fun w j=>(v,w,j)) (shi k ((l.length:Int)-1)) ((p.Nodes.drop (k+1)).getD i default).In (r:=fun w=>.inl (v,w)) (by omega) (fun w j hj hw hg=>?_) fun w hw=>?_]
     ·simp only[aK,dN];rw[aA (by simp at hi hv ⊢; omega)];rfl
     ·unfold Fg;have hji:=hin _ (aR hj);simp only[Tr.den,aJ,hg];rw[aA (bU (by omega)),aA (by omega),aA (by omega)];by_cases hge:(k:Int)<=((p.Nodes.drop (k+1)).getD i default).In.getD j default
      ·rw[aA (bU (by omega)),aA (by omega),aA (by omega),aA (by simp; omega),shi,aA hge,cQ (n:=_+(l.length:Int)) (by omega) (by omega),cQ (n:=_-1) (by omega) (by omega),Int.add_sub_assoc];rfl
      ·rw[aF (bP (by omega)),shi,aF hge,<-hg,kO (by omega)];rfl
     ·unfold Fg;simp only[Tr.den,hw];rw[aF (bP (by omega))]
    ·unfold yK;simp only[Tr.den,e1,e2];rw[aF (bP (by omega))]
   rw[w2];rfl
  ·intro x hx;rcases aW.1 hx with rfl | hx
   ·simp; omega
   ·rcases cE.1 hx with rfl;omega
 ·have ho':¬ (l.all fun n=>n.Exprs.all (okE p.Funcs))=true:=ho;rw[aF ho,aF ho'];rfl
theorem aXM{p:aE}(hp:BP p):aSF ⟨p⟩=some p:=by
 have hn:=hp.n;unfold aSF aZN;simp only[Tr.den];rw[aGT hp.f hp.fB];simp only[aK];have w1:bZ (fun s=>(tU ⟨p⟩ s).den) ([],0)=some (.inl p.Nodes):=by
  have:=eO (st:=fun v i=>(v,i)) (bd:=fun s=>(tU ⟨p⟩ s).den) (fun n=>n) p.Nodes [] (r:=fun v=>.inl v) (by omega) (fun v i hi hv=>?_) (fun v=>?_)
  ·simpa using this
  ·unfold tU;simp only[Tr.den,aJ];rw[aA (bU (by omega)),aA (by omega),Ho (hp.nB _ (aR hi))];simp only[aK];rw[aA (by simp at hi hv ⊢; omega)]
  ·unfold tU;simp only[Tr.den];rw[aF (bP (by omega))]
 rw[w1];cases p; rfl
theorem aCF{p:aE}(hp:BP p):Nr ⟨p⟩=some p:=by rw[<-aXM hp];unfold Nr aSF;rfl
theorem lW{A:Type}[Inhabited A](p:A->Bool)(l:List A){bd:Int->Option (Int⊕(Unit⊕Int))}(hn:l.length<=1000000000000)
  (h:∀ k:Nat,k<l.length->bd (k:Int)=some (if p (l.getD k default)=true then .inl (IntKind.i64.wrap ((k:Int)+1)) else .inr (.inr (k:Int))))
  (hf:bd (l.length:Int)=some (.inr (.inl ()))):((bZ bd 0).bind (sel (fun _=>some (-1:Int)) some)).bind (fun r=>some (decide (r>=0)))=some (!l.all p):=by
 rcases qQ (a:=fun k=>Sum.inr k) (r:=Sum.inl ()) p l hn h hf with⟨h1,h2⟩ | ⟨h1,k,hk,h2⟩
 ·rw[h2,h1]; rfl
 ·rw[h2,h1];simp only[aK,fL];rw[bU (by omega)]; rfl
theorem As{l:List Int}(hn:l.length<=1000000000):aVM l a=some (decide (a∈l)):=by
 unfold aVM aXD bAZ aTP;simp only[Tr.den];rw[lW (fun x=>!(a==x)) l (by omega) (fun k hk=>?_) ?_]
 ·congr 1
  rw[kU];simp
 ·unfold Ec;simp only[Tr.den];rw[aF (bP (by omega))]
 ·unfold Ec;simp only[Tr.den,aJ];rw[aA (bU (by omega)),aA (by omega)];by_cases hx:(a==l.getD k default)=true
  ·rw[aA hx,aF (by rw[hx]; simp)]
  ·rw[aF hx,aA (by rw[Bool.eq_false_iff.2 hx]; rfl)]
theorem tZ{l:List Int}{p:Int->Bool}(h:∀ c,c∈l↔c∈r):l.all p=r.all p:=by rw[kU,dO,dO];exact⟨fun hh c hc=>hh c ((h c).2 hc),fun hh c hc=>hh c ((h c).1 hc)⟩
section
variable {nf nc:Nat} {e:aD} (h:cC e) (hw:wfE nf nc e) (hn:nc<=1000000000)
include h hw hn
theorem aCW(hk:n.Key.length<=1000000000):Pl e n=some (if ((cR e).all fun c=>decide (c∈n.Key))=true then some () else none):=by
 obtain⟨r,h1,h2,h3⟩:=(tF e h hw hn).get;unfold Pl Nz aBP Oe aCK Mq;simp only[Tr.den,h1,aK];rw[lW (fun c=>decide (c∈n.Key)) r (by omega) (fun k hk=>?_) ?_,tZ h3]
 ·simp only[aK,Bool.not_not,cT];cases (cR e).all fun c=>decide (c∈n.Key) <;> rfl
 ·unfold vK;simp only[Tr.den];rw[aF (bP (by omega))]
 ·unfold vK aBL Lw aFH Pr;simp only[Tr.den,aJ];rw[aA (bU (by omega)),aA (by omega),As (by assumption)];simp only[aK];cases decide (r.getD k default∈n.Key) <;> rfl
theorem aFD:Kk e n=some (if ((cR e).all fun c=>decide (c<(n.Key.length:Int)))=true then some () else none):=by
 obtain⟨r,h1,h2,h3⟩:=(tF e h hw hn).get;unfold Kk Rj aHQ Pv aCY Km;simp only[Tr.den,h1,aK];rw[lW (fun c=>decide (c<(n.Key.length:Int))) r (by omega) (fun k hk=>?_) ?_,tZ h3]
 ·simp only[aK,Bool.not_not,cT];cases (cR e).all fun c=>decide (c<(n.Key.length:Int)) <;> rfl
 ·unfold wS;simp only[Tr.den];rw[aF (bP (by omega))]
 ·unfold wS aHC Ls aBS Ll;simp only[Tr.den,aJ];rw[aA (bU (by omega)),aA (by omega)];simp only[aK];cases decide (r.getD k default<(n.Key.length:Int)) <;> rfl
theorem aIR{p:aE}{k:Int}{nd:aB}:Qz e ⟨p,k,m,nd⟩ a=some (if ((cR e).all fun c=>decide (c<a)==(m==0))=true then some () else none):=by
 obtain⟨r,h1,h2,h3⟩:=(tF e h hw hn).get;unfold Qz Nm aDA Lf aJA Nu;simp only[Tr.den,h1,aK];rw[lW (fun c=>decide (c<a)==(m==0)) r (by omega) (fun k hk=>?_) ?_,tZ h3]
 ·simp only[aK,Bool.not_not,cT];cases (cR e).all fun c=>decide (c<a)==(m==0) <;> rfl
 ·unfold vO;simp only[Tr.den];rw[aF (bP (by omega))]
 ·unfold vO aGF Ri aDD Nt;simp only[Tr.den,aJ];rw[aA (bU (by omega)),aA (by omega)];simp only[aK];cases (decide (r.getD k default<a)==(m==0)) <;> rfl
end
theorem aWX{e:aD}{l:List aD}(h:cC e)(hl:∀ x,x∈l->cC x):aLA e 3 l=some (ofM (lT 3 l e)):=Sp.eq (aPM true e 3 l h hl)
noncomputable def nX (e:aD)(l:List aD):Option aD:=(lT 3 l e).bind fun r=>if jL r<=12 then some r else none
theorem Em{e:aD}{l:List aD}(h:cC e)(hl:∀ x,x∈l->cC x):aHK e l=some (ofM (nX e l)):=by
 unfold aHK aSZ nX;simp only[Tr.den,aWX h hl,aK];cases hp:lT 3 l e with
 | none=>rfl
 | some r=>
  have hz:ofM (some r)=(r,true):=rfl;rw[hz];simp only[jF,cO,bY,aCO (Iw hl h r hp),aK];by_cases h1:jL r<=12
  ·rw[aF (bP (by omega)),aA h1]; rfl
  ·rw[aA (bU (by omega)),aF h1]; rfl
def kR:aD->Int
 | .mk _ _ _ xs=>IntKind.i64.wrap (go 0 xs+1)
where go (m:Int):List aD->Int
 | []=>m
 | x::xs=>go (if kR x>m then kR x else m) xs
theorem aKY(xs:List aD)(m:Int):kR.go m xs=xs.foldl (fun m x=>if kR x>m then kR x else m) m:=by
 induction xs generalizing m with
 | nil=>rfl
 | cons x xs ih=>rw[kR.go,ih]; rfl
theorem Ez(e:aD):kR e=IntKind.i64.wrap (e.Args.foldl (fun m x=>if kR x>m then kR x else m) 0+1):=by cases e with | mk a b s xs=>rw[kR,aKY]; rfl
theorem bAJ{e:aD}(h:cC e):G80 e=some (kR e):=by
 refine Sp.eq ?_;unfold G80 H80;refine fV _ _ _ cC (fun e=>SizeOf.sizeOf e) (fun e y=>y=kR e) (fun b f e he hrec=>?_) true e h;obtain⟨hs,hl,hA⟩:=he.get;unfold T80;simp only[Tr.den];refine Sq.bind (fun z=>z = .inl (e.Args.foldl (fun m x=>if kR x>m then kR x else m) 0)) ?_ fun z hz=>by subst hz; exact aC.2 (Ez e).symm
 refine dM (fun s=>s.2) e.Args.length (by omega) (fun s=>s.1=(e.Args.take s.2.toNat).foldl (fun m x=>if kR x>m then kR x else m) 0) (fun s k hI hk hkN=>?_) rfl rfl;obtain⟨v1,v2⟩:=s;simp only at hk hI;subst hk;simp only[aJ]at hI;unfold nH;simp only[Tr.den,aJ];by_cases hc:k<e.Args.length
 ·rw[aA (bU (by omega)),aA (by omega)];refine Sq.bind _ (hrec _ (hA k hc) (dQ (aR hc))) fun r hr=>?_;subst hr;refine aC.2 ⟨rfl,hc,?_⟩;simp only;rw[bM (by omega),aJ,dT hc,List.foldl_append,<-hI];rfl
 ·rw[aF (bP (by omega))];refine aC.2 ?_;simp only[sel];rw[hI,fQ (by omega)]
theorem aDR{e:aD}(h:cC e):jL e=kR e:=by rw[jL,bAJ h]; rfl
def fF(f:Int->Int):aD->aD
 | .mk o n s xs=>.mk o (if o=3 then f n else n) s (go xs)
where go:List aD->List aD
 | []=>[]
 | x::xs=>fF f x::go xs
theorem Uz(f:Int->Int):∀ xs,fF.go f xs=xs.map (fF f)
 | []=>rfl
 | x::xs=>by simp only[fF.go,kX,Uz f xs]
theorem pF(f:Int->Int)(e:aD):fF f e=aD.mk e.Op (if e.Op=3 then f e.N else e.N) e.S (e.Args.map (fF f)):=by cases e with | mk a b s xs=>rw[fF,Uz]; rfl
theorem zZ(f:Int->Int){e:aD}(h:cC e):cC (fF f e):=by
 induction h with
 | @mk e hs hl hA ih=>
  rw[pF];refine cC.mk (e:=aD.mk _ _ _ _) hs (by show (List.map _ _).length<=_; rw[hP]; exact hl) (fun i hi=>?_);have hi':i<e.Args.length:=by
   have:i<(e.Args.map (fF f)).length:=hi
   rwa [hP]at this
  have:=ih i hi';show cC ((e.Args.map (fF f)).getD i default);rw[eR (by simpa using hi'),List.getElem_map,<-eR hi'];exact this
theorem aGY(f:Int->Int){e:aD}(h:cC e):kR (fF f e)=kR e:=by
 induction h with
 | @mk e hs hl hA ih=>
  have hm:∀ x,x∈e.Args->kR (fF f x)=kR x:=by
   intro x hx;obtain⟨i,hi,rfl⟩:=Am hx;have:=ih i hi
   rwa [eR hi]at this
  rw[pF,Ez,Ez e];show IntKind.i64.wrap (List.foldl _ 0 (e.Args.map (fF f))+1)=_
  congr 2
  rw[List.foldl_map];generalize (0:Int)=m;have:∀ (l:List aD) (m:Int),(∀ x,x∈l->x∈e.Args)->l.foldl (fun m x=>if kR (fF f x)>m then kR (fF f x) else m) m=l.foldl (fun m x=>if kR x>m then kR x else m) m:=by
   intro l
   induction l with
   | nil=>intros; rfl
   | cons x l ihl=>intro m hx;simp only[Il,hm x (hx x dI)];exact ihl _ fun y hy=>hx y (cU _ hy)
  exact this _ _ fun x hx=>hx
theorem iS{A:Type}[Inhabited A]{l:List A}{x:A}(h:x∈l):∃ i,i<l.length/\l.getD i default=x:=by obtain⟨i,hi,rfl⟩:=Am h;exact⟨i,hi,eR hi⟩
theorem Gl{f:Int->Int}{nf nc nc':Nat}{e:aD}(h:wfE nf nc e)(hf:∀ c,c∈cR e->0<=f c/\f c<(nc':Int)):wfE nf nc' (fF f e):=by
 induction h with
 | @mk e h1 h2 h3 hA ih=>
  rw[pF];refine wfE.mk (e:=aD.mk _ _ _ _) (fun h=>?_) (fun h=>?_) (fun h=>?_) fun x hx=>?_
  ·show 3<=(List.map _ _).length;rw[hP]; exact h1 h
  ·have h':e.Op=22:=h;show 0<=(if e.Op=3 then f e.N else e.N)/\(if e.Op=3 then f e.N else e.N)<_;rw[aF (by omega)];exact h2 h'
  ·have h':e.Op=3:=h;obtain⟨_,_,a1,a2⟩:=h3 h';show 0<=(if e.Op=3 then f e.N else e.N)/\(if e.Op=3 then f e.N else e.N)<_/\e.S=_/\e.Args.map (fF f)=[];rw[aA h',a2];have:=hf e.N (by rw[iV,aA h']; simp);exact⟨this.1,this.2,a1,rfl⟩
  ·have hx':x∈e.Args.map (fF f):=hx;obtain⟨y,hy,rfl⟩:=dW.1 hx';refine ih y hy fun c hc=>hf c ?_;rw[iV,dZ];exact Or.inr (Aq.2 ⟨y,hy,hc⟩)
theorem aQA{nf nc nc':Nat}{l:List aD}(hl:∀ x,x∈l->wfE nf nc' x){e:aD}(h:wfE nf nc e):∀ r,lT 3 l e=some r->wfE nf nc' r:=by
 induction h with
 | @mk e h1 h2 h3 hA ih=>
  intro r hr;rw[tK]at hr;split at hr
  ·split at hr
   ·cases hr
   ·rename_i h2;cases hr;simp only[Bool.or_eq_false_iff,decide_eq_false_iff_not]at h2;exact hl _ (aR (by omega))
  ·rename_i hne;have hne:e.Op≠3:=by simpa using hne
   simp only[gB]at hr;obtain⟨ys,hys,rfl⟩:=hr;obtain⟨e1,e2⟩:=tV hys;refine wfE.mk (e:=aD.mk _ _ _ _) (fun h=>?_) (fun h=>h2 h) (fun h=>absurd h hne) fun x hx=>?_
   ·have:=h1 h;show 3<=ys.length;omega
   ·obtain⟨y,hy,hxy⟩:=e2 x hx;exact ih y hy x hxy
theorem Ib{A B:Type}{f:A->Option B}{g:A->B}:∀ {l:List A},(∀ x,x∈l->f x=some (g x))->l.mapM f=some (l.map g)
 | [],_=>rfl
 | x::l,h=>by rw[sD,h x dI,Ib fun y hy=>h y (cU _ hy)]; rfl
theorem Ij{A B:Type}{f:A->Option B}:∀ {l:List A} {x:A},x∈l->f x=none->l.mapM f=none
 | x::l,y,h,hy=>by
  rw[sD];rcases aW.1 h with rfl | h
  ·rw[hy]; rfl
  ·rw[Ij h hy];cases f x <;> rfl
theorem aFS{f:Int->Int}{nf nc:Nat}{l:List aD}{e:aD}(h:wfE nf nc e)(hf:∀ c,c∈cR e->0<=c/\c<(l.length:Int)/\l.getD c.toNat default=aD.mk 3 (f c) ⟨#[]⟩ []):lT 3 l e=some (fF f e):=by
 induction h with
 | @mk e h1 h2 h3 hA ih=>
  rw[tK,pF];by_cases h0:e.Op=3
  ·obtain⟨_,_,a1,a2⟩:=h3 h0;obtain⟨b1,b2,b3⟩:=hf e.N (by rw[iV,aA h0]; simp);rw[h0];simp only[BEq.rfl];rw[show decide (e.N<0)=false by simp; omega,show decide (e.N>=(l.length:Int))=false by simp; omega,a1,a2,b3];rfl
  ·rw[show (e.Op==3)=false by simpa using h0,aF h0];simp only;rw[Ib (g:=fF f) fun x hx=>ih x hx fun c hc=>hf c ?_]
   ·rfl
   ·rw[iV,dZ];exact Or.inr (Aq.2 ⟨x,hx,hc⟩)
theorem aCG{nf nc:Nat}{l:List aD}{e:aD}(h:wfE nf nc e){c:Int}(hc:c∈cR e)(ho:¬ (0<=c/\c<(l.length:Int))):lT 3 l e=none:=by
 induction h with
 | @mk e h1 h2 h3 hA ih=>
  rw[tK];rw[iV,dZ]at hc;by_cases h0:e.Op=3
  ·obtain⟨_,_,a1,a2⟩:=h3 h0;rw[aA h0,a2]at hc;simp at hc;subst hc;rw[h0];simp only[BEq.rfl];have:(decide (e.N<0) || decide (e.N>=(l.length:Int)))=true:=by simp only[mW,pI]; omega
   rw[this]
  ·rw[aF h0]at hc;simp only[uV,false_or]at hc;obtain⟨x,hx,hc⟩:=Aq.1 hc;rw[show (e.Op==3)=false by simpa using h0];simp only;rw[Ij hx (ih x hx hc)];rfl
theorem Je{e x:aD}(hx:x∈e.Args){c:Int}(hc:c∈cR x):c∈cR e:=by rw[iV,dZ];exact Or.inr (Aq.2 ⟨x,hx,hc⟩)
theorem aBN{nf nc:Nat}{e:aD}{q:aB}(h:cC e)(hw:wfE nf nc e)(hf:∀ c,c∈cR e->0<=c/\c<(q.Key.length:Int)):Gf e q=some (fF (fun c=>q.Key.getD c.toNat default) e):=by
 refine Sp.eq ?_;unfold Gf Lt;refine fV _ _ _ (fun a=>cC a.1/\wfE nf nc a.1/\∀ c,c∈cR a.1->0<=c/\c<(a.2.Key.length:Int)) (fun a=>SizeOf.sizeOf a.1) (fun a y=>y=fF (fun c=>a.2.Key.getD c.toNat default) a.1) (fun b f a ha hrec=>?_) true (e,q) ⟨h,hw,hf⟩;clear h hw hf e q;obtain⟨e,q⟩:=a;obtain⟨he,hw,hf⟩:=ha;simp only at he hw hf hrec;obtain⟨hs,hl,hA⟩:=he.get;obtain⟨w1,w2,w3,wA⟩:=hw.get;have hr:∀ i,i<e.Args.length->Sq b (f.1 (e.Args.getD i default,q)) (fun y=>y=fF (fun c=>q.Key.getD c.toNat default) (e.Args.getD i default)):=fun i hi=>hrec (_,q) ⟨hA i hi,wA _ (aR hi),fun c hc=>hf c (Je (aR hi) hc)⟩ (dQ (aR hi));unfold Du;simp only[Tr.den];have hlf:(if (e.Op==3)=true then (Nx e.N q).bind (fun r=>some r) else some e.N)=some (if e.Op=3 then (fun c=>q.Key.getD c.toNat default) e.N else e.N):=by
  by_cases h0:e.Op=3
  ·rw[aA (dB h0),aA h0];unfold Nx Pt;simp only[Tr.den];rw[aA (by have:=hf e.N (by rw[iV,aA h0]; simp); omega)];rfl
  ·rw[aF (eC h0),aF h0]
 rw[hlf,pF];simp only[aK];refine Sq.bind (fun z=>z = .inl (e.Args.map (fF (fun c=>q.Key.getD c.toNat default)))) ?_ fun z hz=>by subst hz; exact aC.2 rfl
 refine dM (fun s=>s.2) e.Args.length (by omega) (fun s=>s.1=(e.Args.take s.2.toNat).map (fF (fun c=>q.Key.getD c.toNat default))) (fun s k hI hk hkN=>?_) rfl rfl;obtain⟨v1,v2⟩:=s;simp only at hk hI;subst hk;simp only[aJ]at hI;unfold Dm;simp only[Tr.den,aJ];by_cases hc:k<e.Args.length
 ·rw[aA (bU (by omega)),aA (by omega)];refine Sq.bind _ (hr k hc) fun r hr=>?_;subst hr;have hlen:v1.length<=k:=by rw[hI]; simp; omega
  rw[aA (by simp; omega)];refine aC.2 ⟨rfl,hc,?_⟩;simp only;rw[bM (by omega),aJ,dT hc,Cj,<-hI];rfl
 ·rw[aF (bP (by omega))];refine aC.2 ?_;simp only[sel];rw[hI,fQ (by omega)]
theorem aEE{nf nc:Nat}{e:aD}{q:Int}(h:cC e)(hw:wfE nf nc e)(hf:(0<=q/\q<=1000000000)/\∀ c,c∈cR e->0<=c/\c<10000000000):Ew e q=some (fF (fun c=>c-q) e):=by
 refine Sp.eq ?_;unfold Ew Ml;refine fV _ _ _ (fun a=>cC a.1/\wfE nf nc a.1/\(0<=a.2/\a.2<=1000000000)/\∀ c,c∈cR a.1->0<=c/\c<10000000000) (fun a=>SizeOf.sizeOf a.1) (fun a y=>y=fF (fun c=>c-a.2) a.1) (fun b f a ha hrec=>?_) true (e,q) ⟨h,hw,hf⟩;clear h hw hf e q;obtain⟨e,q⟩:=a;obtain⟨he,hw,hf⟩:=ha;simp only at he hw hf hrec;obtain⟨hs,hl,hA⟩:=he.get;obtain⟨w1,w2,w3,wA⟩:=hw.get;have hr:∀ i,i<e.Args.length->Sq b (f.1 (e.Args.getD i default,q)) (fun y=>y=fF (fun c=>c-q) (e.Args.getD i default)):=fun i hi=>hrec (_,q) ⟨hA i hi,wA _ (aR hi),hf.1,fun c hc=>hf.2 c (Je (aR hi) hc)⟩ (dQ (aR hi));unfold Gt;simp only[Tr.den];have hlf:(if (e.Op==3)=true then (Kj e.N q).bind (fun r=>some r) else some e.N)=some (if e.Op=3 then (fun c=>c-q) e.N else e.N):=by
  by_cases h0:e.Op=3
  ·rw[aA (dB h0),aA h0];unfold Kj Mf;simp only[Tr.den];have:=hf.2 e.N (by rw[iV,aA h0]; simp);rw[cQ (by omega) (by omega)];rfl
  ·rw[aF (eC h0),aF h0]
 rw[hlf,pF];simp only[aK];refine Sq.bind (fun z=>z = .inl (e.Args.map (fF (fun c=>c-q)))) ?_ fun z hz=>by subst hz; exact aC.2 rfl
 refine dM (fun s=>s.2) e.Args.length (by omega) (fun s=>s.1=(e.Args.take s.2.toNat).map (fF (fun c=>c-q))) (fun s k hI hk hkN=>?_) rfl rfl;obtain⟨v1,v2⟩:=s;simp only at hk hI;subst hk;simp only[aJ]at hI;unfold Db;simp only[Tr.den,aJ];by_cases hc:k<e.Args.length
 ·rw[aA (bU (by omega)),aA (by omega)];refine Sq.bind _ (hr k hc) fun r hr=>?_;subst hr;have hlen:v1.length<=k:=by rw[hI]; simp; omega
  rw[aA (by simp; omega)];refine aC.2 ⟨rfl,hc,?_⟩;simp only;rw[bM (by omega),aJ,dT hc,Cj,<-hI];rfl
 ·rw[aF (bP (by omega))];refine aC.2 ?_;simp only[sel];rw[hI,fQ (by omega)]
def dY(j:Int)(e:aD)(c:List aS):aB:=aB.mk 1 [j] ⟨#[]⟩ 0 [e] 0 0 0 [] [] 0 0 0 [] [] c
def gJ(n:aB)(l:List Int)(c:List aS):aB:=aB.mk n.Op l n.Source n.Schema n.Exprs n.Kind n.Size n.Step n.Key n.Key2 n.Before n.After n.Keep n.Aggs n.Seq c
theorem aIP(n:aB):gJ n n.In n.Cols=n:=by cases n; rfl
def ncA(ns:List aB)(j:Int):Nat:=(ns.getD j.toNat default).Cols.length
structure WN (nf:Nat)(nc:Int->Nat)(i:Int)(n:aB):Prop where
 b:BN n
 hin:∀ j,j∈n.In->0<=j/\j<i
 ex:∀ e,e∈n.Exprs->∃ j,n.In.head? = some j/\wfE nf (nc j) e
 s1:n.Op=1->∃ j f c,n=dY j f c/\c.length=nc j
 s2:n.Op=2->∃ j,n.In=[j]
 s3:n.Op=3->∃ j k,n.In=[j,k]/\n.Cols.length=nc j/\n.Cols.length=nc k
 s4:n.Op=4\/n.Op=8->∃ j,n.In=[j]/\∀ c,c∈n.Key->0<=c/\c<(nc j:Int)
 s4k:n.Op=4->n.Key.length<=n.Cols.length
 s5:n.Op=5->∃ j,n.In=[j]/\n.Cols.length=nc j
 s6:n.Op=6\/n.Op=7->∃ j k,n.In=[j,k]/\n.Cols.length=nc j+nc k
 e0:n.Op≠1->n.Op≠2->n.Exprs=[]
def inG(n:aB)(g:Int->Int):aB:=gJ n (n.In.map g) n.Cols
theorem BN.inG(h:BN n)(l:List Int)(hl:l.length<=1000000000)(c:List aS)(hc:c.length<=1000000000):BN (gJ n l c):=⟨hl,h.e,h.eB,h.k,h.k2,h.a,h.s,h.sB,hc⟩
theorem WN.map{nf:Nat}{nc nc':Int->Nat}{i i':Int}{n:aB}(h:WN nf nc i n)(g:Int->Int)(hg:∀ j,j∈n.In->nc' (g j)=nc j/\0<=g j/\g j<i'):WN nf nc' i' (inG n g):=by
 refine⟨h.b.inG _ (by rw[hP]; exact h.b.i) _ h.b.c,fun j hj=>?_,fun e he=>?_,fun hop=>?_,fun hop=>?_,fun hop=>?_,fun hop=>?_,h.s4k,fun hop=>?_,fun hop=>?_,h.e0⟩
 ·obtain⟨x,hx,rfl⟩:=dW.1 hj;exact(hg x hx).2
 ·obtain⟨j,h1,h2⟩:=h.ex e he;have hm:j∈n.In:=by
   cases hl:n.In with
   | nil=>rw[hl]at h1; cases h1
   | cons a t=>rw[hl]at h1; cases h1; exact dI
  refine⟨g j,?_,by rw[(hg j hm).1]; exact h2⟩;show (n.In.map g).head? = _;rw[List.head?_map,h1]; rfl
 ·obtain⟨j,f,c,rfl,h2⟩:=h.s1 hop;exact⟨g j,f,c,rfl,by rw[(hg j dI).1]; exact h2⟩
 ·obtain⟨j,h1⟩:=h.s2 hop;exact⟨g j,by show n.In.map g=_; rw[h1]; rfl⟩
 ·obtain⟨j,k,h1,h2,h3⟩:=h.s3 hop;exact⟨g j,g k,by show n.In.map g=_; rw[h1]; rfl,by rw[(hg j (by rw[h1]; simp)).1]; exact h2,by rw[(hg k (by rw[h1]; simp)).1]; exact h3⟩
 ·obtain⟨j,h1,h2⟩:=h.s4 hop;exact⟨g j,by show n.In.map g=_; rw[h1]; rfl,by rw[(hg j (by rw[h1]; simp)).1]; exact h2⟩
 ·obtain⟨j,h1,h2⟩:=h.s5 hop;exact⟨g j,by show n.In.map g=_; rw[h1]; rfl,by rw[(hg j (by rw[h1]; simp)).1]; exact h2⟩
 ·obtain⟨j,k,h1,h2⟩:=h.s6 hop;exact⟨g j,g k,by show n.In.map g=_; rw[h1]; rfl,by rw[(hg j (by rw[h1]; simp)).1,(hg k (by rw[h1]; simp)).1]; exact h2⟩
theorem aRX{g:Int->Int}(h:∀ j,j∈n.In->g j=j):inG n g=n:=by
 unfold inG;have:n.In.map g=n.In:=by
  conv=>rhs; rw[<-List.map_id n.In]
  exact List.map_congr_left h
 rw[this,aIP]
theorem WN.nc{nf:Nat}{nc nc':Int->Nat}{i i':Int}(h:WN nf nc i n)(hg:∀ j,j∈n.In->nc' j=nc j/\j<i'):WN nf nc' i' n:=by
 have:=h.map (nc':=nc') (i':=i') id fun j hj=>⟨(hg j hj).1,(h.hin j hj).1,(hg j hj).2⟩
 rwa [aRX (g:=id) fun _ _=>rfl]at this
theorem aNE(k d:Int)(n:aB):shN k d n=inG n (shi k d):=rfl
def LW(ns:List aB):Prop:=∀ n,n∈ns->∀ e,e∈n.Exprs->jL e<=12
structure WP (p:aE):Prop where
 f:p.Funcs.length<=1000000000
 fB:∀ x,x∈p.Funcs->BF x
 fw:FW p.Funcs
 n:p.Nodes.length<=40
 w:∀ i,i<p.Nodes.length->WN p.Funcs.length (ncA p.Nodes) i (p.Nodes.getD i default)
 lw:LW p.Nodes
theorem WP.b{p:aE}(h:WP p):BP p:=⟨h.f,h.fB,gY h.n (by omega),fun x hx=>by obtain⟨i,hi,rfl⟩:=iS hx; exact(h.w i hi).b⟩
theorem WP.iB{p:aE}(h:WP p):InB p.Nodes:=fun x hx j hj=>by obtain⟨i,hi,rfl⟩:=iS hx;have:=(h.w i hi).hin j hj;have:=h.n;omega
def ncL(ns:List aB)(k:Nat)(l:List aB)(j:Int):Nat:=if j<(k:Int) then ncA ns j else (l.getD (j.toNat-k) default).Cols.length
structure jM (p:aE)(k:Nat)(l:List aB):Prop where
 n:l.length<=3
 w:∀ i,i<l.length->WN p.Funcs.length (ncL p.Nodes k l) ((k+i:Nat):Int) (l.getD i default)
 last:(l=[]/\∀ n,n∈p.Nodes->(k:Int)∉n.In)\/(l≠[]/\(l.getD (l.length-1) default).Cols.length=ncA p.Nodes k)
theorem aLO(hf:fs.length<=1000000000)(hW:FW fs){nc:Nat}{e:aD}(h:cC e)(hw:wfE fs.length nc e):Ii fs e=some (Hi fs e):=by obtain⟨y,hy,_⟩:=(aKX fs nc e hf hW h hw).get;rw[Hi,hy]; rfl
theorem jM.st{p:aE}(h:WP p){k:Nat}(hl:jM p k l):StB p.Funcs l:=fun x hx=>by obtain⟨i,hi,rfl⟩:=iS hx;have hw:=hl.w i hi;refine⟨hw.b,fun e he=>?_⟩;obtain⟨j,_,h2⟩:=hw.ex e he;exact aLO h.f h.fw (hw.b.eB e he) h2
theorem Jn{k:Nat}(hk:k<ns.length):(kB ns k l).length=ns.length+l.length-1:=by simp only[kB,cY,dJ,hP,fG];omega
theorem Vl{k:Nat}(hk:k<ns.length)(hi:i<k):(kB ns k l).getD i default=ns.getD i default:=by unfold kB;rw[cG,cG,gT,eU (by simp; omega),Dr hi]
theorem Jz{k:Nat}(hk:k<ns.length)(hi:i<l.length):(kB ns k l).getD (k+i) default=l.getD i default:=by
 unfold kB;rw[cG,cG,gT,eG (by simp; omega),eU (by simp; omega)]
 congr 3
 simp; omega
theorem Fe{k:Nat}(hk:k<ns.length)(hi:k+1+i<ns.length):(kB ns k l).getD (k+l.length+i) default=shN k ((l.length:Int)-1) (ns.getD (k+1+i) default):=by
 unfold kB;rw[cG,eG (by simp; omega)];have e1:k+l.length+i-(ns.take k++l).length=i:=by simp; omega
 rw[e1,fA,gV,gG hi,eR hi];rfl
theorem sR{k:Nat}(hk:k<ns.length)(h0:0<=j)(hj:j<(k:Int)):ncA (kB ns k l) j=ncA ns j:=by unfold ncA;rw[Vl hk (by omega)]
theorem wX{k:Nat}(hk:k<ns.length)(h0:0<=j)(hj:j<((k+l.length:Nat):Int)):ncA (kB ns k l) j=ncL ns k l j:=by
 unfold ncL;by_cases h:j<(k:Int)
 ·rw[aA h,sR hk h0 h]
 ·rw[aF h];unfold ncA;rw[show j.toNat=k+(j.toNat-k) by omega,Jz hk (by omega)]
  congr 3
  omega
theorem Kz{p:aE}{k:Nat}(hk:k<p.Nodes.length)(hl:jM p k l)(h0:0<=j)(hj:j<(p.Nodes.length:Int))(hu:l=[]->j≠k):ncA (kB p.Nodes k l) (shi k ((l.length:Int)-1) j)=ncA p.Nodes j:=by
 unfold shi;by_cases h:(k:Int)<=j
 ·rw[aA h];rcases hl.last with⟨h1,h2⟩ | ⟨h1,h2⟩
  ·subst h1;have hne:=hu rfl;unfold ncA;have:=Fe hk (l:=[]) (i:=j.toNat-k-1) (by omega);rw[show (j+(([]:List aB).length-1:Int)).toNat=k+([]:List aB).length+(j.toNat-k-1) by simp; omega,this,show k+1+(j.toNat-k-1)=j.toNat by omega];rfl
  ·have hlp:0<l.length:=List.length_pos_iff.2 h1;by_cases hjk:j=k
   ·subst hjk;rw[wX hk (by omega) (by omega),ncL,aF (by omega),<-h2]
    congr 3
    omega
   ·unfold ncA;have:=Fe hk (l:=l) (i:=j.toNat-k-1) (by omega);rw[show (j+((l.length:Int)-1)).toNat=k+l.length+(j.toNat-k-1) by omega,this,show k+1+(j.toNat-k-1)=j.toNat by omega];rfl
 ·rw[aF h];exact sR hk h0 (by omega)
theorem WP.rep{p:aE}(h:WP p){k:Nat}(hk:k<p.Nodes.length)(hl:jM p k l)(h40:(p.Nodes.length:Int)+l.length-1<=40)(ho:zR p.Funcs l=true):WP ⟨p.Funcs,kB p.Nodes k l⟩:=by
 have hlen:=Jn hk (l:=l);refine⟨h.f,h.fB,h.fw,by show (kB p.Nodes k l).length<=40; omega,fun i hi=>?_,?_⟩
 ·have hi:i<(kB p.Nodes k l).length:=hi;rw[hlen]at hi;show WN p.Funcs.length (ncA (kB p.Nodes k l)) i ((kB p.Nodes k l).getD i default);by_cases h1:i<k
  ·rw[Vl hk h1];refine(h.w i (by omega)).nc fun j hj=>?_;have:=(h.w i (by omega)).hin j hj;exact⟨sR hk this.1 (by omega),this.2⟩
  ·by_cases h2:i<k+l.length
   ·have e:i=k+(i-k):=by omega
    have hw:=hl.w (i-k) (by omega);rw[e,Jz hk (by omega)];refine hw.nc fun j hj=>?_;have:=hw.hin j hj;exact⟨wX hk this.1 (by omega),this.2⟩
   ·have e:i=k+l.length+(i-k-l.length):=by omega
    have e2:k+1+(i-k-l.length)<p.Nodes.length:=by omega
    have hw:=h.w _ e2;rw[e,Fe hk e2,aNE];refine hw.map _ fun j hj=>?_;have hb:=hw.hin j hj;refine⟨Kz hk hl hb.1 (by omega) fun hl0 hjk=>?_,?_⟩
    ·rcases hl.last with⟨_,h4⟩ | ⟨h4,_⟩
     ·exact h4 _ (aR e2) (by rw[<-hjk]; exact hj)
     ·exact h4 hl0
    ·have hlz:l=[]->j≠k:=fun hl0 hjk=>by
      rcases hl.last with⟨_,h4⟩ | ⟨h4,_⟩
      ·exact h4 _ (aR e2) (by rw[<-hjk]; exact hj)
      ·exact h4 hl0
     have hlp:l.length=0->j≠k:=fun h0=>hlz (pG.1 h0);unfold shi;split <;> constructor <;> omega
 ·intro x hx e he;have hx:x∈kB p.Nodes k l:=hx;simp only[kB,dZ,dW]at hx;rcases hx with (hx | hx) | ⟨y,hy,rfl⟩
  ·exact h.lw x (Af hx) e he
  ·have:=dO.1 (dO.1 ho x hx) e he;simp only[okE,cM,pI]at this;exact this.1
  ·exact h.lw y (List.mem_of_mem_drop hy) e he
theorem aGK{l:List Int}(h:l.length=1):l=[l.getD 0 default]:=by
 match l,h with | [a],_=>rfl
theorem aTN{l:List Int}(h:l.length=2):l=[l.getD 0 default,l.getD 1 default]:=by
 match l,h with | [a,b],_=>rfl
theorem WN.mov{nf:Nat}{nc nc':Int->Nat}{i i':Int}(h:WN nf nc i n){l:List Int}{c:List aS}(hl:l.length=n.In.length)
  (hg:∀ t,t<l.length->nc' (l.getD t default)=nc (n.In.getD t default)/\0<=l.getD t default/\l.getD t default<i')(hc:c.length=n.Cols.length):WN nf nc' i' (gJ n l c):=by
 refine⟨h.b.inG _ (by rw[hl]; exact h.b.i) _ (by rw[hc]; exact h.b.c),fun j hj=>?_,fun e he=>?_,fun hop=>?_,fun hop=>?_,fun hop=>?_,fun hop=>?_,fun hop=>?_,fun hop=>?_,fun hop=>?_,h.e0⟩
 ·obtain⟨t,ht,rfl⟩:=iS (show j∈l from hj);exact(hg t ht).2
 ·obtain⟨j,h1,h2⟩:=h.ex e he;cases hn:n.In with
  | nil=>rw[hn]at h1; cases h1
  | cons a t=>
   rw[hn]at h1;cases h1;cases l with
   | nil=>rw[hn]at hl; cases hl
   | cons x s=>refine⟨x,rfl,?_⟩;have:=(hg 0 (by simp)).1;rw[hn]at this;have this:nc' x=nc j:=this;rw[this]; exact h2
 ·obtain⟨j,f,c0,rfl,h2⟩:=h.s1 hop;have h3:=(hg 0 (by rw[hl]; exact Nat.lt_succ_self 0)).1;rw[aGK (l:=l) hl];exact⟨_,f,c,rfl,by rw[h3,hc]; exact h2⟩
 ·obtain⟨j,h1⟩:=h.s2 hop;exact⟨_,aGK (l:=l) (by rw[hl,h1]; rfl)⟩
 ·obtain⟨j,k,h1,h2,h3⟩:=h.s3 hop;rw[h1]at hl hg;refine⟨_,_,aTN (l:=l) hl,?_,?_⟩
  ·rw[(hg 0 (by rw[hl]; simp)).1]; show c.length=nc j; rw[hc]; exact h2
  ·rw[(hg 1 (by rw[hl]; simp)).1]; show c.length=nc k; rw[hc]; exact h3
 ·obtain⟨j,h1,h2⟩:=h.s4 hop;rw[h1]at hl hg;refine⟨_,aGK (l:=l) hl,?_⟩;rw[(hg 0 (by rw[hl]; simp)).1]; exact h2
 ·show n.Key.length<=c.length;rw[hc]; exact h.s4k hop
 ·obtain⟨j,h1,h2⟩:=h.s5 hop;rw[h1]at hl hg;refine⟨_,aGK (l:=l) hl,?_⟩;rw[(hg 0 (by rw[hl]; simp)).1]; show c.length=nc j; rw[hc]; exact h2
 ·obtain⟨j,k,h1,h2⟩:=h.s6 hop;rw[h1]at hl hg;refine⟨_,_,aTN (l:=l) hl,?_⟩;rw[(hg 0 (by rw[hl]; simp)).1,(hg 1 (by rw[hl]; simp)).1]; show c.length=nc j+nc k; rw[hc]; exact h2
theorem Tf{nf:Nat}{nc:Int->Nat}{i:Int}{g:aD}{c:List aS}(h0:0<=j)(hj:j<i)(hB:cC g)(hw:wfE nf (nc j) g)(hc:c.length=nc j)(hc2:c.length<=1000000000):WN nf nc i (dY j g c) where
 b:=⟨by simp[dY],by simp[dY],fun x hx=>by rw[cE.1 hx]; exact hB,by simp[dY],by simp[dY],by simp[dY],by simp[dY],fun x hx=>by simp[dY]at hx,hc2⟩
 hin:=fun x hx=>by rw[cE.1 hx]; exact⟨h0,hj⟩
 ex:=fun e he=>by rw[cE.1 he]; exact⟨j,rfl,hw⟩
 s1:=fun _=>⟨j,g,c,rfl,hc⟩
 s2:=fun h=>absurd h (by show ¬ ((1:Int)=2); omega)
 s3:=fun h=>absurd h (by show ¬ ((1:Int)=3); omega)
 s4:=fun h=>absurd h (by show ¬ ((1:Int)=4\/(1:Int)=8); omega)
 s4k:=fun h=>absurd h (by show ¬ ((1:Int)=4); omega)
 s5:=fun h=>absurd h (by show ¬ ((1:Int)=5); omega)
 s6:=fun h=>absurd h (by show ¬ ((1:Int)=6\/(1:Int)=7); omega)
 e0:=fun h=>absurd rfl h
noncomputable def fin (p:aE)(k:Nat)(l:List aB):Option aE:=if (p.Nodes.length:Int)+l.length-1<=40/\zR p.Funcs l=true then some ⟨p.Funcs,kB p.Nodes k l⟩ else none
def RA(x:Option aE)(z:aE×Int):Prop:=match x with | some q=>z=(q,0) | none=>z.1=⟨[],[]⟩/\z.2≠0
noncomputable def uS (p:aE)(k:Nat)(l:List aB):Option (List aB):=if zR p.Funcs l=true then some (kB p.Nodes k l) else none
theorem fC{x:Option (aE×Int)}:x.bind (fun r=>some (r.1,r.2))=x:=by cases x <;> rfl
theorem gP{A:Type}{x:Option (Option A)}:x.bind (Ag (some none) fun r=>some (some r))=x:=by
 match x with
 | none=>rfl
 | some none=>rfl
 | some (some _)=>rfl
theorem kF{p:aE}(h:WP p){k:Nat}(hk:k<p.Nodes.length)(hl:jM p k l):∃ z,aMQ ⟨p⟩ k l=some z/\RA (fin p k l) z:=by
 refine⟨_,aSB h.b h.iB hk (gY hl.n (by omega)) (hl.st h),?_⟩;unfold fin;by_cases h40:40<(p.Nodes.length:Int)+l.length-1
 ·rw[aA h40,aF (by omega)];exact⟨rfl,by decide⟩
 ·rw[aF h40];by_cases ho:zR p.Funcs l=true
  ·rw[aA ho,aA ⟨by omega,ho⟩]; rfl
  ·rw[aF ho,aF (by simp[ho])];exact⟨rfl,by decide⟩
theorem qG{p:aE}(h:WP p){k:Nat}(hk:k<p.Nodes.length){nd:aB}(hl:jM p k l):yY l ⟨p,k,m,nd⟩=some (uS p k l):=
 If h.b h.iB hk (gY hl.n (by omega)) (hl.st h)
theorem Tx{p:aE}(h:WP p){k:Nat}(hk:k<p.Nodes.length){nd:aB}(hl:jM p k l):Gg l ⟨p,k,m,nd⟩=some (uS p k l):=
 aDG h.b h.iB hk (gY hl.n (by omega)) (hl.st h)
def nd(p:aE)(k:Nat):aB:=p.Nodes.getD k default
def inn(p:aE)(k:Nat):aB:=p.Nodes.getD ((nd p k).In.getD 0 default).toNat default
def fx(p:aE)(k:Nat):aD:=(nd p k).Exprs.getD 0 default
def cl(p:aE)(j:Int):List aS:=(p.Nodes.getD j.toNat default).Cols
structure Cnd (p:aE)(k:Nat)(j:Int)(f:aD)(c:List aS):Prop where
 e:nd p k=dY j f c
 j0:0<=j
 jk:j<(k:Int)
 hc:c.length=ncA p.Nodes j
 c2:c.length<=1000000000
 fB:cC f
 fw:wfE p.Funcs.length c.length f
 fl:jL f<=12
 w:WN p.Funcs.length (ncA p.Nodes) j (p.Nodes.getD j.toNat default)
theorem WP.cnd{p:aE}(h:WP p){k:Nat}(hk:k<p.Nodes.length)(ho:(nd p k).Op=1):∃ j f c,Cnd p k j f c:=by
 have hw:=h.w k hk;obtain⟨j,f,c,he,hc⟩:=hw.s1 ho;have hb:=hw.hin j (by rw[he]; simp[dY]);have hf:f∈(nd p k).Exprs:=by unfold nd; rw[he]; simp[dY]
 obtain⟨j',hj',hwf⟩:=hw.ex f hf;have hjj:j'=j:=by rw[he]at hj'; cases hj'; rfl
 subst hjj;have hj:=h.w j'.toNat (by omega);rw[Int.toNat_of_nonneg hb.1]at hj;have hcc:=hw.b.c;rw[he]at hcc;exact⟨j',f,c,he,hb.1,hb.2,hc,hcc,hw.b.eB f hf,by rw[hc]; exact hwf,h.lw _ (aR hk) f hf,hj⟩
theorem Cnd.fx{p:aE}{k:Nat}{j:Int}{f:aD}{c:List aS}(h:Cnd p k j f c):fx p k=f/\inn p k=p.Nodes.getD j.toNat default/\(nd p k).Cols=c/\(nd p k).Op=1:=by have:=h.e;unfold Go.PL.fx inn;rw[this];exact⟨rfl,rfl,rfl,rfl⟩
theorem Ey{p:aE}{k:Nat}{x:Int}(hi:i<n.In.length)(hx:n.In.getD i default=x)(h0:0<=x)(h1:x<(p.Nodes.length:Int)):wJ n i ⟨p,k,m,n0⟩=some (p.Nodes.getD x.toNat default):=by unfold wJ Rc;simp only[Tr.den,aJ,hx];rw[aA (by omega),aA (by omega)]
theorem bF{b:Int}(h:a≠b):(a==b)=false:=by simpa using h
theorem My{b:Int}(h:a≠b):(a != b)=true:=by simpa using h
theorem Gz{b:Int}(h:a=b):(a != b)=false:=by simpa using h
theorem aDH{p:aE}(h:WP p){k:Nat}(hk:k<p.Nodes.length)(m:Int):zT ⟨p,k,m,nd p k⟩=some (if (nd p k).Op=1 then some (inn p k,fx p k) else none):=by
 unfold zT Kh;simp only[Tr.den,aK,cT];by_cases ho:(nd p k).Op=1
 ·rw[aA (dB ho),aA ho];obtain⟨j,f,c,hc⟩:=h.cnd hk ho;have h1:=hc.e;have hjk:=hc.jk;have:=Ey (p:=p) (k:=k) (m:=m) (n0:=nd p k) (n:=nd p k) (i:=0) (x:=j) (by rw[h1]; simp[dY]) (by rw[h1]; rfl) hc.j0 (by omega);rw[show ((0:Nat):Int)=0 from rfl]at this;rw[this,hc.fx.1,hc.fx.2.1];simp only[aK];rw[h1];rfl
 ·rw[aF (eC ho),aF ho]
theorem lX{p:aE}{k:Nat}:p.Nodes.getD k default=nd p k:=id rfl
theorem aCR{p:aE}(h:WP p){k:Nat}(hk:k<p.Nodes.length){ops:List Int}(hops:ops.length<=10):aIC ⟨p⟩ k ops=some (if (nd p k).Op=1 then (gJ (inn p k) (inn p k).In (nd p k).Cols,fx p k,decide ((inn p k).Op∈ops)) else (nd p k,aD.mk 0 0 ⟨#[]⟩ [],false)):=by
 unfold aIC aRU;simp only[Tr.den,aJ,lX];rw[aA (by omega)];by_cases ho:(nd p k).Op=1
 ·obtain⟨j,f,c,hc⟩:=h.cnd hk ho;have h1:=hc.e;have hjk:=hc.jk;have hj0:=hc.j0;rw[aA ho,aF (fun hne=>(bne_iff_ne.1 hne) ho)];have a1:(nd p k).In=[j]:=congrArg aB.In h1;have a2:(nd p k).Exprs=[f]:=congrArg aB.Exprs h1;rw[hc.fx.1,hc.fx.2.1];simp only[a1,a2];rw[aA (by simp),aA (by simp; omega),aA (by simp),As (by omega)];rfl
 ·rw[aF ho,aA (bne_iff_ne.2 ho)]
theorem qH{p:aE}(h0:0<=j)(h1:j<(p.Nodes.length:Int))(e:aD):Fm ⟨p⟩ j e=some (dY j e (cl p j)):=by unfold Fm aVT;simp only[Tr.den];rw[aA (by omega)];rfl
theorem sT{p:aE}{k:Nat}(h0:0<=j)(h1:j<(p.Nodes.length:Int))(e:aD):oR j e ⟨p,k,m,n0⟩=some (dY j e (cl p j)):=by unfold oR Qv;simp only[Tr.den];rw[aA (by omega)];rfl
theorem vJ{p:aE}{k:Nat}{l:List Int}:aBH n l ⟨p,k,m,n0⟩=some (gJ n l n0.Cols):=id rfl
theorem Oa{l:List Int}:aYN n l=some (gJ n l n.Cols):=id rfl
theorem pU{l:List Int}:bBB n l=some (gJ n l n.Cols):=id rfl
theorem fX:aZR=some (⟨[],[]⟩,1):=id rfl
theorem dP:RA none (⟨[],[]⟩,1):=⟨rfl,by decide⟩
theorem iP{p:aE}(h:WP p){k:Nat}(hk:k<p.Nodes.length)(m:Int)(ho:(nd p k).Op=1):zT ⟨p,k,m,nd p k⟩=some (some (inn p k,fx p k)):=by rw[aDH h hk,aA ho]
theorem Ah{p:aE}(h:WP p){k:Nat}(hk:k<p.Nodes.length)(m:Int)(ho:(nd p k).Op≠1):zT ⟨p,k,m,nd p k⟩=some none:=by rw[aDH h hk,aF ho]
theorem iQ{p:aE}(h:WP p){k:Nat}(hk:k<p.Nodes.length)(ops:List Int)(hops:ops.length<=10)(ho:(nd p k).Op=1):aIC ⟨p⟩ k ops=some (gJ (inn p k) (inn p k).In (nd p k).Cols,fx p k,decide ((inn p k).Op∈ops)):=by rw[aCR h hk hops,aA ho]
theorem Ab{p:aE}(h:WP p){k:Nat}(hk:k<p.Nodes.length)(ops:List Int)(hops:ops.length<=10)(ho:(nd p k).Op≠1):aIC ⟨p⟩ k ops=some (nd p k,aD.mk 0 0 ⟨#[]⟩ [],false):=by rw[aCR h hk hops,aF ho]
theorem mI(n:aB)(l:List Int)(c:List aS):(gJ n l c).In=l:=id rfl
theorem mE(n:aB)(l:List Int)(c:List aS):(gJ n l c).Exprs=n.Exprs:=id rfl
theorem mK(n:aB)(l:List Int)(c:List aS):(gJ n l c).Key=n.Key:=id rfl
theorem mO(n:aB)(l:List Int)(c:List aS):(gJ n l c).Op=n.Op:=id rfl
theorem mC(n:aB)(l:List Int)(c:List aS):(gJ n l c).Cols=c:=id rfl
theorem mM(n:aB)(l l':List Int)(c c':List aS):gJ (gJ n l c) l' c'=gJ n l' c':=id rfl
def rl0(p:aE)(k:Nat):Option (List aB):=if (nd p k).Op=1/\(inn p k).Op=1 then some [dY ((inn p k).In.getD 0 default) (aD.mk 17 0 ⟨#[]⟩ [(inn p k).Exprs.getD 0 default,fx p k]) (nd p k).Cols] else none
section
variable {p:aE} (h:WP p) {k:Nat} (hk:k<p.Nodes.length)
theorem Bu(ho:(nd p k).Op=1)(ho2:(inn p k).Op=1):rl0 p k=some [dY ((inn p k).In.getD 0 default) (aD.mk 17 0 ⟨#[]⟩ [(inn p k).Exprs.getD 0 default,fx p k]) (nd p k).Cols]:=aA ⟨ho,ho2⟩
theorem Hr(ho:¬ ((nd p k).Op=1/\(inn p k).Op=1)):rl0 p k=none:=aF ho
include h hk
theorem in0(ho:(nd p k).Op=1)(ho2:(inn p k).Op=1):∃ j f c j2 g c2,Cnd p k j f c/\Cnd p j.toNat j2 g c2/\inn p k=dY j2 g c2/\fx p k=f/\(nd p k).Cols=c/\nd p k=dY j f c:=by obtain⟨j,f,c,hc⟩:=h.cnd hk ho;obtain⟨f1,f2,f3,_⟩:=hc.fx;have hj0:=hc.j0;have hjk:=hc.jk;obtain⟨j2,g,c2,hc2⟩:=h.cnd (k:=j.toNat) (by omega) (by rw[f2]at ho2; exact ho2);exact⟨j,f,c,j2,g,c2,hc,hc2,f2.trans hc2.e,f1,f3,hc.e⟩
theorem aWB:∀ l,rl0 p k=some l->jM p k l:=by
 intro l hl;by_cases ho:(nd p k).Op=1/\(inn p k).Op=1
 ·rw[Bu ho.1 ho.2]at hl;obtain⟨j,f,c,j2,g,c2,hc,hc2,e2,f1,f3,e1⟩:=in0 h hk ho.1 ho.2;have hj0:=hc.j0;have hjk:=hc.jk;have hj20:=hc2.j0;have hj2k:=hc2.jk;rw[f1,f3,e2]at hl;cases hl;have en:p.Nodes.getD j.toNat default=dY j2 g c2:=hc2.e;refine⟨by simp,fun i hi=>?_,Or.inr ⟨by simp,?_⟩⟩
  ·have:i=0:=by simp at hi; omega
   subst this;refine Tf (show 0<=j2 by omega) (show j2<((k+0:Nat):Int) by omega) ?_ ?_ ?_ hc.c2
   ·refine cC.of (e:=aD.mk 17 0 ⟨#[]⟩ [g,f]) (by show (0:Nat)<=_; omega) (by show (2:Nat)<=_; omega) fun x hx=>?_;rcases aW.1 hx with rfl | hx
    ·exact hc2.fB
    ·rw[cE.1 hx]; exact hc.fB
   ·have e3:∀ l,ncL p.Nodes k l j2=c2.length:=fun l=>by rw[ncL,aA (by omega),hc2.hc]
    show wfE _ (ncL p.Nodes k _ j2) _;rw[e3];refine wfE.mk (e:=aD.mk 17 0 ⟨#[]⟩ [g,f]) (fun h=>absurd h (by show ¬ ((17:Int)=21); omega)) (fun h=>absurd h (by show ¬ ((17:Int)=22); omega)) (fun h=>absurd h (by show ¬ ((17:Int)=3); omega)) fun x hx=>?_;rcases aW.1 hx with rfl | hx
    ·exact hc2.fw
    ·rw[cE.1 hx];have:=hc.fw;rw[hc.hc,ncA,en]at this;exact this
   ·show c.length=ncL p.Nodes k _ j2;rw[ncL,aA (by omega),<-hc2.hc,hc.hc,ncA,en]; rfl
  ·show c.length=_;unfold ncA;have:p.Nodes.getD k default=dY j f c:=e1;rw[aJ,this]; rfl
 ·rw[Hr ho]at hl; cases hl
theorem c0(m:Int):Pa ⟨p,k,m,nd p k⟩=some ((rl0 p k).bind (uS p k)):=by
 unfold Pa Nq;by_cases ho:(nd p k).Op=1
 ·by_cases ho2:(inn p k).Op=1
  ·have hl:=aWB h hk _ (Bu ho ho2);obtain⟨j,f,c,j2,g,c2,hc,hc2,e2,f1,f3,e1⟩:=in0 h hk ho ho2;rw[Bu ho ho2];have g1:(inn p k).In.length=1:=by rw[e2]; rfl
   have g2:(inn p k).Exprs.length=1:=by rw[e2]; rfl
   simp only[Tr.den,iP h hk m ho,aK,cS,cT,dB ho2,bS,Oa,g1,g2,sP];rw[aA (by omega),aA (by omega)];have:∀ a b,aB.mk (gJ (nd p k) a (nd p k).Cols).Op (gJ (nd p k) a (nd p k).Cols).In (gJ (nd p k) a (nd p k).Cols).Source (gJ (nd p k) a (nd p k).Cols).Schema b (gJ (nd p k) a (nd p k).Cols).Kind (gJ (nd p k) a (nd p k).Cols).Size (gJ (nd p k) a (nd p k).Cols).Step (gJ (nd p k) a (nd p k).Cols).Key (gJ (nd p k) a (nd p k).Cols).Key2 (gJ (nd p k) a (nd p k).Cols).Before (gJ (nd p k) a (nd p k).Cols).After (gJ (nd p k) a (nd p k).Cols).Keep (gJ (nd p k) a (nd p k).Cols).Aggs (gJ (nd p k) a (nd p k).Cols).Seq (gJ (nd p k) a (nd p k).Cols).Cols=aB.mk 1 a ⟨#[]⟩ 0 b 0 0 0 [] [] 0 0 0 [] [] (nd p k).Cols:=by intro a b;rw[e1]; rfl
   rw[this,gP];exact qG h hk hl
  ·rw[Hr fun hh=>ho2 hh.2];simp only[Tr.den,iP h hk m ho,aK,cS,cT,bF ho2,cO,bY];rfl
 ·rw[Hr fun hh=>ho hh.1];simp only[Tr.den,Ah h hk m ho,aK,cV];rfl
theorem r0(m:Int):∃ z,Oz ⟨p⟩ k m=some z/\RA ((rl0 p k).bind (fin p k)) z:=by
 unfold Oz Mx;by_cases ho:(nd p k).Op=1
 ·by_cases ho2:(inn p k).Op=1
  ·have hl:=aWB h hk _ (Bu ho ho2);obtain⟨j,f,c,j2,g,c2,hc,hc2,e2,f1,f3,e1⟩:=in0 h hk ho ho2;have hj0:=hc.j0;have hjk:=hc.jk;have hj20:=hc2.j0;have hj2k:=hc2.jk;rw[Bu ho ho2];have g1:(inn p k).In.length=1:=by rw[e2]; rfl
   have g2:(inn p k).Exprs.length=1:=by rw[e2]; rfl
   have g3:(inn p k).In.getD 0 default=j2:=by rw[e2]; rfl
   have hm:(!decide ((inn p k).Op∈([1]:List Int)))=false:=by rw[ho2]; rfl
   simp only[Tr.den,iQ h hk [1] (by simp) ho,aK,fC,hm,cO,bY,mI,mE,g1,g2,sP,aJ];rw[aA (by omega),aA (by omega),qH (by omega) (by omega)];simp only[aK];rw[aA (by omega)];exact kF h hk hl
  ·have hm:(!decide ((inn p k).Op∈([1]:List Int)))=true:=by simp[ho2]
   rw[Hr fun hh=>ho2 hh.2];simp only[Tr.den,iQ h hk [1] (by simp) ho,aK,fC,hm,bS,fX];exact⟨_,rfl,dP⟩
 ·rw[Hr fun hh=>ho hh.1];simp only[Tr.den,Ab h hk [1] (by simp) ho,aK,fC,lL,bS,fX];exact⟨_,rfl,dP⟩
end
def fY(p:aE)(k:Nat)(fs:List (Int×aD))(l:List Int):List aB:=(fs.map fun x=>dY x.1 x.2 (cl p x.1))++[gJ (inn p k) l (nd p k).Cols]
theorem aXO{p:aE}:(cl p a).length=ncA p.Nodes a:=rfl
theorem vV{k:Nat}(h:j<(k:Int)):ncL ns k l j=ncA ns j:=aA h
theorem aSK{k:Nat}{t:Nat}:ncL ns k l ((k+t:Nat):Int)=(l.getD t default).Cols.length:=by rw[ncL,aF (by omega),aJ,Nat.add_sub_cancel_left]
theorem nM{p:aE}(h:WP p){k:Nat}(hk:k<p.Nodes.length){f:aD}{c:List aS}(hc:Cnd p k j f c){fs:List (Int×aD)}{l:List Int}(hn:fs.length<=2)
  (hf:∀ x,x∈fs->0<=x.1/\x.1<(k:Int)/\cC x.2/\wfE p.Funcs.length (ncA p.Nodes x.1) x.2)(hl:l.length=(inn p k).In.length)
  (hcl:c.length=(inn p k).Cols.length)
  (ht:∀ t,t<l.length->(l.getD t default=(inn p k).In.getD t default)\/∃ s:Nat,s<fs.length/\l.getD t default=((k+s:Nat):Int)/\(fs.getD s default).1=(inn p k).In.getD t default):jM p k (fY p k fs l):=by
 obtain⟨f1,f2,f3,_⟩:=hc.fx;have hj0:=hc.j0;have hjk:=hc.jk;have hlen:(fY p k fs l).length=fs.length+1:=by simp[fY]
 have hlo:∀ s,s<fs.length->(fY p k fs l).getD s default=dY (fs.getD s default).1 (fs.getD s default).2 (cl p (fs.getD s default).1):=fun s hs=>by unfold fY;rw[cG,eU (by simpa using hs),fA,gG hs,eR hs];rfl
 have hhi:(fY p k fs l).getD fs.length default=gJ (inn p k) l (nd p k).Cols:=by unfold fY;rw[cG,eG (by simp)];simp
 refine⟨by omega,fun i hi=>?_,Or.inr ⟨by simp[fY],?_⟩⟩
 ·by_cases hif:i<fs.length
  ·obtain⟨a1,a2,a3,a4⟩:=hf _ (aR hif);rw[hlo i hif];refine Tf a1 (by omega) a3 ?_ ?_ ?_
   ·rw[vV a2]; exact a4
   ·rw[vV a2,aXO]
   ·exact(h.b.nB _ (aR (l:=p.Nodes) (k:=(fs.getD i default).1.toNat) (by omega))).c
  ·have:i=fs.length:=by omega
   subst this;rw[hhi];have hw:=hc.w;rw[<-f2]at hw;refine hw.mov hl (fun t htl=>?_) (by rw[f3]; exact hcl);rcases ht t htl with h1 | ⟨s,hs,h1,h2⟩
   ·have hm:(inn p k).In.getD t default∈(inn p k).In:=aR (by omega);have:=hw.hin _ hm;rw[h1];exact⟨vV (by omega),this.1,by omega⟩
   ·rw[h1];refine⟨?_,by omega,by omega⟩;rw[aSK,hlo s hs,<-h2];rfl
 ·rw[show (fY p k fs l).length-1=fs.length by omega,hhi];show (nd p k).Cols.length=_;unfold ncA;rw[aJ]; rfl
theorem aCL{g:aD}:ofM (some g)=(g,true):=rfl
theorem aYM:ofM none=(aD.mk 0 0 ⟨#[]⟩ [],false):=rfl
section
variable {p:aE} (h:WP p) {k:Nat} (hk:k<p.Nodes.length)
include h hk
theorem inW(ho:(nd p k).Op=1):∃ j f c,Cnd p k j f c/\fx p k=f/\(nd p k).Cols=c/\c.length=(inn p k).Cols.length/\WN p.Funcs.length (ncA p.Nodes) j (inn p k):=by obtain⟨j,f,c,hc⟩:=h.cnd hk ho;obtain⟨f1,f2,f3,_⟩:=hc.fx;refine⟨j,f,c,hc,f1,f3,?_,by rw[f2]; exact hc.w⟩;rw[f2,hc.hc]; rfl
end
noncomputable def rl1 (p:aE)(k:Nat):Option (List aB):=if (nd p k).Op=1/\(inn p k).Op=2 then (nX (fx p k) (inn p k).Exprs).map fun g=>fY p k [((inn p k).In.getD 0 default,g)] [(k:Int)] else none
section
variable {p:aE} (h:WP p) {k:Nat} (hk:k<p.Nodes.length)
theorem Hl(ho:¬ ((nd p k).Op=1/\(inn p k).Op=2)):rl1 p k=none:=aF ho
theorem aGP(ho:(nd p k).Op=1)(ho2:(inn p k).Op=2):rl1 p k=(nX (fx p k) (inn p k).Exprs).map fun g=>fY p k [((inn p k).In.getD 0 default,g)] [(k:Int)]:=aA ⟨ho,ho2⟩
include h hk
theorem in1(ho:(nd p k).Op=1)(ho2:(inn p k).Op=2):∃ a,(inn p k).In=[a]/\(0<=a/\a<(k:Int))/\cC (fx p k)/\(∀ x,x∈(inn p k).Exprs->cC x) /\
  ∀ g,nX (fx p k) (inn p k).Exprs=some g->jM p k (fY p k [(a,g)] [(k:Int)]):=by
 obtain⟨j,f,c,hc,f1,f3,f4,hw⟩:=inW h hk ho;have hj0:=hc.j0;have hjk:=hc.jk;obtain⟨a,ha⟩:=hw.s2 ho2;have hb:=hw.hin a (by rw[ha]; simp);have hE:∀ x,x∈(inn p k).Exprs->wfE p.Funcs.length (ncA p.Nodes a) x:=fun x hx=>by obtain⟨a',h1,h2⟩:=hw.ex x hx;rw[ha]at h1; cases h1; exact h2
 refine⟨a,ha,⟨hb.1,by omega⟩,by rw[f1]; exact hc.fB,hw.b.eB,fun g hg=>?_⟩;obtain⟨r,hr,hr2⟩:=oK.1 hg;have hrg:r=g:=by
  split at hr2
  ·exact pJ hr2
  ·cases hr2
 subst hrg;refine nM h hk hc (by simp) (fun x hx=>?_) (by rw[ha]; rfl) f4 (fun t ht=>?_)
 ·rw[cE.1 hx];refine⟨hb.1,by show a<_; omega,Iw hw.b.eB (by rw[f1]; exact hc.fB) _ hr,aQA hE (by rw[f1]; exact hc.fw) _ hr⟩
 ·have:t=0:=by simp at ht; omega
  subst this;exact Or.inr ⟨0,by simp,rfl,by rw[ha]; rfl⟩
theorem c1(m:Int):Qj ⟨p,k,m,nd p k⟩=some ((rl1 p k).bind (uS p k)):=by
 unfold Qj Pd;by_cases ho:(nd p k).Op=1
 ·by_cases ho2:(inn p k).Op=2
  ·obtain⟨a,ha,hb,hB,hE,hN⟩:=in1 h hk ho ho2;rw[aGP ho ho2];simp only[Tr.den,iP h hk m ho,aK,cS,cT,dB ho2,bS,Em hB hE,ha];cases hr:nX (fx p k) (inn p k).Exprs with
   | none=>rfl
   | some g=>simp only[aCL,bS];rw[aA (by simp),show [a].getD (Int.toNat 0) default=a from rfl,sT hb.1 (by omega)];simp only[aK,vJ,gP];exact qG h hk (hN g hr)
  ·rw[Hl fun hh=>ho2 hh.2];simp only[Tr.den,iP h hk m ho,aK,cS,cT,bF ho2,cO,bY];rfl
 ·rw[Hl fun hh=>ho hh.1];simp only[Tr.den,Ah h hk m ho,aK,cV];rfl
theorem r1(m:Int):∃ z,Ob ⟨p⟩ k m=some z/\RA ((rl1 p k).bind (fin p k)) z:=by
 unfold Ob Oj;by_cases ho:(nd p k).Op=1
 ·by_cases ho2:(inn p k).Op=2
  ·obtain⟨a,ha,hb,hB,hE,hN⟩:=in1 h hk ho ho2;rw[aGP ho ho2];have hm:(!decide ((inn p k).Op∈([2]:List Int)))=false:=by rw[ho2]; rfl
   simp only[Tr.den,iQ h hk [2] (by simp) ho,aK,fC,hm,cO,bY,mI,mE,Em hB hE,ha];cases hr:nX (fx p k) (inn p k).Exprs with
   | none=>exact⟨_,rfl,rfl,by decide⟩
   | some g=>simp only[aCL,jF,cO,bY];rw[aA (by simp),show [a].getD (Int.toNat 0) default=a from rfl,qH hb.1 (by omega)];simp only[aK,pU,mM];exact kF h hk (hN g hr)
  ·have hm:(!decide ((inn p k).Op∈([2]:List Int)))=true:=by simp[ho2]
   rw[Hl fun hh=>ho2 hh.2];simp only[Tr.den,iQ h hk [2] (by simp) ho,aK,fC,hm,bS,fX];exact⟨_,rfl,dP⟩
 ·rw[Hl fun hh=>ho hh.1];simp only[Tr.den,Ab h hk [2] (by simp) ho,aK,fC,lL,bS,fX];exact⟨_,rfl,dP⟩
end
theorem gd1{l:List Int}(h:l=[a]):(((0:Int)<=0/\(0:Int)<(l.length:Int))=True)/\l.getD (0:Int).toNat default=a:=by subst h;exact⟨eH (by simp),rfl⟩
theorem gd2{l:List Int}{b:Int}(h:l=[a,b]):(((0:Int)<=0/\(0:Int)<(l.length:Int))=True)/\(((0:Int)<=1/\(1:Int)<(l.length:Int))=True)/\l.getD (0:Int).toNat default=a/\l.getD (1:Int).toNat default=b:=by subst h;exact⟨eH (by simp),eH (by simp),rfl,rfl⟩
def rl2(p:aE)(k:Nat):Option (List aB):=if (nd p k).Op=1/\(inn p k).Op=3 then some (fY p k [((inn p k).In.getD 0 default,fx p k),((inn p k).In.getD 1 default,fx p k)] [(k:Int),((k+1:Nat):Int)]) else none
section
variable {p:aE} (h:WP p) {k:Nat} (hk:k<p.Nodes.length)
theorem Iq(ho:¬ ((nd p k).Op=1/\(inn p k).Op=3)):rl2 p k=none:=aF ho
theorem aCH(ho:(nd p k).Op=1)(ho2:(inn p k).Op=3):rl2 p k=some (fY p k [((inn p k).In.getD 0 default,fx p k),((inn p k).In.getD 1 default,fx p k)] [(k:Int),((k+1:Nat):Int)]):=aA ⟨ho,ho2⟩
include h hk
theorem in2(ho:(nd p k).Op=1)(ho2:(inn p k).Op=3):∃ a b,(inn p k).In=[a,b]/\(0<=a/\a<(k:Int))/\(0<=b/\b<(k:Int)) /\
  jM p k (fY p k [(a,fx p k),(b,fx p k)] [(k:Int),((k+1:Nat):Int)]):=by
 obtain⟨j,f,c,hc,f1,f3,f4,hw⟩:=inW h hk ho;have hj0:=hc.j0;have hjk:=hc.jk;have hn:=h.n;obtain⟨a,b,ha,c1,c2⟩:=hw.s3 ho2;have hb:=hw.hin a (by rw[ha]; simp);have hb2:=hw.hin b (by rw[ha]; simp);refine⟨a,b,ha,⟨hb.1,by omega⟩,⟨hb2.1,by omega⟩,?_⟩;rw[f1];refine nM h hk hc (by simp) (fun x hx=>?_) (by rw[ha]; rfl) f4 (fun t ht=>?_)
 ·rcases aW.1 hx with rfl | hx
  ·exact⟨hb.1,by show a<_; omega,hc.fB,by show wfE _ (ncA _ a) _; rw[<-c1,<-f4]; exact hc.fw⟩
  ·rw[cE.1 hx];exact⟨hb2.1,by show b<_; omega,hc.fB,by show wfE _ (ncA _ b) _; rw[<-c2,<-f4]; exact hc.fw⟩
 ·have ht2:t<2:=ht
  match t,ht2 with
  | 0,_=>exact Or.inr ⟨0,by simp,rfl,by rw[ha]; rfl⟩
  | 1,_=>exact Or.inr ⟨1,by simp,rfl,by rw[ha]; rfl⟩
theorem c2(m:Int):Qx ⟨p,k,m,nd p k⟩=some ((rl2 p k).bind (uS p k)):=by
 have hn:=h.n;unfold Qx Qg;by_cases ho:(nd p k).Op=1
 ·by_cases ho2:(inn p k).Op=3
  ·obtain⟨a,b,ha,hb,hb2,hN⟩:=in2 h hk ho ho2;rw[aCH ho ho2];have q0:=gd2 ha;have q1:∀ n0,oR ((inn p k).In.getD (0:Int).toNat default) (fx p k) ⟨p,k,m,n0⟩=some (dY a (fx p k) (cl p a)):=fun n0=>by rw[q0.2.2.1]; exact sT hb.1 (by omega) _
   have q2:∀ n0,oR ((inn p k).In.getD (1:Int).toNat default) (fx p k) ⟨p,k,m,n0⟩=some (dY b (fx p k) (cl p b)):=fun n0=>by rw[q0.2.2.2]; exact sT hb2.1 (by omega) _
   simp only[Tr.den,iP h hk m ho,aK,cS,cT,dB ho2,bS,bM (show k<9223372036854775807 by omega),q0.1,q0.2.1,q1,q2,vJ,gP];rw[show (inn p k).In.getD 0 default=a from q0.2.2.1,show (inn p k).In.getD 1 default=b from q0.2.2.2];exact qG h hk hN
  ·rw[Iq fun hh=>ho2 hh.2];simp only[Tr.den,iP h hk m ho,aK,cS,cT,bF ho2,cO,bY];rfl
 ·rw[Iq fun hh=>ho hh.1];simp only[Tr.den,Ah h hk m ho,aK,cV];rfl
theorem r2(m:Int):∃ z,On ⟨p⟩ k m=some z/\RA ((rl2 p k).bind (fin p k)) z:=by
 have hn:=h.n;unfold On Lu;by_cases ho:(nd p k).Op=1
 ·by_cases ho2:(inn p k).Op=3
  ·obtain⟨a,b,ha,hb,hb2,hN⟩:=in2 h hk ho ho2;rw[aCH ho ho2];have hm:(!decide ((inn p k).Op∈([3]:List Int)))=false:=by rw[ho2]; rfl
   have q0:=gd2 ha;have q1:Fm ⟨p⟩ ((inn p k).In.getD (0:Int).toNat default) (fx p k)=some (dY a (fx p k) (cl p a)):=by rw[q0.2.2.1]; exact qH hb.1 (by omega) _
   have q2:Fm ⟨p⟩ ((inn p k).In.getD (1:Int).toNat default) (fx p k)=some (dY b (fx p k) (cl p b)):=by rw[q0.2.2.2]; exact qH hb2.1 (by omega) _
   simp only[Tr.den,iQ h hk [3] (by simp) ho,aK,fC,hm,cO,bY,bS,mI,bM (show k<9223372036854775807 by omega),q0.1,q0.2.1,q1,q2,pU,mM];rw[show (inn p k).In.getD 0 default=a from q0.2.2.1,show (inn p k).In.getD 1 default=b from q0.2.2.2];exact kF h hk hN
  ·have hm:(!decide ((inn p k).Op∈([3]:List Int)))=true:=by simp[ho2]
   rw[Iq fun hh=>ho2 hh.2];simp only[Tr.den,iQ h hk [3] (by simp) ho,aK,fC,hm,bS,fX];exact⟨_,rfl,dP⟩
 ·rw[Iq fun hh=>ho hh.1];simp only[Tr.den,Ab h hk [3] (by simp) ho,aK,fC,lL,bS,fX];exact⟨_,rfl,dP⟩
end
noncomputable def lS (p:aE)(e:aD):Bool:=(aCX p.Funcs e).getD false
theorem oP{p:aE}(h:WP p){nc:Nat}{e:aD}(hB:cC e)(hw:wfE p.Funcs.length nc e):aCX p.Funcs e=some (lS p e):=by obtain⟨y,hy,_⟩:=(aPZ p.Funcs nc e h.f h.fw hB hw).get;rw[lS,hy]; rfl
theorem nE{p:aE}(h:WP p){nc:Nat}{e:aD}(hB:cC e)(hw:wfE p.Funcs.length nc e){k:Int}:Mr e ⟨p,k,m,n0⟩=some (if lS p e=true then none else some ()):=by unfold Mr Mo;simp only[Tr.den,oP h hB hw,aK,cT];cases lS p e <;> rfl
def lM(c:Int):aD:=aD.mk 3 c ⟨#[]⟩ []
theorem Ay(c:Int):cC (lM c):=cC.of (e:=lM c) (by show (0:Nat)<=_; omega) (by show (0:Nat)<=_; omega) fun x hx=>by cases hx
theorem Ie{nf nc:Nat}{f:aD}(hB:cC f)(hw:wfE nf nc f)(hl:jL f<=12){l:List aD}{g:Int->Int}(h:∀ c,c∈cR f->0<=c/\c<(l.length:Int)/\l.getD c.toNat default=lM (g c)):nX f l=some (fF g f):=by unfold nX;rw[aFS hw h];show (if jL (fF g f)<=12 then some (fF g f) else none)=_;rw[aDR (zZ g hB),aGY g hB,<-aDR hB,aA hl]
theorem aEZ{nf nc:Nat}{f:aD}(hw:wfE nf nc f){l:List aD}{c:Int}(hc:c∈cR f)(ho:¬ (0<=c/\c<(l.length:Int))):nX f l=none:=by unfold nX;rw[aCG hw hc ho]; rfl
theorem aDB{nf nc:Nat}{f:aD}(hB:cC f)(hw:wfE nf nc f)(hl:jL f<=12)(ks:List Int):nX f (ks.map lM)=if ((cR f).all fun c=>decide (c<(ks.length:Int)))=true then some (fF (fun c=>ks.getD c.toNat default) f) else none:=by
 by_cases hA:((cR f).all fun c=>decide (c<(ks.length:Int)))=true
 ·rw[aA hA];refine Ie hB hw hl fun c hc=>?_;have h1:=kH hw c hc;have h2:=vD (dO.1 hA c hc);refine⟨h1.1,by rw[hP]; exact h2,?_⟩;rw[eR (l:=ks) (by omega),eR (by rw[hP]; omega),List.getElem_map]
 ·rw[aF hA];have hA':∃ c,c∈cR f/\¬ c<(ks.length:Int):=by
   rcases Classical.em (∃ c,c∈cR f/\¬ c<(ks.length:Int)) with h | h
   ·exact h
   ·exact absurd (dO.2 fun c hc=>cX (Th fun h2=>h ⟨c,hc,h2⟩)) hA
  obtain⟨c,hc,h2⟩:=hA';exact aEZ hw hc (by rw[hP]; exact fun h3=>h2 h3.2)
noncomputable def rl3 (p:aE)(k:Nat):Option (List aB):=
 if (nd p k).Op=1/\lS p (fx p k)=false then
  if (inn p k).Op=5 then (if ((cR (fx p k)).all fun c=>decide (c∈(inn p k).Key))=true then some (fY p k [((inn p k).In.getD 0 default,fx p k)] [(k:Int)]) else none)
  else if (inn p k).Op=4\/(inn p k).Op=8 then (if ((cR (fx p k)).all fun c=>decide (c<((inn p k).Key.length:Int)))=true then some (fY p k [((inn p k).In.getD 0 default,fF (fun c=>(inn p k).Key.getD c.toNat default) (fx p k))] [(k:Int)]) else none)
  else none
 else none
theorem Jl{p:aE}{k:Nat}(ho:¬ ((nd p k).Op=1/\lS p (fx p k)=false)):rl3 p k=none:=aF ho
theorem aFE{p:aE}{k:Nat}(ho:(nd p k).Op=1)(ht:lS p (fx p k)=false)(h5:(inn p k).Op=5):rl3 p k=if ((cR (fx p k)).all fun c=>decide (c∈(inn p k).Key))=true then some (fY p k [((inn p k).In.getD 0 default,fx p k)] [(k:Int)]) else none:=by rw[rl3,aA ⟨ho,ht⟩,aA h5]
theorem aBB{p:aE}{k:Nat}(ho:(nd p k).Op=1)(ht:lS p (fx p k)=false)(h5:(inn p k).Op=4\/(inn p k).Op=8):rl3 p k=if ((cR (fx p k)).all fun c=>decide (c<((inn p k).Key.length:Int)))=true then some (fY p k [((inn p k).In.getD 0 default,fF (fun c=>(inn p k).Key.getD c.toNat default) (fx p k))] [(k:Int)]) else none:=by rw[rl3,aA ⟨ho,ht⟩,aF (by omega),aA h5]
theorem aBG{p:aE}{k:Nat}(h5:(inn p k).Op≠5)(h4:¬ ((inn p k).Op=4\/(inn p k).Op=8)):rl3 p k=none:=by rw[rl3,aF h5,aF h4,ite_self]
section
variable {p:aE} (h:WP p) {k:Nat} (hk:k<p.Nodes.length)
include h hk
theorem fxW(ho:(nd p k).Op=1):∃ nc,cC (fx p k)/\wfE p.Funcs.length nc (fx p k)/\jL (fx p k)<=12/\nc<=1000000000/\nc=(inn p k).Cols.length/\BN (inn p k):=by obtain⟨j,f,c,hc,f1,f3,f4,hw⟩:=inW h hk ho;refine⟨c.length,by rw[f1]; exact hc.fB,by rw[f1]; exact hc.fw,by rw[f1]; exact hc.fl,hc.c2,f4,hw.b⟩
theorem aXQ(ho:(nd p k).Op=1)(h5:(inn p k).Op=5):∃ a,(inn p k).In=[a]/\(0<=a/\a<(k:Int))/\jM p k (fY p k [(a,fx p k)] [(k:Int)]):=by
 obtain⟨j,f,c,hc,f1,f3,f4,hw⟩:=inW h hk ho;have hj0:=hc.j0;have hjk:=hc.jk;obtain⟨a,ha,h2⟩:=hw.s5 h5;have hb:=hw.hin a (by rw[ha]; simp);refine⟨a,ha,⟨hb.1,by omega⟩,?_⟩;refine nM h hk hc (by simp) (fun x hx=>?_) (by rw[ha]; rfl) f4 (fun t ht=>?_)
 ·rw[cE.1 hx];exact⟨hb.1,by show a<_; omega,by rw[f1]; exact hc.fB,by show wfE _ (ncA _ a) _; rw[<-h2,<-f4,f1]; exact hc.fw⟩
 ·have:t=0:=by simp at ht; omega
  subst this;exact Or.inr ⟨0,by simp,rfl,by rw[ha]; rfl⟩
theorem aUI(ho:(nd p k).Op=1)(h5:(inn p k).Op=4\/(inn p k).Op=8):∃ a,(inn p k).In=[a]/\(0<=a/\a<(k:Int)) /\
  (((cR (fx p k)).all fun c=>decide (c<((inn p k).Key.length:Int)))=true->jM p k (fY p k [(a,fF (fun c=>(inn p k).Key.getD c.toNat default) (fx p k))] [(k:Int)])):=by
 obtain⟨j,f,c,hc,f1,f3,f4,hw⟩:=inW h hk ho;have hj0:=hc.j0;have hjk:=hc.jk;obtain⟨a,ha,h2⟩:=hw.s4 h5;have hb:=hw.hin a (by rw[ha]; simp);refine⟨a,ha,⟨hb.1,by omega⟩,fun hA=>?_⟩;refine nM h hk hc (by simp) (fun x hx=>?_) (by rw[ha]; rfl) f4 (fun t ht=>?_)
 ·rw[cE.1 hx];refine⟨hb.1,by show a<_; omega,zZ _ (by rw[f1]; exact hc.fB),Gl (nc:=c.length) (by rw[f1]; exact hc.fw) fun x hx=>?_⟩;have h3:=vD (dO.1 hA x hx);rw[f1]at hx;have h4:=kH hc.fw x hx;exact h2 _ (aR (by omega))
 ·have:t=0:=by simp at ht; omega
  subst this;exact Or.inr ⟨0,by simp,rfl,by rw[ha]; rfl⟩
theorem c3(m:Int):Mu ⟨p,k,m,nd p k⟩=some ((rl3 p k).bind (uS p k)):=by
 unfold Mu Lp;by_cases ho:(nd p k).Op=1
 ·obtain⟨nc,hB,hw,hlv,hn,hnc,hbn⟩:=fxW h hk ho;cases ht:lS p (fx p k) with
  | true=>rw[Jl (by simp[ht])];simp only[Tr.den,iP h hk m ho,aK,cS,nE h hB hw,ht,bS,cV];rfl
  | false=>
   have hk1:=hbn.k;by_cases h5:(inn p k).Op=5
   ·obtain⟨a,ha,hb,hN⟩:=aXQ h hk ho h5;have q0:=gd1 ha;have q1:∀ n0,oR ((inn p k).In.getD (0:Int).toNat default) (fx p k) ⟨p,k,m,n0⟩=some (dY a (fx p k) (cl p a)):=fun n0=>by rw[q0.2]; exact sT hb.1 (by omega) _
    rw[aFE ho ht h5];simp only[Tr.den,iP h hk m ho,aK,cS,nE h hB hw,ht,cO,bY,dB h5,bS,aCW hB hw hn hk1,cT];by_cases hA:((cR (fx p k)).all fun c=>decide (c∈(inn p k).Key))=true
    ·simp only[hA,bS,aK,dN,aD.eta,q0.1,q1,vJ,gP];rw[show (inn p k).In.getD 0 default=a from q0.2];exact qG h hk hN
    ·simp only[hA,cO,bY,aK,fL];rfl
   ·by_cases h48:(inn p k).Op=4\/(inn p k).Op=8
    ·obtain⟨a,ha,hb,hN⟩:=aUI h hk ho h48;have q0:=gd1 ha;have q1:∀ e n0,oR ((inn p k).In.getD (0:Int).toNat default) e ⟨p,k,m,n0⟩=some (dY a e (cl p a)):=fun e n0=>by rw[q0.2]; exact sT hb.1 (by omega) _
     rw[aBB ho ht h48];have hj:(if ((inn p k).Op==4)=true then some ((inn p k).Op==4) else some ((inn p k).Op==8))=some true:=by
      by_cases h4:(inn p k).Op=4
      ·simp only[dB h4,bS]
      ·simp only[bF h4,cO,bY,dB (h48.resolve_left h4)]
     simp only[Tr.den,iP h hk m ho,aK,cS,nE h hB hw,ht,cO,bY,bF h5,hj,bS,aFD hB hw hn,cT];by_cases hA:((cR (fx p k)).all fun c=>decide (c<((inn p k).Key.length:Int)))=true
     ·have hg:Gf (fx p k) (inn p k)=some (fF (fun c=>(inn p k).Key.getD c.toNat default) (fx p k)):=aBN hB hw fun c hc=>⟨(kH hw c hc).1,vD (dO.1 hA c hc)⟩;simp only[hA,bS,aK,hg,dN,aD.eta,q0.1,q1,vJ,gP];rw[show (inn p k).In.getD 0 default=a from q0.2];exact qG h hk (hN hA)
     ·simp only[hA,cO,bY,aK,fL];rfl
    ·rw[aBG h5 h48];have h4:(inn p k).Op≠4:=fun h=>h48 (Or.inl h);have h8:(inn p k).Op≠8:=fun h=>h48 (Or.inr h);simp only[Tr.den,iP h hk m ho,aK,cS,nE h hB hw,ht,cO,bY,bF h5,bF h4,bF h8,cV,fL];rfl
 ·rw[Jl fun hh=>ho hh.1];simp only[Tr.den,Ah h hk m ho,aK,cV];rfl
omit h hk in
theorem bBM{r1:aB×aD×Bool}(hn:r1.1.Key.length<=1000000000):bZ (fun s=>(oB r1 s).den) ([],0)=some (.inl (r1.1.Key.map lM)):=by
 have:=eO (st:=fun v i=>(v,i)) (bd:=fun s=>(oB r1 s).den) lM r1.1.Key [] (r:=fun v=>.inl v) (by omega) (fun v i hi hv=>?_) (fun v=>?_)
 ·simpa using this
 ·unfold oB;have e:aVR (r1.1.Key.getD i default)=some (lM (r1.1.Key.getD i default)):=rfl;simp only[Tr.den,aJ,e,aK];rw[aA (bU (by omega)),aA (by omega),aA (by simp at hv ⊢; omega)]
 ·unfold oB;simp only[Tr.den];rw[aF (bP (by omega))]
theorem r3(m:Int):∃ z,Ql ⟨p⟩ k m=some z/\RA ((rl3 p k).bind (fin p k)) z:=by
 unfold Ql Mz;by_cases ho:(nd p k).Op=1
 ·obtain⟨nc,hB,hw,hlv,hn,hnc,hbn⟩:=fxW h hk ho;have hk1:=hbn.k;by_cases hm:(inn p k).Op=4\/(inn p k).Op=5\/(inn p k).Op=8
  ·have hmm:(!decide ((inn p k).Op∈([4,5,8]:List Int)))=false:=by simp; omega
   cases ht:lS p (fx p k) with
   | true=>rw[Jl (by simp[ht])];simp only[Tr.den,iQ h hk [4,5,8] (by simp) ho,aK,hmm,cO,bY,oP h hB hw,ht,bS,fX];exact⟨_,rfl,dP⟩
   | false=>
    by_cases h5:(inn p k).Op=5
    ·obtain⟨a,ha,hb,hN⟩:=aXQ h hk ho h5;have q0:=gd1 ha;have q1:Fm ⟨p⟩ ((inn p k).In.getD (0:Int).toNat default) (fx p k)=some (dY a (fx p k) (cl p a)):=by rw[q0.2]; exact qH hb.1 (by omega) _
     obtain⟨r,e1,e2,e3⟩:=(tF (fx p k) hB hw hn).get;rw[aFE ho ht h5];have w0:bZ (fun s=>(rQ (gJ (inn p k) (inn p k).In (nd p k).Cols,fx p k,decide ((inn p k).Op∈([4,5,8]:List Int))) r s).den) 0=some (if (r.all fun c=>decide (c∈(inn p k).Key))=true then .inl () else .inr (⟨[],[]⟩,1)):=by
      refine jV (fun c=>decide (c∈(inn p k).Key)) r (by omega) (fun i hi=>?_) ?_
      ·unfold rQ;simp only[Tr.den,aJ,mK,As hk1,aK,fX];rw[aA (bU (by omega)),aA (by omega)];cases decide (r.getD i default∈(inn p k).Key) <;> rfl
      ·unfold rQ;simp only[Tr.den];rw[aF (bP (by omega))]
     simp only[Tr.den,iQ h hk [4,5,8] (by simp) ho,aK,hmm,cO,bY,oP h hB hw,ht,mO,dB h5,bS,e1,w0,tZ e3];by_cases hA:((cR (fx p k)).all fun c=>decide (c∈(inn p k).Key))=true
     ·simp only[hA,bS,dN,mI,q0.1,q1,aK,pU,mM,fC];rw[show (inn p k).In.getD 0 default=a from q0.2];exact kF h hk hN
     ·simp only[hA,cO,bY,fL];exact⟨_,rfl,dP⟩
    ·have h48:(inn p k).Op=4\/(inn p k).Op=8:=by omega
     obtain⟨a,ha,hb,hN⟩:=aUI h hk ho h48;have q0:=gd1 ha;have q1:∀ e,Fm ⟨p⟩ ((inn p k).In.getD (0:Int).toNat default) e=some (dY a e (cl p a)):=fun e=>by rw[q0.2]; exact qH hb.1 (by omega) _
     rw[aBB ho ht h48];simp only[Tr.den,iQ h hk [4,5,8] (by simp) ho,aK,hmm,cO,bY,oP h hB hw,ht,mO,bF h5,bBM (r1:=(gJ (inn p k) (inn p k).In (nd p k).Cols,fx p k,decide ((inn p k).Op∈([4,5,8]:List Int)))) hk1,dN];have q2:aHK (fx p k) ((inn p k).Key.map lM)=some (ofM (if ((cR (fx p k)).all fun c=>decide (c<((inn p k).Key.length:Int)))=true then some (fF (fun c=>(inn p k).Key.getD c.toNat default) (fx p k)) else none)):=by rw[Em hB (fun x hx=>by obtain⟨c,_,rfl⟩:=dW.1 hx; exact Ay c),aDB hB hw hlv]
     simp only[mK,q2,aK];by_cases hA:((cR (fx p k)).all fun c=>decide (c<((inn p k).Key.length:Int)))=true
     ·simp only[hA,bS,aCL,jF,cO,bY,mI,q0.1,q1,aK,pU,mM,fC];rw[show (inn p k).In.getD 0 default=a from q0.2];exact kF h hk (hN hA)
     ·simp only[hA,cO,bY,aYM,lL,bS,fX,aK];exact⟨_,rfl,dP⟩
  ·have hmm:(!decide ((inn p k).Op∈([4,5,8]:List Int)))=true:=by simp; omega
   rw[aBG (by omega) (by omega)];simp only[Tr.den,iQ h hk [4,5,8] (by simp) ho,aK,hmm,bS,fX];exact⟨_,rfl,dP⟩
 ·rw[Jl fun hh=>ho hh.1];simp only[Tr.den,Ab h hk [4,5,8] (by simp) ho,aK,lL,bS,fX];exact⟨_,rfl,dP⟩
end
def eY(a n:Nat):List aD:=(List.range n).map fun i=>lM ((a+i:Nat):Int)
theorem eP(a n:Nat):(eY a n).length=n:=by simp[eY]
theorem wH{a n:Nat}(h:i<n):(eY a n).getD i default=lM ((a+i:Nat):Int):=by unfold eY;rw[eR (by simpa using h),List.getElem_map,List.getElem_range]
theorem Wa{a n:Nat}:∀ x,x∈eY a n->cC x:=fun x hx=>by obtain⟨c,_,rfl⟩:=dW.1 hx;exact Ay _
theorem jX{n k:Nat}(h:k<n):(List.range n).getD k default=k:=by rw[eR (by simpa using h),List.getElem_range]
theorem aWQ(c:Int):aVR c=some (lM c):=id rfl
theorem aIY{a n:Nat}(h:a+n<=1000000000){b:Int}(hb:b=((a+n:Nat):Int)):aEH (a:Int) b=some (eY a n):=by
 subst hb;unfold aEH aRZ;simp only[Tr.den];have:=eO (S:=List aD×Int) (st:=fun v i=>(v,(a:Int)+i)) (bd:=fun s=>(yL ((a+n:Nat):Int) s).den) (fun i=>lM ((a+i:Nat):Int)) (List.range n) [] (r:=fun v=>.inl v) (by simp; omega) (fun v i hi hv=>?_) (fun v=>?_)
 ·rw[show ((a:Int)+0)=a by omega]at this;rw[this];rfl
 ·have hi':i<n:=by simpa using hi
  unfold yL;simp only[Tr.den,aWQ,aK];rw[aA (bU (by omega)),aA (by simp at hv ⊢; omega),jX hi',cQ (n:=(a:Int)+i+1) (by omega) (by omega),bM (by omega),show ((a:Int)+(i:Int))=((a+i:Nat):Int) by omega,show (((a+i:Nat):Int)+1)=(a:Int)+((i+1:Nat):Int) by omega]
 ·unfold yL;simp only[Tr.den,lG];rw[aF (bP (by omega))]
theorem zJ{a n:Nat}(h:a+n<=1000000000){b:Int}(hb:b=((a+n:Nat):Int)):vH (a:Int) b=some (eY a n):=by rw[<-aIY h hb];unfold vH aEH;rfl
def iM(p:aE)(k:Nat):Nat:=(cl p ((inn p k).In.getD 0 default)).length
def iR(p:aE)(k:Nat)(m c:Int):Bool:=decide (c<(iM p k:Int))==(m==0)
noncomputable def rl4 (p:aE)(k:Nat)(m:Int):Option (List aB):=
 if (nd p k).Op=1/\lS p (fx p k)=false/\((m=0/\((inn p k).Op=6\/(inn p k).Op=7))\/(m=1/\(inn p k).Op=6))/\(cR (fx p k)).all (iR p k m)=true then
  (if m=1 then some (fY p k [((inn p k).In.getD 1 default,fF (fun c=>c-(iM p k:Int)) (fx p k))] [(inn p k).In.getD 0 default,(k:Int)])
   else some (fY p k [((inn p k).In.getD 0 default,fx p k)] [(k:Int),(inn p k).In.getD 1 default]))
 else none
theorem qL{p:aE}{k:Nat}(ho:¬ ((nd p k).Op=1/\lS p (fx p k)=false/\((m=0/\((inn p k).Op=6\/(inn p k).Op=7))\/(m=1/\(inn p k).Op=6))/\(cR (fx p k)).all (iR p k m)=true)):rl4 p k m=none:=aF ho
theorem aFU{p:aE}{k:Nat}(ho:(nd p k).Op=1)(ht:lS p (fx p k)=false)(h6:(inn p k).Op=6\/(inn p k).Op=7)(hA:(cR (fx p k)).all (iR p k 0)=true):rl4 p k 0=some (fY p k [((inn p k).In.getD 0 default,fx p k)] [(k:Int),(inn p k).In.getD 1 default]):=by rw[rl4,aA ⟨ho,ht,Or.inl ⟨rfl,h6⟩,hA⟩,aF (by omega)]
theorem aDQ{p:aE}{k:Nat}(ho:(nd p k).Op=1)(ht:lS p (fx p k)=false)(h6:(inn p k).Op=6)(hA:(cR (fx p k)).all (iR p k 1)=true):rl4 p k 1=some (fY p k [((inn p k).In.getD 1 default,fF (fun c=>c-(iM p k:Int)) (fx p k))] [(inn p k).In.getD 0 default,(k:Int)]):=by rw[rl4,aA ⟨ho,ht,Or.inr ⟨rfl,h6⟩,hA⟩,aA rfl]
section
variable {p:aE} (h:WP p) {k:Nat} (hk:k<p.Nodes.length)
include h hk
theorem in4(ho:(nd p k).Op=1)(h6:(inn p k).Op=6\/(inn p k).Op=7):∃ a b,(inn p k).In=[a,b]/\(0<=a/\a<(k:Int))/\(0<=b/\b<(k:Int))/\iM p k=(cl p a).length /\
  (cl p a).length+(cl p b).length=(inn p k).Cols.length/\(inn p k).Cols.length<=1000000000 /\
  ((cR (fx p k)).all (iR p k 0)=true->jM p k (fY p k [(a,fx p k)] [(k:Int),b])) /\
  ((cR (fx p k)).all (iR p k 1)=true->jM p k (fY p k [(b,fF (fun c=>c-(iM p k:Int)) (fx p k))] [a,(k:Int)])):=by
 obtain⟨j,f,c,hc,f1,f3,f4,hw⟩:=inW h hk ho;have hj0:=hc.j0;have hjk:=hc.jk;obtain⟨a,b,ha,h2⟩:=hw.s6 h6;have hb:=hw.hin a (by rw[ha]; simp);have hb2:=hw.hin b (by rw[ha]; simp);have hL:iM p k=(cl p a).length:=by rw[iM,ha]; rfl
 have hcc:=hc.c2;refine⟨a,b,ha,⟨hb.1,by omega⟩,⟨hb2.1,by omega⟩,hL,h2.symm,by omega,fun hA=>?_,fun hA=>?_⟩
 ·refine nM h hk hc (by simp) (fun x hx=>?_) (by rw[ha]; rfl) f4 (fun t ht=>?_)
  ·rw[cE.1 hx];refine⟨hb.1,by show a<_; omega,by rw[f1]; exact hc.fB,?_⟩;have hcol:∀ c,c∈cR (fx p k)->0<=id c/\id c<((cl p a).length:Int):=fun x hx=>by have h3:=dO.1 hA x hx;rw[f1]at hx;have h4:=kH hc.fw x hx;simp only[iR,BEq.rfl,beq_true,pI,hL]at h3;exact⟨h4.1,h3⟩
   have:=Gl (nc:=c.length) (by rw[f1]; exact hc.fw) hcol;have e:∀ e:aD,fF id e=e:=by
    intro e;have:∀ n (e:aD),SizeOf.sizeOf e<=n->fF id e=e:=by
     intro n
     induction n with
     | zero=>intro e he; cases e; simp at he
     | succ n ih=>
      intro e he;rw[pF];have hm:e.Args.map (fF id)=e.Args:=by
       conv=>rhs; rw[<-List.map_id e.Args]
       exact List.map_congr_left fun x hx=>ih x (by have:=dQ hx; omega)
      rw[hm];have:(if e.Op=3 then id e.N else e.N)=e.N:=by split <;> rfl
      rw[this,aD.eta]
    exact this _ e (fJ _)
   rw[e]at this;exact this
  ·have ht2:t<2:=ht
   match t,ht2 with
   | 0,_=>exact Or.inr ⟨0,by simp,rfl,by rw[ha]; rfl⟩
   | 1,_=>exact Or.inl (by rw[ha]; rfl)
 ·refine nM h hk hc (by simp) (fun x hx=>?_) (by rw[ha]; rfl) f4 (fun t ht=>?_)
  ·rw[cE.1 hx];refine⟨hb2.1,by show b<_; omega,zZ _ (by rw[f1]; exact hc.fB),?_⟩;refine Gl (nc:=c.length) (by rw[f1]; exact hc.fw) fun x hx=>?_;have h3:=dO.1 hA x hx;rw[f1]at hx;have h4:=kH hc.fw x hx;have h5:¬ x<((cl p a).length:Int):=by rw[iR,hL]at h3;intro hlt;rw[cX hlt]at h3;exact absurd h3 (by decide)
   rw[hL];have e1:ncA p.Nodes a=(cl p a).length:=rfl;constructor
   ·omega
   ·show x-((cl p a).length:Int)<((ncA p.Nodes b:Nat):Int);omega
  ·have ht2:t<2:=ht
   match t,ht2 with
   | 0,_=>exact Or.inl (by rw[ha]; rfl)
   | 1,_=>exact Or.inr ⟨0,by simp,rfl,by rw[ha]; rfl⟩
theorem c4(m:Int):Rg ⟨p,k,m,nd p k⟩=some ((rl4 p k m).bind (uS p k)):=by
 unfold Rg Lm;by_cases ho:(nd p k).Op=1
 ·obtain⟨nc,hB,hw,hlv,hn,hnc,hbn⟩:=fxW h hk ho;cases ht:lS p (fx p k) with
  | true=>rw[qL (by simp[ht])];simp only[Tr.den,iP h hk m ho,aK,cS,nE h hB hw,ht,bS,cV];rfl
  | false=>
   by_cases hc:(m=0/\((inn p k).Op=6\/(inn p k).Op=7))\/(m=1/\(inn p k).Op=6)
   ·have h6:(inn p k).Op=6\/(inn p k).Op=7:=by omega
    obtain⟨a,b,ha,hb,hb2,hL,hsum,hle,hN0,hN1⟩:=in4 h hk ho h6;have q0:=gd2 ha;have hE:=Ey (p:=p) (k:=k) (m:=m) (n0:=nd p k) (n:=inn p k) (i:=0) (x:=a) (by rw[ha]; simp) q0.2.2.1 hb.1 (by omega);have hE':wJ (inn p k) 0 ⟨p,k,m,nd p k⟩=some (p.Nodes.getD a.toNat default):=hE;have hl2:((p.Nodes.getD a.toNat default).Cols.length:Int)=(iM p k:Int):=by rw[hL]; rfl
    have hs:(fun c=>decide (c<(iM p k:Int))==(m==0))=iR p k m:=rfl;have hI:Tm (inn p k).In=some [a,b]:=by rw[ha]; exact qZ _ (by simp)
    have q73:=aIR (p:=p) (k:=k) (m:=m) (nd:=nd p k) (a:=(iM p k:Int)) hB hw hn;rw[hs]at q73;rcases hc with⟨hm,h67⟩ | ⟨hm,h6'⟩
    ·subst hm;have q1:∀ e,oR ((inn p k).In.getD (0:Int).toNat default) e ⟨p,k,0,nd p k⟩=some (dY a e (cl p a)):=fun e=>by rw[q0.2.2.1]; exact sT hb.1 (by omega) _
     have hpre2:(if ((inn p k).Op==6)=true then (some (Sum.inl ()):Option (Unit⊕Option (List aB))) else if ((inn p k).Op==7)=true then some (Sum.inl ()) else some (Sum.inr none))=some (Sum.inl ()):=by
      rcases h67 with h' | h'
      ·rw[aA (dB h')]
      ·rw[aF (eC (by omega)),aA (dB h')]
     have b0:((0:Int)==0)=true:=rfl;have b1:((0:Int)==1)=false:=rfl;have hd0:((0:Int)<=0/\(0:Int)<(([a,b]:List Int).length:Int))=True:=eH (by simp);have hd1:((0:Int).toNat<([a,b]:List Int).length)=True:=eH (by simp);have hd2:((([((0:Int).toNat,(k:Int))]:List (Nat×Int)).all fun p=>decide (p.1<([a,b]:List Int).length))=true)=True:=eH (by simp);by_cases hA:(cR (fx p k)).all (iR p k 0)=true
     ·rw[aFU ho ht h67 hA];simp only[Tr.den,iP h hk 0 ho,aK,cS,cT,nE h hB hw,ht,cO,bY,b0,b1,bS,cV,hpre2,dN,hE',hl2,q73,hA,hI,aD.eta,hd0,hd1,hd2,q0.1,q1,vJ,gP];rw[show (inn p k).In.getD 0 default=a from q0.2.2.1,show (inn p k).In.getD 1 default=b from q0.2.2.2];exact Tx h hk (hN0 hA)
     ·rw[qL (fun hh=>hA hh.2.2.2)];simp only[Tr.den,iP h hk 0 ho,aK,cS,cT,nE h hB hw,ht,cO,bY,b0,b1,bS,cV,hpre2,dN,hE',hl2,q73,hA];rfl
    ·subst hm;have q1:∀ e,oR ((inn p k).In.getD (1:Int).toNat default) e ⟨p,k,1,nd p k⟩=some (dY b e (cl p b)):=fun e=>by rw[q0.2.2.2]; exact sT hb2.1 (by omega) _
     have b0:((1:Int)==0)=false:=rfl;have b1:((1:Int)==1)=true:=rfl;have hd0:((0:Int)<=1/\(1:Int)<(([a,b]:List Int).length:Int))=True:=eH (by simp);have hd1:((1:Int).toNat<([a,b]:List Int).length)=True:=eH (by simp);have hd2:((([((1:Int).toNat,(k:Int))]:List (Nat×Int)).all fun p=>decide (p.1<([a,b]:List Int).length))=true)=True:=eH (by simp);by_cases hA:(cR (fx p k)).all (iR p k 1)=true
     ·have hg:Ew (fx p k) (iM p k:Int)=some (fF (fun c=>c-(iM p k:Int)) (fx p k)):=aEE hB hw ⟨⟨by omega,by omega⟩,fun c hc=>by have:=kH hw c hc; omega⟩;rw[aDQ ho ht h6' hA];simp only[Tr.den,iP h hk 1 ho,aK,cS,cT,nE h hB hw,ht,cO,bY,b0,b1,bS,cV,dB h6',dN,hE',hl2,q73,hA,hg,hI,aD.eta,hd0,hd1,hd2,q0.2.1,q1,vJ,gP];rw[show (inn p k).In.getD 0 default=a from q0.2.2.1,show (inn p k).In.getD 1 default=b from q0.2.2.2];exact Tx h hk (hN1 hA)
     ·rw[qL (fun hh=>hA hh.2.2.2)];simp only[Tr.den,iP h hk 1 ho,aK,cS,cT,nE h hB hw,ht,cO,bY,b0,b1,bS,cV,dB h6',dN,hE',hl2,q73,hA];rfl
   ·rw[qL (fun hh=>hc hh.2.2.1)];have hpre:(if (m==0)=true then if ((inn p k).Op==6)=true then (some (Sum.inl ()):Option (Unit⊕Option (List aB))) else if ((inn p k).Op==7)=true then some (Sum.inl ()) else (if (m==1)=true then (if ((inn p k).Op==6)=true then some (Sum.inl ()) else some (Sum.inr none)) else some (Sum.inr none)) else (if (m==1)=true then (if ((inn p k).Op==6)=true then some (Sum.inl ()) else some (Sum.inr none)) else some (Sum.inr none)))=some (Sum.inr none):=by
     by_cases m0:m=0
     ·rw[aA (dB m0),aF (eC (by omega)),aF (eC (by omega)),aF (eC (by omega))]
     ·rw[aF (eC m0)];by_cases m1:m=1
      ·rw[aA (dB m1),aF (eC (by omega))]
      ·rw[aF (eC m1)]
    simp only[Tr.den,iP h hk m ho,aK,cS,cT,nE h hB hw,ht,cO,bY,bS,cV,hpre,fL];rfl
 ·rw[qL fun hh=>ho hh.1];simp only[Tr.den,Ah h hk m ho,aK,cV];rfl
theorem r4(m:Int):∃ z,Kn ⟨p⟩ k m=some z/\RA ((rl4 p k m).bind (fin p k)) z:=by
 unfold Kn Lk;by_cases ho:(nd p k).Op=1
 ·obtain⟨nc,hB,hw,hlv,hn,hnc,hbn⟩:=fxW h hk ho;by_cases h6:(inn p k).Op=6\/(inn p k).Op=7
  ·have hmm:(!decide ((inn p k).Op∈([6,7]:List Int)))=false:=by simp; omega
   obtain⟨a,b,ha,hb,hb2,hL,hsum,hle,hN0,hN1⟩:=in4 h hk ho h6;have hlk:k<=p.Nodes.length:=by omega
   have q0:=gd2 ha;have hj:(if decide (m<0)=true then some true else if decide (m>1)=true then some true else if (m==1)=true then (if ((inn p k).Op==7)=true then some true else some (lS p (fx p k))) else some (lS p (fx p k))) =
     some (!(decide (lS p (fx p k)=false/\((m=0/\((inn p k).Op=6\/(inn p k).Op=7))\/(m=1/\(inn p k).Op=6))))):=by
    by_cases m0:m<0
    ·rw[aA (bU m0),eI (by omega)]; rfl
    ·rw[aF (bP m0)];by_cases m1:m>1
     ·rw[aA (bU m1),eI (by omega)]; rfl
     ·rw[aF (bP m1)];by_cases me:m=1
      ·rw[aA (dB me)];by_cases h7:(inn p k).Op=7
       ·rw[aA (dB h7),eI (by omega)]; rfl
       ·rw[aF (eC h7)];cases lS p (fx p k)
        ·rw[cX ⟨rfl,Or.inr ⟨me,by omega⟩⟩]; rfl
        ·rw[eI (by simp)]; rfl
      ·rw[aF (eC me)];cases lS p (fx p k)
       ·rw[cX ⟨rfl,Or.inl ⟨by omega,h6⟩⟩]; rfl
       ·rw[eI (by simp)]; rfl
   by_cases hc:lS p (fx p k)=false/\((m=0/\((inn p k).Op=6\/(inn p k).Op=7))\/(m=1/\(inn p k).Op=6))
   ·rw[cX hc]at hj;obtain⟨r,e1,e2,e3⟩:=(tF (fx p k) hB hw hn).get;have g1:(0<=(inn p k).In.getD (0:Int).toNat default/\(inn p k).In.getD (0:Int).toNat default<(p.Nodes.length:Int))=True:=eH (by rw[q0.2.2.1]; omega);have g2:(0<=(inn p k).In.getD (1:Int).toNat default/\(inn p k).In.getD (1:Int).toNat default<(p.Nodes.length:Int))=True:=eH (by rw[q0.2.2.2]; omega);have la:((p.Nodes.getD ((inn p k).In.getD (0:Int).toNat default).toNat default).Cols.length)=iM p k:=rfl;have lb:((p.Nodes.getD ((inn p k).In.getD (1:Int).toNat default).toNat default).Cols.length)=(cl p b).length:=by rw[q0.2.2.2]; rfl
    have w0:bZ (fun s=>(rP ⟨p⟩ m (gJ (inn p k) (inn p k).In (nd p k).Cols,fx p k,decide ((inn p k).Op∈([6,7]:List Int))) r s).den) 0=some (if (r.all (iR p k m))=true then .inl () else .inr (⟨[],[]⟩,1)):=by
     refine jV (iR p k m) r (by omega) (fun i hi=>?_) ?_
     ·unfold rP;simp only[Tr.den,aJ,mI,la,aK,fX];rw[aA (bU (by omega)),aA (by omega)];have:(decide (r.getD i default>=(iM p k:Int))==(m==1))=iR p k m (r.getD i default):=by rw[kU];simp only[iR,Bool.beq_eq_decide_eq,pI,decide_eq_decide];omega
      rw[this];cases iR p k m (r.getD i default) <;> rfl
     ·unfold rP;simp only[Tr.den];rw[aF (bP (by omega))]
    have all3:=tZ (p:=iR p k m) e3;rcases hc.2 with⟨hm,h67⟩ | ⟨hm,h6'⟩
    ·subst hm;have b1:((0:Int)==1)=false:=rfl;have q1:∀ e,Fm ⟨p⟩ ((inn p k).In.getD (0:Int).toNat default) e=some (dY a e (cl p a)):=fun e=>by rw[q0.2.2.1]; exact qH hb.1 (by omega) _
     by_cases hA:(cR (fx p k)).all (iR p k 0)=true
     ·rw[aFU ho hc.1 h67 hA];simp only[Tr.den,iQ h hk [6,7] (by simp) ho,aK,hmm,cO,bY,oP h hB hw,show decide ((0:Int)<0)=false from rfl,show decide ((0:Int)>1)=false from rfl,hc.1,mI,q0.1,q0.2.1,g1,g2,bS,e1,w0,all3,hA,dN,b1,q1,pU,mM,fC];rw[show (inn p k).In.getD 0 default=a from q0.2.2.1,q0.2.2.2,show (inn p k).In.getD 1 default=b from q0.2.2.2];exact kF h hk (hN0 hA)
     ·rw[qL (fun hh=>hA hh.2.2.2)];simp only[Tr.den,iQ h hk [6,7] (by simp) ho,aK,hmm,cO,bY,oP h hB hw,mO,hj,jF,mI,q0.1,q0.2.1,g1,g2,bS,e1,w0,all3,hA,fL];exact⟨_,rfl,dP⟩
    ·subst hm;have b1:((1:Int)==1)=true:=rfl;have q1:∀ e,Fm ⟨p⟩ ((inn p k).In.getD (1:Int).toNat default) e=some (dY b e (cl p b)):=fun e=>by rw[q0.2.2.2]; exact qH hb2.1 (by omega) _
     have z0:((0:Nat):Int)=0:=rfl;have qa:vH 0 (iM p k:Int)=some (eY 0 (iM p k)):=zJ (a:=0) (by omega) (by omega);have qb:aEH 0 ((cl p b).length:Int)=some (eY 0 (cl p b).length):=aIY (a:=0) (by omega) (by omega);by_cases hA:(cR (fx p k)).all (iR p k 1)=true
     ·have hr:nX (fx p k) (eY 0 (iM p k)++eY 0 (cl p b).length)=some (fF (fun c=>c-(iM p k:Int)) (fx p k)):=by
       refine Ie hB hw hlv fun c hcc=>?_;have h4:=kH hw c hcc;have h3:=dO.1 hA c hcc;have h5:¬ c<(iM p k:Int):=by rw[iR]at h3;intro hlt;rw[cX hlt]at h3;exact absurd h3 (by decide)
       refine⟨h4.1,by rw[cY,eP,eP]; omega,?_⟩;rw[cG,eG (by rw[eP]; omega),<-cG,eP,wH (by omega)]
       congr 1
       omega
      have q9:aHK (fx p k) (eY 0 (iM p k)++eY 0 (cl p b).length)=some (fF (fun c=>c-(iM p k:Int)) (fx p k),true):=by rw[Em hB (fun x hx=>by rcases dZ.1 hx with hx | hx <;> exact Wa x hx),hr]; rfl
      have g3:(((eY 0 (iM p k)).length+(eY 0 (cl p b).length).length)*56<=140737488355328)=True:=eH (by rw[eP,eP]; omega);rw[aDQ ho hc.1 h6' hA];simp only[Tr.den,iQ h hk [6,7] (by simp) ho,aK,hmm,cO,bY,oP h hB hw,mO,bF (show (inn p k).Op≠7 by omega),show decide ((1:Int)<0)=false from rfl,show decide ((1:Int)>1)=false from rfl,hc.1,mI,q0.1,q0.2.1,g1,g2,bS,e1,w0,all3,hA,dN,b1,la,lb,qa,qb,g3,q9,q1,pU,mM,fC];rw[q0.2.2.1,show (inn p k).In.getD 0 default=a from q0.2.2.1,show (inn p k).In.getD 1 default=b from q0.2.2.2];exact kF h hk (hN1 hA)
     ·rw[qL (fun hh=>hA hh.2.2.2)];simp only[Tr.den,iQ h hk [6,7] (by simp) ho,aK,hmm,cO,bY,oP h hB hw,mO,hj,jF,mI,q0.1,q0.2.1,g1,g2,bS,e1,w0,all3,hA,fL];exact⟨_,rfl,dP⟩
   ·rw[eI hc]at hj;rw[qL (fun hh=>hc ⟨hh.2.1,hh.2.2.1⟩)];simp only[Tr.den,iQ h hk [6,7] (by simp) ho,aK,hmm,cO,bY,oP h hB hw,mO,hj,lL,bS,fX];exact⟨_,rfl,dP⟩
  ·have hmm:(!decide ((inn p k).Op∈([6,7]:List Int)))=true:=by simp; omega
   rw[qL (fun hh=>h6 (by omega))];simp only[Tr.den,iQ h hk [6,7] (by simp) ho,aK,hmm,bS,fX];exact⟨_,rfl,dP⟩
 ·rw[qL fun hh=>ho hh.1];simp only[Tr.den,Ab h hk [6,7] (by simp) ho,aK,lL,bS,fX];exact⟨_,rfl,dP⟩
end
theorem Vz{p:aE}(h:WP p){k:Nat}(hk:k<p.Nodes.length):BN (nd p k):=(h.w k hk).b
def Ik(n:aB):aB:=aB.mk n.Op n.In n.Source n.Schema n.Exprs 0 n.Step 0 n.Key n.Key2 n.Before n.After n.Keep n.Aggs n.Seq n.Cols
def xG(n:aB):List Int:=(List.range n.Key.length).map fun i:Nat=>(i:Int)
def aGL(n:aB)(j:Nat):cD:=cD.mk (if (n.Aggs.getD j default).Kind=0 then 1 else (n.Aggs.getD j default).Kind) (((n.Key.length:Int)+1)+(j:Int)) (n.Aggs.getD j default).Name
def Ip(n:aB):List cD:=(List.range n.Aggs.length).map (aGL n)
def Jk(n:aB)(k:Int):aB:=aB.mk n.Op [k] n.Source n.Schema n.Exprs n.Kind n.Size n.Step (xG n) n.Key2 n.Before n.After n.Keep (Ip n) n.Seq n.Cols
def rl5(p:aE)(k:Nat):Option (List aB):=if (nd p k).Op=4/\(nd p k).Kind=1/\(nd p k).Step<(nd p k).Size then some [Ik (nd p k),Jk (nd p k) k] else none
theorem aFC{p:aE}{k:Nat}(h:¬ ((nd p k).Op=4/\(nd p k).Kind=1/\(nd p k).Step<(nd p k).Size)):rl5 p k=none:=aF h
theorem aHU{p:aE}{k:Nat}(h:(nd p k).Op=4/\(nd p k).Kind=1/\(nd p k).Step<(nd p k).Size):rl5 p k=some [Ik (nd p k),Jk (nd p k) k]:=aA h
theorem aGN{nf:Nat}{nc:Int->Nat}{i:Int}(ho:n.Op=4)(hb:BN n)(hi:n.In=[j])(h0:0<=j/\j<i)(he:n.Exprs=[])(hk:∀ c,c∈n.Key->0<=c/\c<(nc j:Int))(hl:n.Key.length<=n.Cols.length):WN nf nc i n where
 b:=hb
 hin:=fun x hx=>by rw[hi]at hx; rw[cE.1 hx]; exact h0
 ex:=fun e h=>by rw[he]at h; cases h
 s1:=fun h=>by omega
 s2:=fun h=>by omega
 s3:=fun h=>by omega
 s4:=fun _=>⟨j,hi,hk⟩
 s4k:=fun _=>hl
 s5:=fun h=>by omega
 s6:=fun h=>by omega
 e0:=fun _ _=>he
section
variable {p:aE} (h:WP p) {k:Nat} (hk:k<p.Nodes.length)
include h hk
theorem aVG(ho:(nd p k).Op=4):jM p k [Ik (nd p k),Jk (nd p k) k]:=by
 have hw:WN p.Funcs.length (ncA p.Nodes) k (nd p k):=h.w k hk;have hb:=hw.b;obtain⟨j,h1,h2⟩:=hw.s4 (Or.inl ho);have hkl:=hw.s4k ho;have hj:=hw.hin j (by rw[h1]; simp);have he:=hw.e0 (by omega) (by omega);refine⟨by simp,fun i hi=>?_,Or.inr ⟨by simp,?_⟩⟩
 ·have hi2:i<2:=hi
  match i,hi2 with
  | 0,_=>refine aGN (n:=Ik (nd p k)) ho ⟨hb.i,hb.e,hb.eB,hb.k,hb.k2,hb.a,hb.s,hb.sB,hb.c⟩ h1 ⟨hj.1,by omega⟩ he (fun c hc=>?_) hkl;rw[vV (by omega)]; exact h2 c hc
  | 1,_=>
   have hlk:(xG (nd p k)).length=(nd p k).Key.length:=by simp[xG]
   refine aGN (n:=Jk (nd p k) k) (j:=(k:Int)) ho ⟨by show (1:Nat)<=_; omega,hb.e,hb.eB,by show (xG (nd p k)).length<=_; rw[hlk]; exact hb.k,hb.k2,by show (Ip (nd p k)).length<=_; simp only[Ip,hP,lG]; exact hb.a,hb.s,hb.sB,hb.c⟩ rfl ⟨by omega,by omega⟩ he (fun c hc=>?_) ?_
   ·have hc':c∈xG (nd p k):=hc;obtain⟨x,hx,rfl⟩:=dW.1 hc';rw[sC]at hx;have e:ncL p.Nodes k [Ik (nd p k),Jk (nd p k) k] (k:Int)=(nd p k).Cols.length:=by rw[ncL,aF (by omega),aJ,Ao]; rfl
    rw[e];omega
   ·show (xG (nd p k)).length<=(nd p k).Cols.length;rw[hlk]; exact hkl
 ·show (nd p k).Cols.length=_;unfold ncA;rw[aJ]; rfl
theorem c5(m:Int):Ms ⟨p,k,m,nd p k⟩=some ((rl5 p k).bind (uS p k)):=by
 have hb:=Vz h hk;have hbk:=hb.k;have hba:=hb.a;unfold Ms Ns;by_cases hc:(nd p k).Op=4/\(nd p k).Kind=1/\(nd p k).Step<(nd p k).Size
 ·have w1:bZ (fun s=>(nQ ⟨p,k,m,nd p k⟩ s).den) ([],0)=some (.inl (xG (nd p k))):=by
   have:=eO (S:=List Int×Int) (st:=fun v i=>(v,i)) (bd:=fun s=>(nQ ⟨p,k,m,nd p k⟩ s).den) (fun i:Nat=>(i:Int)) (List.range (nd p k).Key.length) [] (r:=fun v=>.inl v) (by simp; omega) (fun v i hi hv=>?_) (fun v=>?_)
   ·rw[qI]at this; exact this
   ·have hi':i<(nd p k).Key.length:=by simpa using hi
    have hv':v.length=i:=by simpa using hv
    unfold nQ;simp only[Tr.den];rw[aA (bU (by omega)),aA (by simp; omega),jX hi']
   ·unfold nQ;simp only[Tr.den,lG];rw[aF (bP (by omega))]
  have w2:∀ v0 r1,bZ (fun s=>(nT ⟨p,k,m,nd p k⟩ r1 s).den) (v0,[],0)=some (.inl (v0,Ip (nd p k))):=by
   intro v0 r1;have:=eO (S:=List Int×List cD×Int) (st:=fun v i=>(v0,v,i)) (bd:=fun s=>(nT ⟨p,k,m,nd p k⟩ r1 s).den) (aGL (nd p k)) (List.range (nd p k).Aggs.length) [] (r:=fun v=>.inl (v0,v)) (by simp; omega) (fun v i hi hv=>?_) (fun v=>?_)
   ·rw[qI]at this; exact this
   ·have hi':i<(nd p k).Aggs.length:=by simpa using hi
    have hv':v.length=i:=by simpa using hv
    unfold nT;simp only[Tr.den,aJ];rw[aA (bU (by omega)),aA (by omega),jX hi',cQ (n:=((nd p k).Key.length:Int)+1) (by omega) (by omega),cQ (n:=((nd p k).Key.length:Int)+1+(i:Int)) (by omega) (by omega)];unfold aGL;by_cases h0:((nd p k).Aggs.getD i default).Kind=0
    ·rw[aA (dB h0),aA h0];simp only[aK];rw[aA (by simp; omega)]
    ·rw[aF (eC h0),aF h0];simp only[aK];rw[aA (by simp; omega)]
   ·unfold nT;simp only[Tr.den,lG];rw[aF (bP (by omega))]
  rw[aHU hc];simp only[Tr.den,dB hc.1,dB hc.2.1,cX hc.2.2,bS,aK,cS,dN,Oa,w1,w2,gP];exact qG h hk (aVG h hk hc.1)
 ·rw[aFC hc];have hpre:(if ((nd p k).Op==4)=true then (if ((nd p k).Kind==1)=true then (if decide ((nd p k).Step<(nd p k).Size)=true then some (Sum.inl ():Unit⊕Option (List aB)) else some (Sum.inr none)) else some (Sum.inr none)) else some (Sum.inr none))=some (Sum.inr none):=by
   by_cases h4:(nd p k).Op=4
   ·rw[aA (dB h4)];by_cases h1:(nd p k).Kind=1
    ·rw[aA (dB h1),aF (bP fun h2=>hc ⟨h4,h1,h2⟩)]
    ·rw[aF (eC h1)]
   ·rw[aF (eC h4)]
  simp only[Tr.den,aK,cT,cO,bY,cV,hpre,fL];rfl
theorem r5(m:Int):∃ z,Ph ⟨p⟩ k m=some z/\RA ((rl5 p k).bind (fin p k)) z:=by
 have hb:=Vz h hk;have hbk:=hb.k;have hba:=hb.a;unfold Ph Oh;have hin:(0<=(k:Int)/\(k:Int)<(p.Nodes.length:Int))=True:=eH (by omega);by_cases hc:(nd p k).Op=4/\(nd p k).Kind=1/\(nd p k).Step<(nd p k).Size
 ·have w1:bZ (fun s=>(oI ⟨p⟩ k s).den) ([],0)=some (.inl (xG (nd p k))):=by
   have:=eO (S:=List Int×Int) (st:=fun v i=>(v,i)) (bd:=fun s=>(oI ⟨p⟩ k s).den) (fun i:Nat=>(i:Int)) (List.range (nd p k).Key.length) [] (r:=fun v=>.inl v) (by simp; omega) (fun v i hi hv=>?_) (fun v=>?_)
   ·rw[qI]at this; exact this
   ·have hi':i<(nd p k).Key.length:=by simpa using hi
    have hv':v.length=i:=by simpa using hv
    unfold oI;simp only[Tr.den,aJ,lX];rw[aA (bU (by omega)),aA (by simp; omega),jX hi']
   ·unfold oI;simp only[Tr.den,lG,aJ,lX];rw[aF (bP (by omega))]
  have w2:∀ v0 r1,bZ (fun s=>(nV ⟨p⟩ k r1 s).den) (v0,[],0)=some (.inl (v0,Ip (nd p k))):=by
   intro v0 r1;have:=eO (S:=List Int×List cD×Int) (st:=fun v i=>(v0,v,i)) (bd:=fun s=>(nV ⟨p⟩ k r1 s).den) (aGL (nd p k)) (List.range (nd p k).Aggs.length) [] (r:=fun v=>.inl (v0,v)) (by simp; omega) (fun v i hi hv=>?_) (fun v=>?_)
   ·rw[qI]at this; exact this
   ·have hi':i<(nd p k).Aggs.length:=by simpa using hi
    have hv':v.length=i:=by simpa using hv
    unfold nV;simp only[Tr.den,aJ,lX];rw[aA (bU (by omega)),aA (by omega),jX hi',cQ (n:=((nd p k).Key.length:Int)+1) (by omega) (by omega),cQ (n:=((nd p k).Key.length:Int)+1+(i:Int)) (by omega) (by omega)];unfold aGL;by_cases h0:((nd p k).Aggs.getD i default).Kind=0
    ·rw[aA (dB h0),aA h0];simp only[aK];rw[aA (by simp; omega)]
    ·rw[aF (eC h0),aF h0];simp only[aK];rw[aA (by simp; omega)]
   ·unfold nV;simp only[Tr.den,lG,aJ,lX];rw[aF (bP (by omega))]
  rw[aHU hc];simp only[Tr.den,hin,bS,aJ,lX,Gz hc.1,Gz hc.2.1,show decide ((nd p k).Step>=(nd p k).Size)=false from eI (by omega),cO,bY,aK,dN,pU,w1,w2,fC];exact kF h hk (aVG h hk hc.1)
 ·rw[aFC hc];have hpre:(if ((nd p k).Op != 4)=true then some true else (if ((nd p k).Kind != 1)=true then some true else some (decide ((nd p k).Step>=(nd p k).Size))))=some true:=by
   by_cases h4:(nd p k).Op=4
   ·rw[aF (by rw[Gz h4]; simp)];by_cases h1:(nd p k).Kind=1
    ·rw[aF (by rw[Gz h1]; simp),cX (by omega)]
    ·rw[aA (My h1)]
   ·rw[aA (My h4)]
  simp only[Tr.den,hin,bS,aJ,lX,hpre,aK,fX];exact⟨_,rfl,dP⟩
end
def swA(n:aB)(a b:Int)(L:Nat):aB:=aB.mk n.Op [b,a] n.Source n.Schema n.Exprs n.Kind n.Size n.Step n.Key2 n.Key n.After n.Before n.Keep n.Aggs n.Seq (n.Cols.drop L++n.Cols.take L)
def swB(k:Int)(es:List aD)(c:List aS):aB:=aB.mk 2 [k] ⟨#[]⟩ 0 es 0 0 0 [] [] 0 0 0 [] [] c
def rl6(p:aE)(k:Nat):Option (List aB):=if (nd p k).Op=6 then
 some [swA (nd p k) ((nd p k).In.getD 0 default) ((nd p k).In.getD 1 default) (cl p ((nd p k).In.getD 0 default)).length,
  swB k (eY (cl p ((nd p k).In.getD 1 default)).length (cl p ((nd p k).In.getD 0 default)).length++eY 0 (cl p ((nd p k).In.getD 1 default)).length) (nd p k).Cols] else none
theorem aFB{p:aE}{k:Nat}(h:(nd p k).Op≠6):rl6 p k=none:=aF h
theorem aGC{p:aE}{k:Nat}{b:Int}(h:(nd p k).Op=6)(hi:(nd p k).In=[a,b]):rl6 p k=some [swA (nd p k) a b (cl p a).length,swB k (eY (cl p b).length (cl p a).length++eY 0 (cl p b).length) (nd p k).Cols]:=by rw[rl6,aA h,hi]; rfl
theorem aZG{p:aE}:(nd p a.toNat).Cols=cl p a:=id rfl
theorem aLV{nf nc:Nat}{c:Nat}(h:c<nc):wfE nf nc (lM (c:Int)):=
 wfE.mk (e:=lM (c:Int)) (fun h=>absurd h (by show ¬ ((3:Int)=21); omega)) (fun h=>absurd h (by show ¬ ((3:Int)=22); omega)) (fun _=>⟨by show (0:Int)<=(c:Int); omega,by show (c:Int)<_; omega,rfl,rfl⟩) fun x hx=>by cases hx
section
variable {p:aE} (h:WP p) {k:Nat} (hk:k<p.Nodes.length)
include h hk
theorem in6(ho:(nd p k).Op=6):∃ a b,(nd p k).In=[a,b]/\(0<=a/\a<(k:Int))/\(0<=b/\b<(k:Int))/\(nd p k).Cols.length=(cl p a).length+(cl p b).length/\(nd p k).Cols.length<=1000000000 /\
  jM p k [swA (nd p k) a b (cl p a).length,swB k (eY (cl p b).length (cl p a).length++eY 0 (cl p b).length) (nd p k).Cols]:=by
 have hw:WN p.Funcs.length (ncA p.Nodes) k (nd p k):=h.w k hk;have hb:=hw.b;have hcc:=hb.c;obtain⟨a,b,h1,h2⟩:=hw.s6 (Or.inl ho);have ha:=hw.hin a (by rw[h1]; simp);have hbb:=hw.hin b (by rw[h1]; simp);have he:=hw.e0 (by omega) (by omega);have h2':(nd p k).Cols.length=(cl p a).length+(cl p b).length:=h2;refine⟨a,b,h1,ha,hbb,h2',hcc,by simp,fun i hi=>?_,Or.inr ⟨by simp,?_⟩⟩
 ·have hi2:i<2:=hi;have hlen:((nd p k).Cols.drop (cl p a).length++(nd p k).Cols.take (cl p a).length).length=(cl p a).length+(cl p b).length:=by rw[cY,fG,dJ]; omega
  match i,hi2 with
  | 0,_=>
   have hop:(swA (nd p k) a b (cl p a).length).Op=6:=ho;exact {
    b:=⟨by show (2:Nat)<=_; omega,hb.e,hb.eB,hb.k2,hb.k,hb.a,hb.s,hb.sB,gY (Nat.le_of_eq hlen) (by omega)⟩
    hin:=fun x hx=>by
     rcases aW.1 (show x∈[b,a] from hx) with rfl | hx
     ·exact⟨hbb.1,by omega⟩
     ·rw[cE.1 hx]; exact⟨ha.1,by omega⟩
    ex:=fun e h=>by have h':e∈(nd p k).Exprs:=h;rw[he]at h'; cases h'
    s1:=fun h=>by rw[jY,hop]at h; omega
    s2:=fun h=>by rw[jY,hop]at h; omega
    s3:=fun h=>by rw[jY,hop]at h; omega
    s4:=fun h=>by rw[jY,hop]at h; omega
    s4k:=fun h=>by rw[jY,hop]at h; omega
    s5:=fun h=>by rw[jY,hop]at h; omega
    s6:=fun _=>⟨b,a,rfl,by rw[vV (by omega),vV (by omega)];exact hlen.trans (Nat.add_comm _ _)⟩
    e0:=fun _ _=>he }
  | 1,_=>
   have hop:(swB k (eY (cl p b).length (cl p a).length++eY 0 (cl p b).length) (nd p k).Cols).Op=2:=rfl;have hE:∀ x,x∈eY (cl p b).length (cl p a).length++eY 0 (cl p b).length->∃ c:Nat,c<(cl p a).length+(cl p b).length/\x=lM (c:Int):=fun x hx=>by
    rcases dZ.1 hx with hx | hx
    ·obtain⟨i,hi,rfl⟩:=dW.1 hx;rw[sC]at hi;exact⟨_,by omega,rfl⟩
    ·obtain⟨i,hi,rfl⟩:=dW.1 hx;rw[sC]at hi;exact⟨_,by omega,rfl⟩
   exact {
    b:=⟨by show (1:Nat)<=_; omega,(show (eY (cl p b).length (cl p a).length++eY 0 (cl p b).length).length<=1000000000 by rw[cY,eP,eP]; omega),fun x hx=>by obtain⟨c,_,rfl⟩:=hE x hx; exact Ay _,by show (0:Nat)<=_; omega,by show (0:Nat)<=_; omega,by show (0:Nat)<=_; omega,by show (0:Nat)<=_; omega,fun x hx=>(uV (show x∈([]:List cB) from hx)).elim,hcc⟩
    hin:=fun x hx=>by rw[cE.1 (show x∈[(k:Int)] from hx)];exact⟨by omega,by omega⟩
    ex:=fun e he=>by
     refine⟨(k:Int),rfl,?_⟩;obtain⟨c,hc,rfl⟩:=hE e he;have e:∀ x,ncL p.Nodes k [swA (nd p k) a b (cl p a).length,x] (k:Int)=(cl p a).length+(cl p b).length:=fun x=>by rw[ncL,aF (by omega),aJ,Ao,jY];exact hlen
     rw[e];exact aLV hc
    s1:=fun h=>by rw[vW,jY,hop]at h; omega
    s2:=fun _=>⟨(k:Int),rfl⟩
    s3:=fun h=>by rw[vW,jY,hop]at h; omega
    s4:=fun h=>by rw[vW,jY,hop]at h; omega
    s4k:=fun h=>by rw[vW,jY,hop]at h; omega
    s5:=fun h=>by rw[vW,jY,hop]at h; omega
    s6:=fun h=>by rw[vW,jY,hop]at h; omega
    e0:=fun _ h=>absurd hop h }
 ·show (nd p k).Cols.length=_;unfold ncA;rw[aJ]; rfl
theorem c6(m:Int):Pc ⟨p,k,m,nd p k⟩=some ((rl6 p k).bind (uS p k)):=by
 unfold Pc Nb;by_cases ho:(nd p k).Op=6
 ·obtain⟨a,b,hi,ha,hb,hc,hcc,hN⟩:=in6 h hk ho;rw[aGC ho hi];have q0:=gd2 hi;have hA:wJ (nd p k) 0 ⟨p,k,m,nd p k⟩=some (p.Nodes.getD a.toNat default):=Ey (p:=p) (k:=k) (m:=m) (n0:=nd p k) (n:=nd p k) (i:=0) (x:=a) (by rw[hi]; simp) q0.2.2.1 ha.1 (by omega);have hB:wJ (nd p k) 1 ⟨p,k,m,nd p k⟩=some (p.Nodes.getD b.toNat default):=Ey (p:=p) (k:=k) (m:=m) (n0:=nd p k) (n:=nd p k) (i:=1) (x:=b) (by rw[hi]; simp) q0.2.2.2 hb.1 (by omega);have la:(p.Nodes.getD a.toNat default).Cols.length=(cl p a).length:=rfl;have lb:(p.Nodes.getD b.toNat default).Cols.length=(cl p b).length:=rfl;have w1:bZ (fun s=>(oG (p.Nodes.getD a.toNat default) (p.Nodes.getD b.toNat default) s).den) ([],0)=some (.inl (eY (cl p b).length (cl p a).length++eY 0 (cl p b).length)):=by
   have:=eO (S:=List aD×Int) (st:=fun v i=>(v,i)) (bd:=fun s=>(oG (p.Nodes.getD a.toNat default) (p.Nodes.getD b.toNat default) s).den) (fun i:Nat=>if i<(cl p a).length then lM (((cl p b).length+i:Nat):Int) else lM ((i-(cl p a).length:Nat):Int)) (List.range ((cl p a).length+(cl p b).length)) [] (r:=fun v=>.inl v) (by simp; omega) (fun v i hi hv=>?_) (fun v=>?_)
   ·rw[qI]at this;rw[this]
    congr 2
    refine Hx (by rw[hP,lG,cY,eP,eP]) fun i hi=>?_;rw[hP,lG]at hi;rw[eR (by simpa using hi),List.getElem_map,List.getElem_range,cG];by_cases hlt:i<(cl p a).length
    ·rw[aA hlt,eU (by rw[eP]; exact hlt),<-cG,wH hlt]
    ·rw[aF hlt,eG (by rw[eP]; omega),<-cG,eP,wH (by omega)]
     congr 2
     omega
   ·have hi':i<(cl p a).length+(cl p b).length:=by simpa using hi
    have hv':v.length=i:=by simpa using hv
    unfold oG;simp only[Tr.den,la,lb];rw[cQ (n:=((cl p a).length:Int)+((cl p b).length:Int)) (by omega) (by omega),aA (bU (by omega)),aA (by omega),aA (by omega),jX hi',cQ (n:=(i:Int)+((cl p b).length:Int)) (by omega) (by omega),Int.tmod_eq_emod_of_nonneg (by omega)];have e:aD.mk 3 (((i:Int)+((cl p b).length:Int)) % (((cl p a).length:Int)+((cl p b).length:Int))) ⟨#[]⟩ []=if i<(cl p a).length then lM (((cl p b).length+i:Nat):Int) else lM ((i-(cl p a).length:Nat):Int):=by
     by_cases hlt:i<(cl p a).length
     ·rw[aA hlt,Int.emod_eq_of_lt (by omega) (by omega)];show lM _=lM _
      congr 1
      omega
     ·rw[aF hlt];show lM _=lM _
      congr 1
      have e1:(i:Int)+((cl p b).length:Int)=((i:Int)-((cl p a).length:Int))+(((cl p a).length:Int)+((cl p b).length:Int)):=by omega
      rw[e1,Int.add_emod_right,Int.emod_eq_of_lt (by omega) (by omega)];omega
    rw[e]
   ·unfold oG;simp only[Tr.den,la,lb,lG];rw[cQ (n:=((cl p a).length:Int)+((cl p b).length:Int)) (by omega) (by omega),aF (bP (by omega))]
  have g1:(0<=((cl p a).length:Int)/\((cl p a).length:Int)<=((nd p k).Cols.length:Int)/\((nd p k).Cols.length:Int)<=((nd p k).Cols.length:Int))=True:=eH (by omega);have g2:(0<=(0:Int)/\(0:Int)<=((cl p a).length:Int)/\((cl p a).length:Int)<=((nd p k).Cols.length:Int))=True:=eH (by omega);have e582:aOA [((nd p k).Cols.drop ((cl p a).length:Int).toNat).take (((nd p k).Cols.length:Int)-((cl p a).length:Int)).toNat,((nd p k).Cols.drop (0:Int).toNat).take (((cl p a).length:Int)-(0:Int)).toNat]=some ((nd p k).Cols.drop (cl p a).length++(nd p k).Cols.take (cl p a).length):=by
   rw[aXW _ (by simp) fun x hx=>?_]
   ·simp only[sN,zQ,id,jD,sP,List.drop_zero,Int.sub_zero,aJ];rw[show (((nd p k).Cols.length:Int)-((cl p a).length:Int)).toNat=(nd p k).Cols.length-(cl p a).length by omega,tT]
   ·rcases aW.1 hx with rfl | hx
    ·rw[dJ,fG]; omega
    ·rw[cE.1 hx,dJ,fG]; omega
  simp only[Tr.den,dB ho,bS,aK,cS,hA,hB,w1,dN,q0.1,q0.2.1,Oa,la,mC,g1,g2,e582,gP];rw[q0.2.2.1,q0.2.2.2];exact qG h hk hN
 ·rw[aFB ho];simp only[Tr.den,bF ho,cO,bY,aK,cV];rfl
theorem r6(m:Int):∃ z,Mn ⟨p⟩ k m=some z/\RA ((rl6 p k).bind (fin p k)) z:=by
 unfold Mn Mi;have hin:(0<=(k:Int)/\(k:Int)<(p.Nodes.length:Int))=True:=eH (by omega);by_cases ho:(nd p k).Op=6
 ·obtain⟨a,b,hi,ha,hb,hc,hcc,hN⟩:=in6 h hk ho;rw[aGC ho hi];have q0:=gd2 hi;have g1:(0<=((cl p a).length:Int)/\((cl p a).length:Int)<=((nd p k).Cols.length:Int)/\((nd p k).Cols.length:Int)<=((nd p k).Cols.length:Int))=True:=eH (by omega);have g2:(0<=(0:Int)/\(0:Int)<=((cl p a).length:Int)/\((cl p a).length:Int)<=((nd p k).Cols.length:Int))=True:=eH (by omega);have g3:(0<=a/\a<(p.Nodes.length:Int))=True:=eH (by omega);have g4:(0<=b/\b<(p.Nodes.length:Int))=True:=eH (by omega);have la:(p.Nodes.getD a.toNat default).Cols.length=(cl p a).length:=rfl;have lb:(p.Nodes.getD b.toNat default).Cols.length=(cl p b).length:=rfl;have e582:Fj [((nd p k).Cols.drop (cl p a).length).take (((nd p k).Cols.length:Int)-((cl p a).length:Int)).toNat,((nd p k).Cols.drop (0:Int).toNat).take (((cl p a).length:Int)-(0:Int)).toNat]=some ((nd p k).Cols.drop (cl p a).length++(nd p k).Cols.take (cl p a).length):=by
   rw[aIZ _ (by simp) fun x hx=>?_]
   ·simp only[sN,zQ,id,jD,sP,List.drop_zero,Int.sub_zero,aJ];rw[show (((nd p k).Cols.length:Int)-((cl p a).length:Int)).toNat=(nd p k).Cols.length-(cl p a).length by omega,tT]
   ·rcases aW.1 hx with rfl | hx
    ·rw[dJ,fG]; omega
    ·rw[cE.1 hx,dJ,fG]; omega
  have qa:vH ((cl p b).length:Int) (IntKind.i64.wrap (((cl p a).length:Int)+((cl p b).length:Int)))=some (eY (cl p b).length (cl p a).length):=zJ (by omega) (by rw[cQ (by omega) (by omega)]; omega);have qb:vH 0 ((cl p b).length:Int)=some (eY 0 (cl p b).length):=zJ (a:=0) (by omega) (by omega);have g5:(((eY (cl p b).length (cl p a).length).length+(eY 0 (cl p b).length).length)*56<=140737488355328)=True:=eH (by rw[eP,eP]; omega);simp only[Tr.den,hin,bS,aJ,lX,Gz ho,cO,bY,q0.1,q0.2.1,q0.2.2.1,q0.2.2.2,g3,g4,pU,aK,aZG,g1,g2,e582,qa,qb,g5,fC];exact kF h hk hN
 ·rw[aFB ho];simp only[Tr.den,hin,bS,aJ,lX,My ho,aK,fX];exact⟨_,rfl,dP⟩
end
end Go.PL
