/-
  Parts: From the reading of arguments to plain data; the frame of a law's row. Own work. What reads as data of the argument types reads as plain data of ours. Printed by a program of our own. The kept part of a plain-law text (strip.py). Own work. The kept part of a plain-law text (strip.py). Own work. The kept part of a plain-law text (strip.py). Own work. The kept part of a plain-law text (strip.py). Own work. Plain law of patterns: the rows of each key. Own work. Plain law of patterns: places, states, matches. Own work. Plain law of expressions: what is handed in is bounded. Own work. Plain law of expressions: a typed expression has a value at every row. Own work. Plain law of patterns: the matches of the rows of one key. Own work. The kept part of a plain-law text (strip.py). Own work. Plain law of patterns: what a push yields. Own work. Plain law of patterns: closing, and what is kept. Own work. The kept part of a plain-law text (strip.py). Own work. The kept part of a plain-law text (strip.py). Own work. The kept part of a plain-law text (strip.py). Own work. Plain law of patterns: what is small, right and fits. Own work. Plain law of expressions: the value of a typed expression has its type. Own work. Plain law of expressions: what is accepted as typed is typed. Own work. Plain law of patterns: acts that fit. Own work. Plain law of patterns: what an operator yields and keeps, by the sum of what it got. Own work. Plain law of patterns: the examples. Own work. Plain law of patterns: the examples come out. Own work. Plain law of patterns: the examples hold. Own work. Plain law of patterns: a match depends on the places near its end alone. Own work. Plain law of patterns: a push yields the difference of all matches. Own work. Plain law of patterns: the walk forward from a place and the walk backward to it find the same matches. Own work. Plain law of the meaning of patterns: the longest match that ends at a place. Own work.
-/
import Derived.Test.YtjefblkdnolgaaaGreatDoorMg
import Derived.Test.YtjefblkdnolgaaaGreatDoorRows
import Derived.JoinedCond
import Derived.ProofKit
import Derived.OpenShut
import Derived.Carry
import Derived.DataReads
import Derived.ChangeAnyMap
import Derived.KernelRfl
namespace Go.PL
open Go Go.RowKit
open Go.Proofs.YtjefblkdnolgaaaGreatDoor.Rows (uptoBulk uptoBulkAll)
def RdL(F:Nat→Prop)(W:World)(l:List T)(cs:List Value):Prop:=cs.length=l.length∧∀ (j:Nat) x v,l[j]? = some x→cs[j]? = some v→Rd F W x v
theorem RdL.append{F:Nat→Prop}{W:World}{l l':List T}{cs cs':List Value}(h:RdL F W l cs)(h':RdL F W l' cs'):RdL F W (l++l') (cs++cs'):=by
 refine⟨by simp[h.1,h'.1],fun j x v hx hv=>?_⟩
 by_cases hj:j<l.length
 ·rw[List.getElem?_append_left hj]at hx
  rw[List.getElem?_append_left (by rw[h.1]; exact hj)]at hv
  exact h.2 j x v hx hv
 ·rw[List.getElem?_append_right (by omega)]at hx
  rw[List.getElem?_append_right (by rw[h.1]; omega),h.1]at hv
  exact h'.2 _ x v hx hv
def dH(n:Int):Prop:=-9223372036854775808≤n∧n≤9223372036854775807
section
variable {H:Type} {enc:TypeId×Value→H} {P:Program} {W:World}
def dR(enc:TypeId×Value→H)(P:Program)(W:World)(t:TypeId){X:Type}(c:X→List T)(ok:X→Prop)(fuel:Nat):Prop:=
 ∀ cs d ps,DataW.trod enc P W 0 (fun _=>true) true fuel t cs=some (d,ps)→uptoBulk d≤1048576→∃ x,RdL (fun b=>b<W.heap.size) W (c x) cs∧ok x
theorem cF{t:TypeId}{X:Type}{c:X→List T}{ok:X→Prop}:dR enc P W t c ok 0:=fun cs d ps h=>by simp[DataW.trod]at h
theorem RdL.one{F:Nat→Prop}{W:World}{x:T}{v:Value}(h:Rd F W x v):RdL F W [x] [v]:=by
 refine⟨rfl,fun j y u hy hu=>?_⟩
 cases j with
 | zero=>simp at hy hu; subst hy; subst hu; exact h
 | succ j=>simp at hy
theorem cK{t:TypeId}(ht:P.underlying t=some (.int .i64))(fuel:Nat):dR enc P W t bC dH fuel:=by
 cases fuel with
 | zero=>exact cF
 | succ fuel=>
  intro cs d ps h _
  unfold DataW.trod at h
  rw[ht]at h
  split at h <;> try (simp_all; done)
  rename_i k k' n hk
  split at h
  ·rename_i hk2
   cases hk
   obtain⟨rfl,hwf⟩:=hk2
   refine⟨n,RdL.one (.int _ _),?_⟩
   simp[Lit.wf,IntKind.min,IntKind.max,IntKind.signed,IntKind.bits]at hwf
   exact⟨by omega,by omega⟩
  ·cases h
def okStr(s:ByteArray):Prop:=s.size≤1048576
theorem eX{t:TypeId}(ht:P.underlying t=some .string)(fuel:Nat):dR enc P W t cStr okStr fuel:=by
 cases fuel with
 | zero=>exact cF
 | succ fuel=>
  intro cs d ps h hw
  unfold DataW.trod at h
  rw[ht]at h
  split at h <;> try (simp_all; done)
  rename_i s hk
  split at h
  ·cases h
   refine⟨s,RdL.one (.str _),?_⟩
   have:s.data.toList.length+1≤1048576:=hw
   have:s.size=s.data.toList.length:=rfl
   unfold okStr
   omega
  ·cases h
theorem mapM_get{α β:Type}{f:α→Option β}:∀ {l:List α} {r:List β},l.mapM f=some r→r.length=l.length∧∀ (i:Nat) a b,l[i]? = some a→r[i]? = some b→f a=some b
 | [],r,h=>by simp at h; subst h; simp
 | x::l,r,h=>by
  rw[List.mapM_cons]at h
  simp only[Option.bind_eq_bind,Option.bind_eq_some_iff]at h
  obtain⟨y,hy,ys,hys,hr⟩:=h
  simp at hr; subst hr
  obtain⟨h1,h2⟩:=mapM_get hys
  refine⟨by simp[h1],fun i a b ha hb=>?_⟩
  cases i with
  | zero=>simp at ha hb; subst ha; subst hb; exact hy
  | succ i=>exact h2 i a b (by simpa using ha) (by simpa using hb)
theorem uptoBulk_pos:∀ d:DataW H,1≤uptoBulk d
 | .lit l=>by unfold uptoBulk; split <;> omega
 | .nil=>by simp[uptoBulk]
 | .ptr d=>by simp[uptoBulk]
 | .slice e s=>by simp[uptoBulk]
 | .agg p=>by simp[uptoBulk]
 | .iface t d=>by simp[uptoBulk]
 | .map e=>by simp[uptoBulk]
 | .held h=>by simp[uptoBulk]
theorem bulkAll_len:∀ l:List (DataW H),l.length≤uptoBulkAll l
 | []=>by simp
 | d::l=>by simp only[uptoBulkAll,List.length_cons]; have:=uptoBulk_pos d; have:=bulkAll_len l; omega
theorem bulkAll_mem:∀ {l:List (DataW H)} {d:DataW H},d∈l→uptoBulk d≤uptoBulkAll l
 | x::l,d,h=>by
  simp only[uptoBulkAll]
  rcases List.mem_cons.1 h with rfl | h
  ·omega
  ·have:=bulkAll_mem h; omega
def okL{X:Type}(_b:Nat)(ok:X→Prop)(xs:List X):Prop:=xs.length≤1048576∧∀ x,x∈xs→ok x
theorem dW{t e b:Nat}(ht:P.underlying t=some (.slice e))(hn:Nat.blt 0 (P.cellsOf e)=true)(hb:P.bytesOf e=b){X:Type}[Inhabited X]{c:X→List T}{ok:X→Prop}{fuel:Nat}(he:dR enc P W e c ok fuel)(mk:List X→T)
  (hmk:∀ xs,(mk xs).view=some (xs.length,fun i=>c (xs.getD i default))):dR enc P W t (fun xs=>[mk xs]) (okL b ok) (fuel+1):=by
 have hz:0<P.cellsOf e:=by simpa[Nat.blt_eq] using hn
 clear hn
 subst hb
 intro cs d ps h hw
 unfold DataW.trod at h
 rw[ht]at h
 split at h <;> try (simp_all; done)
 ·
  rename_i hk
  cases hk
  refine⟨[],RdL.one (.nil (hmk [])),by simp,by simp⟩
 ·rename_i e' a len cap hk
  cases hk
  simp only at h
  split at h
  ·rename_i hcap
   simp only[Option.bind_eq_some_iff,Option.map_eq_some_iff]at h
   obtain⟨elems,hel,rest,hrest,hd⟩:=h
   simp only[Prod.mk.injEq]at hd
   obtain⟨rfl,rfl⟩:=hd
   obtain⟨hlen,hget⟩:=mapM_get hel
   simp only[List.length_range]at hlen
   have hwt:uptoBulkAll (elems.map (·.1))≤1048576:=by
    have hw2:uptoBulkAll (elems.map (·.1))+uptoBulkAll (rest.map (·.1))+1≤1048576:=hw
    omega
   have hl:len≤1048576:=by
    have:=bulkAll_len (elems.map (·.1))
    simp only[List.length_map,hlen]at this
    omega
   have each:∀ i,i<len→∃ x vs,W.cells? 0 (a.add (i*P.cellsOf e)) (P.cellsOf e)=some vs∧RdL (fun b=>b<W.heap.size) W (c x) vs∧ok x:=by
    intro i hi
    have hi':i<elems.length:=by omega
    have:=hget i i elems[i] (by simp[hi]) (by simp[hi'])
    simp only[Option.bind_eq_some_iff]at this
    obtain⟨vs,hvs,htr⟩:=this
    obtain⟨x,h1,h2⟩:=he vs elems[i].1 elems[i].2 htr (Nat.le_trans (bulkAll_mem (List.mem_map_of_mem (List.getElem_mem hi'))) hwt)
    exact⟨x,vs,hvs,h1,h2⟩
   have all:∃ xs:List X,xs.length=len∧∀ i,i<len→∃ vs,W.cells? 0 (a.add (i*P.cellsOf e)) (P.cellsOf e)=some vs∧RdL (fun b=>b<W.heap.size) W (c (xs.getD i default)) vs∧ok (xs.getD i default):=by
    clear hel hrest hget hw hwt hl hlen hcap
    induction len with
    | zero=>exact⟨[],rfl,fun i hi=>absurd hi (Nat.not_lt_zero _)⟩
    | succ len ih=>
     obtain⟨xs,h1,h2⟩:=ih fun i hi=>each i (by omega)
     obtain⟨x,vs,h3,h4,h5⟩:=each len (by omega)
     refine⟨xs++[x],by simp[h1],fun i hi=>?_⟩
     by_cases hil:i<len
     ·have:(xs++[x]).getD i default=xs.getD i default:=by simp[List.getD_eq_getElem?_getD,List.getElem?_append_left (show i<xs.length by omega)]
      rw[this]; exact h2 i hil
     ·have hil:i=len:=by omega
      subst hil
      have:(xs++[x]).getD i default=x:=by simp[List.getD_eq_getElem?_getD,←h1]
      rw[this]; exact⟨vs,h3,h4,h5⟩
   obtain⟨xs,hxl,hxs⟩:=all
   refine⟨xs,RdL.one ?_,by rw[hxl]; exact hl,fun x hx=>?_⟩
   ·have hsz:∀ i,i<len→(c (xs.getD i default)).length=P.cellsOf e:=by
     intro i hi
     obtain⟨vs,h1,h2,_⟩:=hxs i hi
     rw[←h2.1]
     unfold World.cells? at h1
     rw[if_pos (Nat.zero_le _)]at h1
     have:=(mapM_get h1).1; simpa using this
    have hcell:∀ i j,i<len→j<P.cellsOf e→∃ u,W.cell? (a.add (i*P.cellsOf e+j))=some u∧∀ x,(c (xs.getD i default))[j]? = some x→Rd (fun b=>b<W.heap.size) W x u:=by
     intro i j hi hj
     obtain⟨vs,h1,h2,_⟩:=hxs i hi
     unfold World.cells? at h1
     rw[if_pos (Nat.zero_le _)]at h1
     obtain⟨h3,h4⟩:=mapM_get h1
     simp only[List.length_range]at h3
     have:=h4 j j vs[j] (by simp[hj]) (by simp[h3,hj])
     rw[Addr.add_add]at this
     exact⟨vs[j],this,fun x hx=>h2.2 j x vs[j] hx (by simp[h3,hj])⟩
    let vsf:Nat→Nat→Value:=fun i j=>(W.cell? (a.add (i*P.cellsOf e+j))).getD undef
    refine .sl a cap (P.cellsOf e) vsf (n:=len) (f:=fun i=>c (xs.getD i default)) (by rw[hmk,hxl]) hcap.2.1 (fun hn=>?_) hsz (fun i j hi hj=>?_) (fun i j x hi hx=>?_)
    ·obtain⟨u,hu,_⟩:=hcell 0 0 hn hz
     have hb:=World.block_lt_of_cell? W _ hu
     have:(a.add (0*P.cellsOf e+0)).block=a.block:=by unfold Addr.add; split <;> rfl
     rw[this]at hb
     exact hb
    ·obtain⟨u,hu,_⟩:=hcell i j hi hj
     simp[vsf,hu]
    ·have hj:j<P.cellsOf e:=by rw[←hsz i hi]; exact(List.getElem?_eq_some_iff.1 hx).1
     obtain⟨u,hu,hr⟩:=hcell i j hi hj
     simp only[vsf,hu,Option.getD_some]
     exact hr x hx
   ·obtain⟨i,hi,rfl⟩:=List.getElem_of_mem hx
    obtain⟨_,_,_,h⟩:=hxs i (by omega)
    simpa[List.getD_eq_getElem?_getD,hi] using h
  ·cases h
def OpensF(enc:TypeId×Value→H)(P:Program)(W:World)(off:Nat)(fs:List Field){X:Type}(c:X→List T)(ok:X→Prop)(fuel:Nat):Prop:=
 ∀ (cs:List Value) xs,fs.mapM (fun f=>DataW.trod enc P W 0 (fun _=>true) true fuel f.type ((cs.drop f.offset).take (P.cellsOf f.type)))=some xs →
  uptoBulkAll (xs.map (·.1))≤1048576→cs.length=off+(fs.map fun f=>P.cellsOf f.type).sum→∃ x,RdL (fun b=>b<W.heap.size) W (c x) (cs.drop off)∧ok x
theorem eZ{off fuel:Nat}:OpensF enc P W off [] (fun (_:Unit)=>[]) (fun _=>True) fuel:=by
 intro cs xs _ _ hl
 simp at hl
 exact⟨(),⟨by simp[hl],by simp⟩,trivial⟩
theorem aT{off fuel:Nat}{f:Field}{fs:List Field}{X Y:Type}{c:X→List T}{c':Y→List T}{ok:X→Prop}{ok':Y→Prop}(ho:f.offset=off)(h:dR enc P W f.type c ok fuel)
  (h':OpensF enc P W (off+P.cellsOf f.type) fs c' ok' fuel):OpensF enc P W off (f::fs) (fun (x:X×Y)=>c x.1++c' x.2) (fun x=>ok x.1∧ok' x.2) fuel:=by
 intro cs xs hx hw hl
 rw[List.mapM_cons]at hx
 simp only[Option.bind_eq_bind,Option.bind_eq_some_iff]at hx
 obtain⟨y,hy,ys,hys,hr⟩:=hx
 simp at hr; subst hr
 simp only[List.map_cons,uptoBulkAll]at hw
 obtain⟨x,h1,h2⟩:=h _ _ _ hy (by omega)
 simp only[List.map_cons,List.sum_cons]at hl
 obtain⟨x',h3,h4⟩:=h' cs ys hys (by omega) (by omega)
 refine⟨(x,x'),?_,h2,h4⟩
 have:cs.drop off=(cs.drop f.offset).take (P.cellsOf f.type)++cs.drop (off+P.cellsOf f.type):=by
  rw[ho,←List.drop_drop,List.take_append_drop]
 rw[this]
 exact h1.append h3
theorem dM{t:TypeId}{fs:Array Field}(ht:P.underlying t=some (.struct fs)){X:Type}{c:X→List T}{ok:X→Prop}{fuel:Nat}(h:OpensF enc P W 0 fs.toList c ok fuel)
  (hs:P.cellsOf t=(fs.toList.map fun f=>P.cellsOf f.type).sum):dR enc P W t c ok (fuel+1):=by
 intro cs d ps hd hw
 unfold DataW.trod at hd
 rw[ht]at hd
 split at hd <;> try (simp_all; done)
 rename_i cs0 _ _ fs' hk
 cases hk
 split at hd
 ·rename_i hl
  simp only[Option.map_eq_some_iff]at hd
  obtain⟨xs,hxs,hd⟩:=hd
  simp only[Prod.mk.injEq]at hd
  obtain⟨rfl,_⟩:=hd
  have hw2:uptoBulkAll (xs.map (·.1))+1≤1048576:=hw
  have:=h _ xs hxs (by omega) (by rw[hl,hs]; simp)
  simpa using this
 ·cases hd
theorem dR.map{t:TypeId}{X Y:Type}{c:X→List T}{ok:X→Prop}{c':Y→List T}{ok':Y→Prop}{fuel:Nat}(h:dR enc P W t c ok fuel)(g:X→Y)(hc:∀ x,c' (g x)=c x)(ho:∀ x,ok x→ok' (g x)):
  dR enc P W t c' ok' fuel:=by
 intro cs d ps hd hw
 obtain⟨x,h1,h2⟩:=h cs d ps hd hw
 exact⟨g x,by rw[hc]; exact h1,ho x h2⟩
end
theorem RdL.agg{F:Nat→Prop}{W:World}{l:List T}{v:Value}(h:RdL F W l v.cells.toList)(hv:∃ vs,v = .agg vs):Rd F W (.agg l) v:=by
 obtain⟨vs,rfl⟩:=hv
 simp only[Value.cells]at h
 exact .agg (by simpa using h.1) fun j x v hx hv=>h.2 j x v hx (by simpa using hv)
section
variable {H:Type} {enc:TypeId×Value→H} {P:Program} {W:World} {r:Reach} {base:Nat}
theorem arg_struct{t:TypeId}{fs:Array Field}(ht:P.underlying t=some (.struct fs)){X:Type}{c:X→List T}{ok:X→Prop}(hO:∀ fuel,dR enc P W t c ok fuel){v:Value}{d:DataW H}{ps:List MemPlace}
  (hv:Value.okWide P W r base t v)(h:DataW.Trod enc P W 0 (fun _=>true) true t v d ps)(hw:uptoBulk d≤1048576):∃ x,Rd (fun b=>b<W.heap.size) W (.agg (c x)) v∧ok x:=by
 obtain⟨cs,rfl,_⟩:=Go.WideShapes.okWide_struct ht hv
 obtain⟨fuel,hf⟩:=h
 obtain⟨x,h1,h2⟩:=hO fuel _ _ _ hf hw
 exact⟨x,h1.agg ⟨cs,rfl⟩,h2⟩
theorem arg_one{t:TypeId}{X:Type}{c:X→T}{ok:X→Prop}(hO:∀ fuel,dR enc P W t (fun x=>[c x]) ok fuel){v:Value}{d:DataW H}{ps:List MemPlace}
  (hv:v.cells=#[v])(h:DataW.Trod enc P W 0 (fun _=>true) true t v d ps)(hw:uptoBulk d≤1048576):∃ x,Rd (fun b=>b<W.heap.size) W (c x) v∧ok x:=by
 obtain⟨fuel,hf⟩:=h
 obtain⟨x,h1,h2⟩:=hO fuel _ _ _ hf hw
 exact⟨x,h1.2 0 _ _ (by simp) (by simp[hv]),h2⟩
theorem arg_slice{t e:TypeId}(ht:P.underlying t=some (.slice e)){X:Type}{c:X→T}{ok:X→Prop}(hO:∀ fuel,dR enc P W t (fun x=>[c x]) ok fuel){v:Value}{d:DataW H}{ps:List MemPlace}
  (hv:Value.okWide P W r base t v)(h:DataW.Trod enc P W 0 (fun _=>true) true t v d ps)(hw:uptoBulk d≤1048576):∃ x,Rd (fun b=>b<W.heap.size) W (c x) v∧ok x:=by
 obtain⟨a,l,q,rfl⟩:=Go.WideShapes.okWide_slice ht hv
 exact arg_one hO rfl h hw
end
theorem kept_of_below{W W':World}(h:Below W.heap.size W W')(may:MemPlace→Prop):W.keptBut W' may:=by
 refine⟨h.os,h.output,fun i hi=>?_⟩
 rw[h.block i hi]
 cases W.heap[i]? with
 | none=>trivial
 | some o=>cases o <;> simp
section
variable {H:Type} {enc:TypeId×Value→H} {P:Program}
theorem trodAll_below(hl:laidOutB P=true){W W':World}(hb:Below W.heap.size W W'):∀ {ts:List TypeId} {vs:List Value} {ds:List (DataW H)} {ps:List MemPlace},
  (∀ t,t∈ts→P.readableRec t=true∧t<P.types.size)→DataW.TrodAll enc P W 0 (fun _=>true) true ts vs ds ps→(∀ x,x∈ps→x.block<W.heap.size) →
  DataW.TrodAll enc P W' 0 (fun b=>decide (b<W.heap.size)) true ts vs ds ps
 | [],[],[],ps,_,h,_=>h
 | t::ts,v::vs,d::ds,ps,hr,h,hp=>by
  obtain⟨p,q,h1,h2,rfl⟩:=h
  obtain⟨r1,r2⟩:=hr t (by simp)
  exact⟨p,q,Go.RowKit.Below.trod hl r1 r2 h1 hb (fun x hx=>hp x (List.mem_append_left _ hx)),trodAll_below hl hb (fun t ht=>hr t (List.mem_cons_of_mem _ ht)) h2 (fun x hx=>hp x (List.mem_append_right _ hx)),rfl⟩
 | [],_::_,_,_,_,h,_=>by simp[DataW.TrodAll]at h
 | [],[],_::_,_,_,h,_=>by simp[DataW.TrodAll]at h
 | _::_,[],_,_,_,h,_=>by simp[DataW.TrodAll]at h
 | _::_,_::_,[],_,_,h,_=>by simp[DataW.TrodAll]at h
theorem law_post(hlay:laidOutB P=true){f:Func}{s:ChangeSpec}{W W':World}{args:Array Value}{ds gs:List (DataW H)}{before:List MemPlace}{tb:TypeId}(hvars:s.vars=[])
  (hW:DataW.Whole enc P f.params.toList s.vars false W args.toList ds gs before)(hb:Below W.heap.size W W')(hres:f.resultTypes=#[tb])(htb:P.underlying tb=some .bool)
  (hread:∀ t,t∈f.params.toList→P.readableRec t=true∧t<P.types.size)(hfn:s.fn H (ds++gs)={ results:=[.lit (.bool true)],args:=ds }):
  s.post enc P f false true false false W args (.bool true) W':=by
 have hW':=hW
 obtain⟨p,q,hA,hV,rfl,_⟩:=hW
 rw[hvars]at hV
 cases gs with
 | cons g gs=>simp[DataW.TrodVars]at hV
 | nil=>
  simp only[DataW.TrodVars]at hV
  subst hV
  have hlt:∀ x,x∈p→x.block<W.heap.size:=fun x hx=>by simpa using hW'.lt x (by simp[hx])
  refine⟨ds,[],p++[],[],p,[],hW',?_,?_,?_,kept_of_below hb _,fun h=>by cases h⟩
  ·rw[hfn,hres]
   exact⟨[],[],⟨1,by simp[DataW.trod,htb,Value.cells]⟩,rfl,rfl⟩
  ·rw[hfn]
   exact trodAll_below hlay hb hread hA hlt
  ·rw[hvars,hfn]; exact rfl
theorem fA.law{P:Program}{k:FuncId}{args:List PV}(h:fA P k args [] [] (Ret (.t (.bool true)))){W:World}{vs:Array Value}(hs:vs.size=args.length)
  (hv:∀ (j:Nat) x v,args[j]? = some x→vs[j]? = some v→VR (fun b=>b<W.heap.size) (fun _=>undef) W x v)(hg:GLP P (fun b=>b<W.heap.size) W):
  Calls P k vs W fun e W'=>e = .returned (.bool true)∧Below W.heap.size W W':=by
 refine(h (fun b=>b<W.heap.size) (fun _=>undef) W vs hs hv ⟨by simp,by simp,by simp⟩ (fun _ h=>h) hg).mono ?_
 rintro e w' ⟨v,r,H',F',g',rfl,hr,hvr,hW⟩
 unfold Ret at hr
 subst hr
 have:=hvr.inv_bool
 subst this
 exact⟨rfl,⟨hW.ext.os,hW.ext.tape,hW.ext.output,hW.ext.size,fun b hb=>hW.ext.block b hb (by rintro⟨o,x,hx,_⟩; simp at hx)⟩⟩
end
set_option maxRecDepth 20000
theorem o23{H:Type}{enc:TypeId×Value→H}{W:World}(fuel:Nat):dR enc Proofs.Tryz.prog W 23 (fun xs=>[eL bC (xs)]) (okL 8 dH) fuel:=by
 cases fuel with
 | zero=>exact cF
 | succ fuel=>exact dW Proofs.Tryz.underlying23 (by kernel_rfl) (by kernel_rfl) (cK Proofs.Tryz.underlying3 fuel) (fun xs=>eL bC (xs)) (fun _=>rfl)
inductive cZ:aW→Prop
 | mk0 {a b:Int} {s:ByteArray} {l:List aW} (ha:dH a) (hb:dH b) (hs:okStr s) (hn:l.length≤1048576) (hl:∀ x,x∈l→cZ x):cZ (.mk a b s l)
theorem cZ.mk{a b:Int}{s:ByteArray}{l:List aW}(ha:dH a)(hb:dH b)(hs:okStr s)(hl:okL 56 cZ l):cZ (.mk a b s l):=.mk0 ha hb hs hl.1 hl.2
theorem oExpr{H:Type}{enc:TypeId×Value→H}{W:World}:∀ fuel,dR enc Proofs.Tryz.prog W 90 cO cZ fuel∧dR enc Proofs.Tryz.prog W 24 (fun xs=>[.lz (.exprs xs)]) (okL 56 cZ) fuel
 | 0=>⟨cF,cF⟩
 | fuel+1=>by
  have ih:=oExpr (enc:=enc) (W:=W) fuel
  exact⟨(dM Proofs.Tryz.underlying90 (aT (by kernel_rfl) (cK Proofs.Tryz.underlying3 fuel) (aT (by kernel_rfl) (cK Proofs.Tryz.underlying3 fuel) (aT (by kernel_rfl) (eX Proofs.Tryz.underlying9 fuel) (aT (by kernel_rfl) ih.2 eZ)))) (by kernel_rfl)).map (fun x=>aW.mk x.1 x.2.1 x.2.2.1 x.2.2.2.1) (fun _=>rfl) (fun x h=>.mk h.1 h.2.1 h.2.2.1 h.2.2.2.1),dW Proofs.Tryz.underlying24 (by kernel_rfl) (by kernel_rfl) ih.1 (fun xs=>.lz (.exprs xs)) (fun _=>rfl)⟩
def okGAgg(x:GAgg):Prop:=dH x.Kind∧dH x.Col∧okStr x.Name
theorem o122{H:Type}{enc:TypeId×Value→H}{W:World}(fuel:Nat):dR enc Proofs.Tryz.prog W 122 cGAgg okGAgg fuel:=by
 cases fuel with
 | zero=>exact cF
 | succ fuel=>exact(dM Proofs.Tryz.underlying122 (aT (by kernel_rfl) (cK Proofs.Tryz.underlying3 fuel) (aT (by kernel_rfl) (cK Proofs.Tryz.underlying3 fuel) (aT (by kernel_rfl) (eX Proofs.Tryz.underlying9 fuel) eZ))) (by kernel_rfl)).map (fun x=>GAgg.mk x.1 x.2.1 x.2.2.1) (fun _=>rfl) (fun x h=>⟨h.1,h.2.1,h.2.2.1⟩)
theorem o25{H:Type}{enc:TypeId×Value→H}{W:World}(fuel:Nat):dR enc Proofs.Tryz.prog W 25 (fun xs=>[eL cGAgg (xs)]) (okL 32 okGAgg) fuel:=by
 cases fuel with
 | zero=>exact cF
 | succ fuel=>exact dW Proofs.Tryz.underlying25 (by kernel_rfl) (by kernel_rfl) (o122 fuel) (fun xs=>eL cGAgg (xs)) (fun _=>rfl)
def okGPat(x:GPat):Prop:=cZ x.Pred∧dH x.Rep
theorem o93{H:Type}{enc:TypeId×Value→H}{W:World}(fuel:Nat):dR enc Proofs.Tryz.prog W 93 iQ okGPat fuel:=by
 cases fuel with
 | zero=>exact cF
 | succ fuel=>exact(dM Proofs.Tryz.underlying93 (aT (by kernel_rfl) (oExpr fuel).1 (aT (by kernel_rfl) (cK Proofs.Tryz.underlying3 fuel) eZ)) (by kernel_rfl)).map (fun x=>GPat.mk x.1 x.2.1) (fun _=>rfl) (fun x h=>⟨h.1,h.2.1⟩)
theorem o26{H:Type}{enc:TypeId×Value→H}{W:World}(fuel:Nat):dR enc Proofs.Tryz.prog W 26 (fun xs=>[eL iQ (xs)]) (okL 64 okGPat) fuel:=by
 cases fuel with
 | zero=>exact cF
 | succ fuel=>exact dW Proofs.Tryz.underlying26 (by kernel_rfl) (by kernel_rfl) (o93 fuel) (fun xs=>eL iQ (xs)) (fun _=>rfl)
def okGCol(x:GCol):Prop:=okStr x.Name∧dH x.Type_∧okStr x.Unit
theorem o354{H:Type}{enc:TypeId×Value→H}{W:World}(fuel:Nat):dR enc Proofs.Tryz.prog W 354 cGCol okGCol fuel:=by
 cases fuel with
 | zero=>exact cF
 | succ fuel=>exact(dM Proofs.Tryz.underlying354 (aT (by kernel_rfl) (eX Proofs.Tryz.underlying9 fuel) (aT (by kernel_rfl) (cK Proofs.Tryz.underlying3 fuel) (aT (by kernel_rfl) (eX Proofs.Tryz.underlying9 fuel) eZ))) (by kernel_rfl)).map (fun x=>GCol.mk x.1 x.2.1 x.2.2.1) (fun _=>rfl) (fun x h=>⟨h.1,h.2.1,h.2.2.1⟩)
theorem o27{H:Type}{enc:TypeId×Value→H}{W:World}(fuel:Nat):dR enc Proofs.Tryz.prog W 27 (fun xs=>[eL cGCol (xs)]) (okL 40 okGCol) fuel:=by
 cases fuel with
 | zero=>exact cF
 | succ fuel=>exact dW Proofs.Tryz.underlying27 (by kernel_rfl) (by kernel_rfl) (o354 fuel) (fun xs=>eL cGCol (xs)) (fun _=>rfl)
def iL(x:aE):Prop:=dH x.Op∧okL 8 dH x.In∧okStr x.Source∧dH x.Schema∧okL 56 cZ x.Exprs∧dH x.Kind∧dH x.Size∧dH x.Step∧okL 8 dH x.Key∧okL 8 dH x.Key2∧dH x.Before∧dH x.After∧dH x.Keep∧okL 32 okGAgg x.Aggs∧okL 64 okGPat x.Seq∧okL 40 okGCol x.Cols
theorem o29{H:Type}{enc:TypeId×Value→H}{W:World}(fuel:Nat):dR enc Proofs.Tryz.prog W 29 cGNode iL fuel:=by
 cases fuel with
 | zero=>exact cF
 | succ fuel=>exact(dM Proofs.Tryz.underlying29 (aT (by kernel_rfl) (cK Proofs.Tryz.underlying3 fuel) (aT (by kernel_rfl) (o23 fuel) (aT (by kernel_rfl) (eX Proofs.Tryz.underlying9 fuel) (aT (by kernel_rfl) (cK Proofs.Tryz.underlying3 fuel) (aT (by kernel_rfl) (oExpr fuel).2 (aT (by kernel_rfl) (cK Proofs.Tryz.underlying3 fuel) (aT (by kernel_rfl) (cK Proofs.Tryz.underlying3 fuel) (aT (by kernel_rfl) (cK Proofs.Tryz.underlying3 fuel) (aT (by kernel_rfl) (o23 fuel) (aT (by kernel_rfl) (o23 fuel) (aT (by kernel_rfl) (cK Proofs.Tryz.underlying3 fuel) (aT (by kernel_rfl) (cK Proofs.Tryz.underlying3 fuel) (aT (by kernel_rfl) (cK Proofs.Tryz.underlying3 fuel) (aT (by kernel_rfl) (o25 fuel) (aT (by kernel_rfl) (o26 fuel) (aT (by kernel_rfl) (o27 fuel) eZ)))))))))))))))) (by kernel_rfl)).map (fun x=>aE.mk x.1 x.2.1 x.2.2.1 x.2.2.2.1 x.2.2.2.2.1 x.2.2.2.2.2.1 x.2.2.2.2.2.2.1 x.2.2.2.2.2.2.2.1 x.2.2.2.2.2.2.2.2.1 x.2.2.2.2.2.2.2.2.2.1 x.2.2.2.2.2.2.2.2.2.2.1 x.2.2.2.2.2.2.2.2.2.2.2.1 x.2.2.2.2.2.2.2.2.2.2.2.2.1 x.2.2.2.2.2.2.2.2.2.2.2.2.2.1 x.2.2.2.2.2.2.2.2.2.2.2.2.2.2.1 x.2.2.2.2.2.2.2.2.2.2.2.2.2.2.2.1) (fun _=>rfl) (fun x h=>⟨h.1,h.2.1,h.2.2.1,h.2.2.2.1,h.2.2.2.2.1,h.2.2.2.2.2.1,h.2.2.2.2.2.2.1,h.2.2.2.2.2.2.2.1,h.2.2.2.2.2.2.2.2.1,h.2.2.2.2.2.2.2.2.2.1,h.2.2.2.2.2.2.2.2.2.2.1,h.2.2.2.2.2.2.2.2.2.2.2.1,h.2.2.2.2.2.2.2.2.2.2.2.2.1,h.2.2.2.2.2.2.2.2.2.2.2.2.2.1,h.2.2.2.2.2.2.2.2.2.2.2.2.2.2.1,h.2.2.2.2.2.2.2.2.2.2.2.2.2.2.2.1⟩)
def okGValue(x:aC):Prop:=dH x.Kind∧dH x.N∧okStr x.S
theorem o67{H:Type}{enc:TypeId×Value→H}{W:World}(fuel:Nat):dR enc Proofs.Tryz.prog W 67 bM okGValue fuel:=by
 cases fuel with
 | zero=>exact cF
 | succ fuel=>exact(dM Proofs.Tryz.underlying67 (aT (by kernel_rfl) (cK Proofs.Tryz.underlying3 fuel) (aT (by kernel_rfl) (cK Proofs.Tryz.underlying3 fuel) (aT (by kernel_rfl) (eX Proofs.Tryz.underlying9 fuel) eZ))) (by kernel_rfl)).map (fun x=>aC.mk x.1 x.2.1 x.2.2.1) (fun _=>rfl) (fun x h=>⟨h.1,h.2.1,h.2.2.1⟩)
theorem o48{H:Type}{enc:TypeId×Value→H}{W:World}(fuel:Nat):dR enc Proofs.Tryz.prog W 48 (fun xs=>[eL bM (xs)]) (okL 32 okGValue) fuel:=by
 cases fuel with
 | zero=>exact cF
 | succ fuel=>exact dW Proofs.Tryz.underlying48 (by kernel_rfl) (by kernel_rfl) (o67 fuel) (fun xs=>eL bM (xs)) (fun _=>rfl)
def fO(x:aA):Prop:=dH x.Time∧okL 32 okGValue x.Row∧dH x.N
theorem o50{H:Type}{enc:TypeId×Value→H}{W:World}(fuel:Nat):dR enc Proofs.Tryz.prog W 50 aH fO fuel:=by
 cases fuel with
 | zero=>exact cF
 | succ fuel=>exact(dM Proofs.Tryz.underlying50 (aT (by kernel_rfl) (cK Proofs.Tryz.underlying3 fuel) (aT (by kernel_rfl) (o48 fuel) (aT (by kernel_rfl) (cK Proofs.Tryz.underlying3 fuel) eZ))) (by kernel_rfl)).map (fun x=>aA.mk x.1 x.2.1 x.2.2.1) (fun _=>rfl) (fun x h=>⟨h.1,h.2.1,h.2.2.1⟩)
theorem o37{H:Type}{enc:TypeId×Value→H}{W:World}(fuel:Nat):dR enc Proofs.Tryz.prog W 37 (fun xs=>[eL aH (xs)]) (okL 40 fO) fuel:=by
 cases fuel with
 | zero=>exact cF
 | succ fuel=>exact dW Proofs.Tryz.underlying37 (by kernel_rfl) (by kernel_rfl) (o50 fuel) (fun xs=>eL aH (xs)) (fun _=>rfl)
def dT(x:aF):Prop:=okStr x.Name∧okL 8 dH x.Params∧dH x.Result∧cZ x.Body
theorem o150{H:Type}{enc:TypeId×Value→H}{W:World}(fuel:Nat):dR enc Proofs.Tryz.prog W 150 bA dT fuel:=by
 cases fuel with
 | zero=>exact cF
 | succ fuel=>exact(dM Proofs.Tryz.underlying150 (aT (by kernel_rfl) (eX Proofs.Tryz.underlying9 fuel) (aT (by kernel_rfl) (o23 fuel) (aT (by kernel_rfl) (cK Proofs.Tryz.underlying3 fuel) (aT (by kernel_rfl) (oExpr fuel).1 eZ)))) (by kernel_rfl)).map (fun x=>aF.mk x.1 x.2.1 x.2.2.1 x.2.2.2.1) (fun _=>rfl) (fun x h=>⟨h.1,h.2.1,h.2.2.1,h.2.2.2.1⟩)
theorem o22{H:Type}{enc:TypeId×Value→H}{W:World}(fuel:Nat):dR enc Proofs.Tryz.prog W 22 (fun xs=>[eL bA (xs)]) (okL 104 dT) fuel:=by
 cases fuel with
 | zero=>exact cF
 | succ fuel=>exact dW Proofs.Tryz.underlying22 (by kernel_rfl) (by kernel_rfl) (o150 fuel) (fun xs=>eL bA (xs)) (fun _=>rfl)
def bT(x:aK):Prop:=dH x.Do∧dH x.C∧okL 40 fO x.L
theorem o39{H:Type}{enc:TypeId×Value→H}{W:World}(fuel:Nat):dR enc Proofs.Tryz.prog W 39 aU bT fuel:=by
 cases fuel with
 | zero=>exact cF
 | succ fuel=>exact(dM Proofs.Tryz.underlying39 (aT (by kernel_rfl) (cK Proofs.Tryz.underlying3 fuel) (aT (by kernel_rfl) (cK Proofs.Tryz.underlying3 fuel) (aT (by kernel_rfl) (o37 fuel) eZ))) (by kernel_rfl)).map (fun x=>aK.mk x.1 x.2.1 x.2.2.1) (fun _=>rfl) (fun x h=>⟨h.1,h.2.1,h.2.2.1⟩)
theorem o30{H:Type}{enc:TypeId×Value→H}{W:World}(fuel:Nat):dR enc Proofs.Tryz.prog W 30 (fun xs=>[eL aU (xs)]) (okL 40 bT) fuel:=by
 cases fuel with
 | zero=>exact cF
 | succ fuel=>exact dW Proofs.Tryz.underlying30 (by kernel_rfl) (by kernel_rfl) (o39 fuel) (fun xs=>eL aU (xs)) (fun _=>rfl)
end Go.PL
namespace Go.PL
open Go
set_option linter.unusedVariables false
set_option maxRecDepth 20000
theorem cQ{S R:Type}{b:Bool}{bd:S→Option (S⊕R)}(idx:S→Int)(N:Nat)(hN:N≤1000000000000000)(I:S→Prop){Q:R→Prop}
  (h:∀ s (k:Nat),I s→idx s=k→k≤N→Sq b (bd s) (sel (fun s'=>idx s'=IntKind.i64.wrap ((k:Int)+1)∧k<N∧I s') Q)){s:S}(hs:I s)(h0:idx s=0):Sq b (cA bd s) Q:=by
 refine Sq.while (fun s=>I s∧∃ k:Nat,idx s=k∧k≤N) (fun s=>N-(idx s).toNat) (fun s hs=>?_) ⟨hs,0,h0,by omega⟩
 obtain⟨hI,k,hk,hkN⟩:=hs
 refine(h s k hI hk hkN).imp fun z hz=>?_
 cases z with
 | inr r=>exact hz
 | inl s'=>
  obtain⟨q1,q2,q3⟩:=hz
  rw[aL (by omega)]at q1
  exact⟨⟨q3,k+1,q1,by omega⟩,by rw[q1,hk]; omega⟩
theorem cZ.len{e:aW}(h:cZ e):e.Args.length≤1048576:=by cases h; assumption
theorem cZ.arg{e:aW}(h:cZ e):∀ x,x∈e.Args→cZ x:=by cases h; assumption
theorem sizeOf_arg{e x:aW}(h:x∈e.Args):SizeOf.sizeOf x<SizeOf.sizeOf e:=by
 cases e with
 | mk a b s l=>
  have:=List.sizeOf_lt_of_mem h
  simp only[aW.Args]at this
  simp only[aW.mk.sizeOf_spec]
  omega
theorem G79_sp(e:aW)(h:cZ e):Sp (G79 e) (fun _=>True):=by
 refine fixF_sq (C:=fun (a:aW) (x:Option Int)=>Con Proofs.Tryz.prog 129 [.t (cJ a)] x (fun (y:Int)=>.t (.int .i64 (y)))) (fun a=>⟨bJ Proofs.Tryz.func129 (by kernel_rfl),fun _ h=>nomatch h⟩) (fun rec a=>T79 rec a) (fun rec a=>T79_ok rec a)
  cZ (fun e=>SizeOf.sizeOf e) (fun _ _=>True) (fun b f e he hrec=>?_) true e h
 have hl:=he.len
 unfold T79
 simp only[Tr.den,bL]
 refine cQ (fun s:Int×Int=>s.2) e.Args.length (by omega) (fun _=>True) (fun s k _ hk hkN=>?_) trivial rfl
 obtain⟨v1,v2⟩:=s
 simp only at hk
 subst hk
 unfold T79_L0
 simp only[Tr.den,Int.toNat_natCast]
 by_cases hc:k<e.Args.length
 ·rw[if_pos (bH (by omega)),if_pos (by omega)]
  refine Sq.bind _ (hrec _ (he.arg _ (aQ hc)) (sizeOf_arg (aQ hc))) fun r _=>aB.2 ⟨rfl,hc,trivial⟩
 ·rw[if_neg (bK (by omega))]
  exact aB.2 (aB.2 trivial)
theorem G80_sp(e:aW)(h:cZ e):Sp (G80 e) (fun _=>True):=by
 refine fixF_sq (C:=fun (a:aW) (x:Option Int)=>Con Proofs.Tryz.prog 130 [.t (cJ a)] x (fun (y:Int)=>.t (.int .i64 (y)))) (fun a=>⟨bJ Proofs.Tryz.func130 (by kernel_rfl),fun _ h=>nomatch h⟩) (fun rec a=>T80 rec a) (fun rec a=>T80_ok rec a)
  cZ (fun e=>SizeOf.sizeOf e) (fun _ _=>True) (fun b f e he hrec=>?_) true e h
 have hl:=he.len
 unfold T80
 simp only[Tr.den,bL]
 refine cQ (fun s:Int×Int=>s.2) e.Args.length (by omega) (fun _=>True) (fun s k _ hk hkN=>?_) trivial rfl
 obtain⟨v1,v2⟩:=s
 simp only at hk
 subst hk
 unfold T80_L0
 simp only[Tr.den,Int.toNat_natCast]
 by_cases hc:k<e.Args.length
 ·rw[if_pos (bH (by omega)),if_pos (by omega)]
  refine Sq.bind _ (hrec _ (he.arg _ (aQ hc)) (sizeOf_arg (aQ hc))) fun r _=>aB.2 ⟨rfl,hc,trivial⟩
 ·rw[if_neg (bK (by omega))]
  exact aB.2 (aB.2 trivial)
theorem G150_sp(fs:List Int)(e:aW)(hf:fs.length≤1100000)(h:cZ e):Sp (G150 fs e) (fun _=>True):=by
 refine fixF_sq (C:=fun (a:(List Int)×aW) (x:Option Int)=>Con Proofs.Tryz.prog 211 [.t (eL bC (a.1)),.t (cJ a.2)] x (fun (y:Int)=>.t (.int .i64 (y)))) (fun a=>⟨bJ Proofs.Tryz.func211 (by kernel_rfl),fun _ h=>nomatch h⟩) (fun rec a=>T150 rec a.1 a.2) (fun rec a=>T150_ok rec a.1 a.2)
  (fun a=>a.1.length≤1100000∧cZ a.2) (fun a=>SizeOf.sizeOf a.2) (fun _ _=>True) (fun b f a ha hrec=>?_) true (fs,e) ⟨hf,h⟩
 obtain⟨fs,e⟩:=a
 obtain⟨hf,he⟩:=ha
 simp only at hf he hrec ⊢
 have hl:=he.len
 unfold T150
 simp only[Tr.den,bL]
 refine cQ (fun s:List Int×Int=>s.2) e.Args.length (by omega) (fun s=>s.1.length=s.2.toNat) (fun s k hI hk hkN=>?_) rfl rfl
 obtain⟨v1,v2⟩:=s
 simp only at hk hI
 subst hk
 unfold T150_L0
 simp only[Tr.den,Int.toNat_natCast]at hI ⊢
 by_cases hc:k<e.Args.length
 ·rw[if_pos (bH (by omega)),if_pos (by omega)]
  refine Sq.bind _ (hrec (fs,e.Args.getD k default) ⟨hf,he.arg _ (aQ hc)⟩ (sizeOf_arg (aQ hc))) fun r _=>?_
  rw[if_pos (by simp only[List.length_cons,List.length_nil]; omega)]
  refine aB.2 ⟨rfl,hc,?_⟩
  rw[aL (by omega)]; simp; omega
 ·rw[if_neg (bK (by omega))]
  refine aB.2 ?_
  simp only[sel]
  have hv:v1.length=e.Args.length:=by omega
  have rest:Sq b ((cA (fun s=>(T150_L1 s).den) (1,v1,0)).bind (sel (fun b10=>((if (e.Op==22)=true then (if decide (e.N≥0)=true then some (decide (e.N<(fs.length:Int))) else some false) else some false)).bind fun j11=>
    ((if j11=true then (if 0≤e.N∧e.N<(fs.length:Int) then some (if (1099511627776:Int)<IntKind.i64.wrap (b10+fs.getD e.N.toNat default) then (1099511627776:Int) else IntKind.i64.wrap (b10+fs.getD e.N.toNat default)) else none) else some b10)).bind fun j12=>some j12) some)) (fun _=>True):=by
   rw[bL]
   refine cQ (fun s:Int×List Int×Int=>s.2.2) v1.length (by omega) (fun s=>s.2.1=v1) (fun s k hI hk hkN=>?_) rfl rfl
   obtain⟨w1,w2,w3⟩:=s
   simp only at hk hI
   subst hk hI
   unfold T150_L1
   simp only[Tr.den,Int.toNat_natCast]
   by_cases hc:k<w2.length
   ·rw[if_pos (bH (by omega)),if_pos (by omega),if_pos hc]
    exact aB.2 ⟨rfl,hc,rfl⟩
   ·rw[if_neg (bK (by omega))]
    refine aB.2 ?_
    simp only[sel,dec_and]
    by_cases h22:(e.Op==22)=true
    ·rw[if_pos h22]
     simp only[Option.bind_some]
     by_cases hr:e.N≥0∧e.N<(fs.length:Int)
     ·rw[if_pos (bH hr),if_pos hr]; exact aB.2 trivial
     ·rw[if_neg (bK hr)]; exact aB.2 trivial
    ·rw[if_neg h22]; exact aB.2 trivial
  by_cases h21:(e.Op==21)=true
  ·rw[if_pos h21]
   simp only[Option.bind_some]
   by_cases h3:((v1.length:Int)==3)=true
   ·rw[if_pos h3]
    have h3':v1.length=3:=by have:=beq_iff_eq.1 h3; omega
    rw[if_pos (by omega),if_pos (by simp; omega),if_pos (by omega),if_pos (by simp; omega),if_pos (by omega),if_pos (by simp; omega)]
    exact aB.2 trivial
   ·rw[if_neg h3]; exact rest
  ·rw[if_neg h21]
   simp only[Option.bind_some,Bool.false_eq_true,if_false]
   exact rest
theorem okEs.get{l:List aW}(h:okL 56 cZ l){k:Nat}(hk:k<l.length):cZ (l.getD k default):=h.2 _ (aQ hk)
theorem G153_eq(a b c:Int):G153 a b c=some (decide (b≤a∧a≤c)):=by
 unfold G153 T153
 simp only[Tr.den,dec_and,Option.bind_some]
theorem G88_sp(l types:List Int)(h:l.length≤1048576):Sp (G88 l types) (fun r=>r=true→∀ c,c∈l→0≤c∧c<types.length):=by
 unfold G88 T88
 simp only[Tr.den,bL]
 refine cQ (fun s:Int=>s) l.length (by omega) (fun s=>∀ c,c∈l.take s.toNat→0≤c∧c<types.length) (fun s k hI hk hkN=>?_) (by simp) rfl
 subst hk
 unfold T88_L0
 simp only[Tr.den,Int.toNat_natCast]at hI ⊢
 by_cases hc:k<l.length
 ·rw[if_pos (bH (by omega)),if_pos (by omega)]
  by_cases h1:l.getD k default<0
  ·rw[if_pos (bH h1)]
   exact aB.2 (aB.2 fun h=>by cases h)
  ·rw[if_neg (bK h1),if_pos (by omega)]
   simp only[Option.bind_some]
   by_cases h2:l.getD k default≥types.length
   ·rw[if_pos (bH h2)]
    exact aB.2 (aB.2 fun h=>by cases h)
   ·rw[if_neg (bK h2)]
    refine aB.2 ⟨rfl,hc,fun c hcm=>?_⟩
    rw[aL (by omega),Int.toNat_natCast,aM hc,List.mem_append,List.mem_singleton]at hcm
    rcases hcm with hcm | rfl
    ·exact hI c hcm
    ·omega
 ·rw[if_neg (bK (by omega))]
  refine aB.2 (aB.2 fun _=>?_)
  rwa [List.take_of_length_le (by omega)]at hI
theorem G184_sp(v:aC):Sp (G184 v) (fun _=>True):=by
 unfold G184 T184
 simp only[Tr.den]
 refine bX (fun _=>aB.2 trivial) fun _=>bX (fun _=>Sq.bind (fun _=>True) ?_ fun _ _=>aB.2 trivial) fun _=>Sq.bind (fun _=>True) ?_ fun _ _=>aB.2 trivial
 ·exact bX (fun _=>aB.2 trivial) fun _=>aB.2 trivial
 ·exact bX (fun _=>bX (fun _=>aB.2 trivial) fun _=>bX (fun _=>aB.2 trivial) fun _=>aB.2 trivial) fun _=>aB.2 trivial
theorem G149_sp(r:List aC)(h:r.length≤1048576):Sp (G149 r) (fun _=>True):=by
 unfold G149 T149
 simp only[Tr.den,bL]
 refine cQ (fun s:Int=>s) r.length (by omega) (fun s=>True) (fun s k hI hk hkN=>?_) trivial rfl
 subst hk
 unfold T149_L0
 simp only[Tr.den,Int.toNat_natCast]
 by_cases hc:k<r.length
 ·rw[if_pos (bH (by omega)),if_pos (by omega)]
  refine Sq.bind _ (G184_sp _) fun q _=>?_
  cases q with
  | false=>exact aB.2 (aB.2 trivial)
  | true=>exact aB.2 ⟨rfl,hc,trivial⟩
 ·rw[if_neg (bK (by omega))]
  exact aB.2 (aB.2 trivial)
theorem G78_sp(r:List aC)(h:r.length≤1048576):Sp (G78 r) (fun _=>True):=by
 unfold G78 T78
 simp only[Tr.den]
 refine Sq.bind (fun _=>True) ?_ fun _ _=>aB.2 trivial
 exact bX (fun _=>Sq.bind _ (G149_sp r h) fun _ _=>aB.2 trivial) fun _=>aB.2 trivial
theorem G30_sp(x:aA)(types:List Int)(h:x.Row.length≤1048576)(ht:types.length≤1048576):Sp (G30 [x] types 1) (fun r=>r=true→0≤x.Time∧x.Time≤2199023255552∧x.Row.length=types.length):=by
 unfold G30 T30
 simp only[Tr.den,bL]
 refine cQ (fun s:Int=>s) 1 (by omega) (fun s=>1≤s.toNat→0≤x.Time∧x.Time≤2199023255552∧x.Row.length=types.length) (fun s k hI hk hkN=>?_) (by simp) rfl
 subst hk
 unfold T30_L0
 simp only[Tr.den,Int.toNat_natCast,dec_and,Option.bind_some]at hI ⊢
 by_cases hc:k<1
 ·obtain rfl:k=0:=by omega
  have e0:([x]:List aA).getD 0 default=x:=rfl
  have el:(([x]:List aA).length:Int)=1:=rfl
  rw[if_pos (bH (by omega)),if_pos (by omega)]
  have rest:0≤x.Time∧x.Time≤2199023255552∧x.Row.length=types.length →
    Sp ((cA (fun s=>(T30_L1 [x] types ((0:Nat):Int) s).den) 0).bind (sel (fun _=>some (Sum.inl (IntKind.i64.wrap (((0:Nat):Int)+1)))) some)) (sel (fun s':Int=>s'=IntKind.i64.wrap (((0:Nat):Int)+1)∧0<1∧(1≤s'.toNat→0≤x.Time∧x.Time≤2199023255552∧x.Row.length=types.length)) (fun r:Unit⊕Bool=>Sp (sel (fun _=>some (decide ((1:Int)≤1))) some r) (fun r=>r=true→0≤x.Time∧x.Time≤2199023255552∧x.Row.length=types.length))):=by
   intro hx
   have e2:(([x]:List aA).getD 0 default).Row.length=types.length:=hx.2.2
   refine bL.2 ?_
   refine cQ (fun s:Int=>s) types.length (by omega) (fun s=>True) (fun s k hI hk hkN=>?_) trivial rfl
   subst hk
   unfold T30_L1
   simp only[Tr.den,Int.toNat_natCast]
   by_cases hc:k<types.length
   ·rw[if_pos (bH (by omega)),if_pos (by omega),if_pos (by omega),if_pos (by omega)]
    split
    ·exact aB.2 (aB.2 (aB.2 fun h=>by cases h))
    ·exact aB.2 ⟨rfl,hc,trivial⟩
   ·rw[if_neg (bK (by omega))]
    exact aB.2 (aB.2 ⟨rfl,by omega,fun _=>hx⟩)
  refine Sq.bind (fun j:Bool=>j=false→0≤x.Time∧x.Time≤2199023255552∧x.Row.length=types.length) ?_ (fun j hj=>?_)
  ·refine bX (fun _=>aB.2 fun h=>by cases h) fun q1=>sq_grd (by omega) (bX (fun _=>aB.2 fun h=>by cases h) fun q2=>sq_grd (by omega) (bX (fun _=>aB.2 fun h=>by cases h) fun q3=>sq_grd (by omega) (bX (fun _=>aB.2 fun h=>by cases h) fun q4=>sq_grd (by omega) (bX (fun _=>aB.2 fun h=>by cases h) fun q5=>sq_grd (by omega) (Sq.bind _ (G78_sp _ h) fun r _=>aB.2 fun _=>?_)))))
   have q1:=of_decide_eq_false q1
   have q2:=of_decide_eq_false q2
   simp only[bne_eq_false_iff_eq]at q5
   rw[e0]at q1 q2 q5
   omega
  ·cases j with
   | true=>exact aB.2 (aB.2 fun h=>by cases h)
   | false=>exact rest (hj rfl)
 ·obtain rfl:k=1:=by omega
  rw[if_neg (bK (by simp))]
  exact aB.2 (aB.2 fun _=>hI (by omega))
theorem fO.okd{l:List aA}(h:okL 40 fO l):okD l:=⟨fun d hd=>by
 have:=(h.2 d hd).2.1.1
 unfold okR; omega,fun d hd=>(h.2 d hd).2.2⟩
theorem ofK_app(n:aE)(i:Int)(k:ByteArray)(l r:List aA):ofK n i k (l++r)=ofK n i k l++ofK n i k r:=List.filter_append ..
theorem eH.ofK{l r:List aA}(h:eH l r)(n:aE)(i:Int)(k:ByteArray):eH (ofK n i k l) (ofK n i k r):=h.filter (fun p=>decide (keyB n i p.2=k))
theorem eH.aft{l r:List aA}(h:eH l r)(t:Int):eH (l.filter (PL.aft t)) (r.filter (PL.aft t)):=h.filter (fun p=>decide (t<p.1))
theorem okN.sub{l r:List aA}(h:okN l)(hs:∀ x,x∈r→x∈l):okN r:=fun x hx=>h x (hs x hx)
theorem dF{n:aE}{i:Int}{k:ByteArray}{l:List aA}{x:aA}:x∈ofK n i k l↔x∈l∧kd n i x=k:=by
 unfold ofK
 rw[List.mem_filter,decide_eq_true_eq]
theorem ofK_push{n:aE}{i:Int}{k:ByteArray}{a l:List aA}{t:Int}(ha:Can a)(hl:okN l)(hal:∀ d,d∈l→aft t d=true):
  cons (ofK n i k (a.filter (aft t))++ofK n i k (cons l))=ofK n i k ((cons (a++l)).filter (aft t)):=by
 have hal':okN (a++l):=fun x hx=>(List.mem_append.1 hx).elim (ha.n64 x) (hl x)
 have hcl:=dB hl
 refine cons_eq ((((dB hal').filter _)).filter _) (fun x hx=>?_) ?_
 ·rcases List.mem_append.1 hx with hx | hx
  ·exact ha.n64 x (List.mem_filter.1 (dF.1 hx).1).1
  ·exact hcl.n64 x (dF.1 hx).1
 ·have h1:eH (ofK n i k ((cons (a++l)).filter (aft t))) (ofK n i k ((a++l).filter (aft t))):=((dC (a++l)).aft t).ofK n i k
  have h2:ofK n i k ((a++l).filter (aft t))=ofK n i k (a.filter (aft t))++ofK n i k l:=by
   rw[List.filter_append,List.filter_eq_self.2 hal,ofK_app]
  rw[h2]at h1
  exact h1.trans (eH.app (.refl _) ((dC l).ofK n i k).symm)
theorem aft_aft{t t':Int}(h:t≤t')(l:List aA):(l.filter (aft t)).filter (aft t')=l.filter (aft t'):=by
 rw[List.filter_filter]
 congr 1
 funext d
 unfold aft
 rw[Bool.eq_iff_iff,Bool.and_eq_true,decide_eq_true_eq,decide_eq_true_eq]
 omega
theorem filter_comm'(p q:aA→Bool)(l:List aA):(l.filter p).filter q=(l.filter q).filter p:=by
 rw[List.filter_filter,List.filter_filter]
 congr 1
 funext d
 exact Bool.and_comm _ _
theorem gH{f g:ByteArray→Int}{ks:List ByteArray}(h:∀ k,k∈ks→f k=g k):eT f ks=eT g ks:=by
 induction ks with
 | nil=>rfl
 | cons k ks ih=>simp only[eT,h k List.mem_cons_self,ih fun k' hk=>h k' (List.mem_cons_of_mem _ hk)]
theorem sumK_add(f g:ByteArray→Int)(ks:List ByteArray):eT (fun k=>f k+g k) ks=eT f ks+eT g ks:=by
 induction ks with
 | nil=>rfl
 | cons k ks ih=>simp only[eT,ih]; omega
theorem sumK_zero(ks:List ByteArray):eT (fun _=>0) ks=0:=by
 induction ks with
 | nil=>rfl
 | cons k ks ih=>simp only[eT,ih]; rfl
theorem sumK_one(q:ByteArray)(v:Int):∀ (ks:List ByteArray),ks.Nodup→q∈ks→eT (fun k=>if q=k then v else 0) ks=v
 | [],_,h=>by simp at h
 | k::ks,hn,h=>by
  have h1:=List.nodup_cons.1 hn
  simp only[eT]
  by_cases hq:q=k
  ·subst hq
   rw[if_pos rfl,gH (f:=fun k=>if q=k then v else 0) (g:=fun _=>0) (fun k' hk'=>if_neg (fun he:q=k'=>h1.1 (he▸hk'))),sumK_zero]; omega
  ·rw[if_neg hq,sumK_one q v ks h1.2 ((List.mem_cons.1 h).resolve_left hq)]; omega
theorem sumK_ofK(p:Pl→Bool)(n:aE)(i:Int)(ks:List ByteArray)(hn:ks.Nodup):∀ (l:List aA),(∀ x,x∈l→kd n i x∈ks)→eT (fun k=>wt p (ofK n i k l)) ks=wt p l
 | [],_=>by
  refine Eq.trans (gH (g:=fun _=>0) fun k _=>rfl) (sumK_zero ks)
 | x::l,h=>by
  have ih:=sumK_ofK p n i ks hn l fun y hy=>h y (List.mem_cons_of_mem _ hy)
  have e:∀ k,wt p (ofK n i k (x::l))=(if kd n i x=k then (if p (pl x)=true then x.N else 0) else 0)+wt p (ofK n i k l):=by
   intro k
   unfold ofK
   by_cases hk:kd n i x=k
   ·rw[List.filter_cons_of_pos (p:=fun d=>decide (kd n i d=k)) (bH hk),if_pos hk]; rfl
   ·rw[List.filter_cons_of_neg (p:=fun d=>decide (kd n i d=k)) (bK hk),if_neg hk]; omega
  rw[gH fun k _=>e k,sumK_add,ih,sumK_one _ _ ks hn (h x List.mem_cons_self)]
  rfl
abbrev KP:=List (ByteArray×List aA)
def setP(m:KP)(k:ByteArray)(l:List aA):KP:=if l=[] then mdel m k else mput m k l
def cV(m:KP)(k:ByteArray):List aA:=(aY m k).getD []
structure MP (m:KP):Prop where
 mc:MC m
 ne:∀ k l,aY m k=some l→l≠[]
theorem MP.nil:MP []:=⟨MC_nil,fun k l h=>by simp[aY]at h⟩
theorem MP.look{m:KP}(h:MP m)(k:ByteArray):aY m k=if cV m k=[] then none else some (cV m k):=by
 unfold cV
 cases hc:aY m k with
 | none=>rfl
 | some l=>rw[Option.getD_some,if_neg (h.ne k l hc)]
theorem MP.key{m:KP}(h:MP m){k:ByteArray}:k∈aZ m↔cV m k≠[]:=by
 rw[mkeys_look,h.look]
 constructor
 ·rintro⟨c,hc⟩ h0
  rw[if_pos h0]at hc; cases hc
 ·intro h0
  exact⟨_,if_neg h0⟩
theorem MP.ext{m w:KP}(h:MP m)(h':MP w)(e:∀ k,cV m k=cV w k):m=w:=h.mc.ext LO.bytes h'.mc fun k=>by rw[h.look,h'.look,e]
theorem setP_look(m:KP)(k:ByteArray)(l:List aA)(k':ByteArray):aY (setP m k l) k'=if k=k' then (if l=[] then none else some l) else aY m k':=by
 unfold setP
 split
 ·exact mlook_mdel m k k'
 ·exact mlook_mput m k l k'
theorem setP_val(m:KP)(k:ByteArray)(l:List aA)(k':ByteArray):cV (setP m k l) k'=if k=k' then l else cV m k':=by
 unfold cV
 rw[setP_look]
 split
 ·split
  ·rename_i h; rw[h]; rfl
  ·rfl
 ·rfl
theorem MP.set{m:KP}(h:MP m)(k:ByteArray)(l:List aA):MP (setP m k l):=by
 refine⟨?_,fun k' l' hk=>?_⟩
 ·unfold setP
  split
  ·exact h.mc.mdel k
  ·exact h.mc.mput LO.bytes k l
 ·rw[setP_look]at hk
  split at hk
  ·split at hk
   ·cases hk
   ·rename_i h0; cases hk; exact h0
  ·exact h.ne k' l' hk
def setsP(f:ByteArray→List aA)(ks:List ByteArray)(m:KP):KP:=ks.foldl (fun m' k=>setP m' k (f k)) m
theorem setsP_mp(f:ByteArray→List aA):∀ (ks:List ByteArray) {m:KP},MP m→MP (setsP f ks m):=by
 intro ks
 induction ks with
 | nil=>exact fun h=>h
 | cons a ks ih=>exact fun h=>ih (h.set _ _)
theorem jG(f:ByteArray→List aA)(k:ByteArray):∀ (ks:List ByteArray) (m:KP),(k∈ks→cV (setsP f ks m) k=f k)∧(k∉ks→cV (setsP f ks m) k=cV m k):=by
 intro ks
 induction ks with
 | nil=>exact fun m=>⟨fun h=>by simp at h,fun _=>rfl⟩
 | cons a ks ih=>
  intro m
  have ih:=ih (setP m a (f a))
  unfold setsP at ih ⊢
  rw[List.foldl_cons]
  refine⟨fun h=>?_,fun h=>?_⟩
  ·by_cases h':k∈ks
   ·exact ih.1 h'
   ·rw[ih.2 h',setP_val]
    rcases List.mem_cons.1 h with rfl | h
    ·rw[if_pos rfl]
    ·exact absurd h h'
  ·simp only[List.mem_cons,not_or]at h
   rw[ih.2 h.2,setP_val,if_neg (fun he=>h.1 he.symm)]
structure WInv (f:ByteArray→List aA)(ks:List ByteArray)(m:KP)(rem:List ByteArray)(m':KP):Prop where
 nd:rem.Nodup
 sub:∀ k,k∈rem→k∈ks
 mp:MP m'
 new:∀ k,k∈ks→k∉rem→cV m' k=f k
 old:∀ k,k∉ks∨k∈rem→cV m' k=cV m k
theorem WInv.start{f:ByteArray→List aA}{ks:List ByteArray}{m:KP}(h:ks.Nodup)(hm:MP m):WInv f ks m ks m:=⟨h,fun _ h=>h,hm,fun k h h'=>absurd h h',fun k _=>rfl⟩
theorem WInv.step{f:ByteArray→List aA}{ks:List ByteArray}{m:KP}{rem:List ByteArray}{m':KP}(h:WInv f ks m rem m'){k:ByteArray}(hk:k∈rem):WInv f ks m (fY rem k) (setP m' k (f k)):=by
 refine⟨kerase_nodup h.nd k,fun k' hk'=>h.sub k' ((kerase_mem h.nd).1 hk').2,h.mp.set _ _,fun k' q1 q2=>?_,fun k' q=>?_⟩
 ·rw[setP_val]
  by_cases hkk:k=k'
  ·subst hkk; rw[if_pos rfl]
  ·rw[if_neg hkk]
   exact h.new k' q1 fun h'=>q2 ((kerase_mem h.nd).2 ⟨fun he=>hkk he.symm,h'⟩)
 ·rw[setP_val]
  have hkk:¬ k=k':=by
   rintro rfl
   rcases q with q | q
   ·exact q (h.sub k hk)
   ·exact((kerase_mem h.nd).1 q).1 rfl
  rw[if_neg hkk]
  exact h.old k' (q.imp id fun q=>((kerase_mem h.nd).1 q).2)
theorem WInv.fin{f:ByteArray→List aA}{ks:List ByteArray}{m:KP}{m':KP}(hm:MP m)(h:WInv f ks m [] m'):m'=setsP f ks m:=by
 refine h.mp.ext (setsP_mp f ks hm) fun k=>?_
 by_cases hk:k∈ks
 ·rw[h.new k hk (by simp),(jG f k ks m).1 hk]
 ·rw[h.old k (.inl hk),(jG f k ks m).2 hk]
def iY(n:aE)(l:List aA)(m:KP):KP:=setsP (fun k=>cons (cV m k++ofK n 0 k l)) (aZ (bS n 0 l)) m
def closeP(t:Int)(m:KP):KP:=setsP (fun k=>(cV m k).filter (aft t)) (aZ m) m
theorem eV{n:aE}{l:List aA}{k:ByteArray}:k∈aZ (bS n 0 l)↔ofK n 0 k l≠[]:=by
 rw[mkeys_look,iR]
 constructor
 ·rintro⟨c,hc⟩ h0
  rw[if_pos h0]at hc; cases hc
 ·intro h0
  exact⟨_,if_neg h0⟩
theorem pushP_val{n:aE}{l:List aA}{m:KP}(k:ByteArray)(hc:Can (cV m k)):cV (iY n l m) k=cons (cV m k++ofK n 0 k l):=by
 by_cases hk:k∈aZ (bS n 0 l)
 ·exact(jG _ k _ m).1 hk
 ·unfold iY
  rw[(jG _ k _ m).2 hk]
  have h0:ofK n 0 k l=[]:=Classical.byContradiction fun h=>hk (eV.2 h)
  rw[h0,List.append_nil,cons_id hc]
theorem closeP_val{t:Int}{m:KP}(hm:MP m)(k:ByteArray):cV (closeP t m) k=(cV m k).filter (aft t):=by
 by_cases hk:k∈aZ m
 ·exact(jG _ k _ m).1 hk
 ·unfold closeP
  rw[(jG _ k _ m).2 hk]
  have h0:cV m k=[]:=Classical.byContradiction fun h=>hk (hm.key.2 h)
  rw[h0]; rfl
structure QInv (n:aE)(a:List aA)(t:Int)(m:KP):Prop where
 mp:MP m
 val:∀ k,cV m k=ofK n 0 k (a.filter (aft t))
theorem QInv.init(n:aE)(t:Int):QInv n [] t []:=⟨.nil,fun k=>rfl⟩
theorem QInv.push{n:aE}{a:List aA}{t:Int}{m:KP}(h:QInv n a t m)(ha:Can a){l:List aA}(hl:okN l)(hal:∀ d,d∈l→aft t d=true):QInv n (cons (a++l)) t (iY n (cons l) m):=by
 refine⟨setsP_mp _ _ h.mp,fun k=>?_⟩
 rw[pushP_val k (by rw[h.val]; exact(ha.filter _).filter _),h.val,ofK_push ha hl hal]
theorem QInv.close{n:aE}{a:List aA}{t t':Int}{m:KP}(h:QInv n a t m)(ht:t≤t'):QInv n a t' (closeP t' m):=by
 refine⟨setsP_mp _ _ h.mp,fun k=>?_⟩
 rw[closeP_val h.mp,h.val]
 unfold ofK
 rw[filter_comm',aft_aft ht]
def allP(m:KP):List aA:=(aZ m).flatMap (cV m)
theorem wt_flat{α:Type}(p:Pl→Bool)(f:α→List aA):∀ ks:List α,wt p (ks.flatMap f)=(ks.map fun k=>wt p (f k)).foldr (·+·) 0
 | []=>rfl
 | k::ks=>by rw[List.flatMap_cons,dG,wt_flat p f ks]; rfl
theorem sumK_map(f:ByteArray→Int):∀ ks:List ByteArray,eT f ks=(ks.map f).foldr (·+·) 0
 | []=>rfl
 | k::ks=>by simp only[eT,sumK_map f ks,List.map_cons,List.foldr_cons]
theorem QInv.kept{n:aE}{a:List aA}{t:Int}{m:KP}(h:QInv n a t m)(ha:Can a):cons (allP m)=a.filter (aft t):=by
 have hN:okN (allP m):=fun x hx=>by
  obtain⟨k,_,hx⟩:=List.mem_flatMap.1 hx
  rw[h.val]at hx
  exact ha.n64 x (List.mem_filter.1 (dF.1 hx).1).1
 refine cons_eq (ha.filter _) hN fun p=>?_
 congr 1
 unfold allP
 rw[wt_flat,←sumK_map,←sumK_ofK p n 0 (aZ m) (h.mp.mc.nodup LO.bytes) (a.filter (aft t)) fun x hx=>h.mp.key.2 fun h0=>by
  rw[h.val]at h0
  have:x∈ofK n 0 (kd n 0 x) (a.filter (aft t)):=dF.2 ⟨hx,rfl⟩
  rw[h0]at this; simp at this]
 exact gH fun k _=>by rw[h.val]
abbrev LP:=List (ByteArray×List aA)
def skipU(n:aE)(a:Int):Nat→Int
 | 0=>a
 | k+1=>if ((n.Seq.getD k default).Rep==2)=true∧(gC .i64 (bF .i64 (skipU n a k) k) 1==1)=true then bitO .i64 (skipU n a k) (iG .i64 1 (k+1:Nat)) else skipU n a k
def fL(n:aE)(a:Int):Int:=skipU n a n.Seq.length
def manyU(n:aE):Nat→Int
 | 0=>0
 | k+1=>if ((n.Seq.getD k default).Rep==1)=true then bitO .i64 (manyU n k) (iG .i64 1 k) else manyU n k
def nxF(n:aE)(now:Int)(p:aN):Int:=fL n (bitO .i64 (iG .i64 (gC .i64 now p.fits_) 1) (gC .i64 (gC .i64 now p.fits_) (manyU n n.Seq.length)))
def gN(n:aE)(s:Int):Bool:=gC .i64 s (iG .i64 1 (n.Seq.length:Int)) != 0
theorem G375s0_eq(a:Int)(fs:List aF)(n:aE)(c:Int)(m:LP)(hn:n.Seq.length≤1000):G375s0 a fs n c m=some (fL n a):=by
 unfold G375s0 T375s0
 simp only[Tr.den]
 have h1:=bO (bd:=fun s=>(jE fs n c m s).den) (fun k=>(skipU n a k,(k:Int))) n.Seq.length (r:=.inl (fL n a)) (fun k hk=>?_) ?_
 ·exact(congrArg (fun x=>Option.bind x _) h1).trans rfl
 ·unfold jE
  simp only[Tr.den,Int.toNat_natCast]
  rw[if_pos (bH (by omega)),if_pos (by omega),aL (by omega)]
  conv=>rhs; rw[skipU]
  by_cases hr:((n.Seq.getD k default).Rep==2)=true
  ·rw[if_pos hr,if_pos (by omega)]
   simp only[Option.bind_some]
   by_cases hb:(gC .i64 (bF .i64 (skipU n a k) k) 1==1)=true
   ·rw[if_pos hb,if_pos (by omega),if_pos ⟨hr,hb⟩]; rfl
   ·rw[if_neg hb,if_neg (fun h=>hb h.2)]; rfl
  ·rw[if_neg hr]
   simp only[Option.bind_some,Bool.false_eq_true,if_false]
   rw[if_neg (fun h=>hr h.1)]
 ·unfold jE
  simp only[Tr.den]
  rw[if_neg (bK (by omega))]; rfl
theorem G375s1_eq(a:Int)(fs:List aF)(n:aE)(c:Int)(m:LP)(hn:n.Seq.length≤1000):G375s1 a fs n c m=some (fL n a):=by
 rw[←G375s0_eq a fs n c m hn]
 unfold G375s1 G375s0 T375s1 T375s0
 simp only[Tr.den]
 have e:∀ s,(T375s1_L0 fs n c m s).den=(jE fs n c m s).den:=by
  rintro⟨v1,v2⟩
  unfold T375s1_L0 jE
  simp only[Tr.den]
 simp only[e]
theorem G359s0_eq(fs:List aF)(n:aE)(c:Int)(m:LP)(hn:n.Seq.length≤1000):G359s0 fs n c m=some (fL n 1,manyU n n.Seq.length):=by
 unfold G359s0 T359s0
 simp only[Tr.den]
 have h1:=bO (bd:=fun s=>(T359s0_L0 fs n c m s).den) (fun k=>(manyU n k,(k:Int))) n.Seq.length (r:=.inl (manyU n n.Seq.length)) (fun k hk=>?_) ?_
 ·refine(congrArg (fun x=>Option.bind x _) h1).trans ?_
  simp only[Option.bind_some,sel]
  rw[G375s0_eq 1 fs n c m hn]; rfl
 ·unfold T359s0_L0
  simp only[Tr.den,Int.toNat_natCast]
  rw[if_pos (bH (by omega)),if_pos (by omega),aL (by omega)]
  conv=>rhs; rw[manyU]
  by_cases hr:((n.Seq.getD k default).Rep==1)=true
  ·rw[if_pos hr,if_pos (by omega),if_pos hr]; rfl
  ·rw[if_neg hr,if_neg hr]; rfl
 ·unfold T359s0_L0
  simp only[Tr.den]
  rw[if_neg (bK (by omega))]
theorem G376s0_eq(now:Int)(p:aN)(fs:List aF)(n:aE)(c:Int)(m:LP)(hn:n.Seq.length≤1000):G376s0 now p fs n c m (manyU n n.Seq.length)=some (nxF n now p):=by
 unfold G376s0 T376s0
 simp only[Tr.den]
 rw[G375s1_eq _ fs n c m hn]; rfl
def fX(n:aE)(row:List aC):List aC:=n.Key.map fun c=>row.getD c.toNat default
theorem G357s0_eq(row:List aC)(fs:List aF)(n:aE)(c:Int)(m:LP)(hc:okCols n.Key row)(hl:n.Key.length≤1000):G357s0 row fs n c m=some (fX n row):=by
 unfold G357s0 T357s0
 simp only[Tr.den]
 have h1:=bO (bd:=fun s=>(T357s0_L0 row n s).den) (fun k=>((n.Key.take k).map fun c=>row.getD c.toNat default,(k:Int))) n.Key.length (r:=.inl (fX n row)) (fun k hk=>?_) ?_
 ·rw[bR (by omega) (by omega)]
  rw[if_pos ⟨⟨by omega,by omega⟩,by omega⟩]
  exact(congrArg (fun x=>Option.bind x _) h1).trans rfl
 ·unfold T357s0_L0
  simp only[Tr.den,Int.toNat_natCast]
  have h2:=hc _ (aQ hk)
  rw[if_pos (bH (by omega)),if_pos (by omega),if_pos h2,if_pos (by simp; omega),aL (by omega),aM hk,List.map_append]
  rfl
 ·unfold T357s0_L0
  simp only[Tr.den]
  rw[if_neg (bK (by omega)),List.take_length]; rfl
theorem keyP_len(n:aE)(row:List aC):(fX n row).length=n.Key.length:=List.length_map _
theorem G340s0_eq(l:List aA)(fs:List aF)(n:aE)(c:Int)(m:LP)(h:okI n 0 l)(hc:n.Key.length≤1000)(hn:l.length≤1000000000000):G340s0 l fs n c m=some (bS n 0 l):=by
 unfold G340s0 T340s0
 simp only[Tr.den]
 have h1:=bO (bd:=fun s=>(T340s0_L0 l fs n c m s).den) (fun k=>(bS n 0 (l.take k),(k:Int))) l.length (r:=.inl (bS n 0 l)) (fun k hk'=>?_) ?_
 ·exact(congrArg (fun x=>Option.bind x _) h1).trans rfl
 ·unfold T340s0_L0
  simp only[Tr.den,Int.toNat_natCast]
  have hm:=aQ hk'
  have hcl:okCols n.Key (l.getD k default).Row:=h.c _ hm
  rw[if_pos (bH (by omega)),if_pos (by omega),G357s0_eq _ fs n c m hcl hc]
  simp only[Option.bind_some]
  rw[G120_eq _ (fun v hv=>by
    obtain⟨c,hcm,rfl⟩:=List.mem_map.1 hv
    exact okVs.get (h.v _ hm) _) (by rw[keyP_len]; exact hc)]
  simp only[Option.bind_some]
  have h2:=iM n 0 (keyB n 0 (l.getD k default).Row) (l.take k)
  simp only[List.length_take]at h2
  have hkey:rowB (fX n (l.getD k default).Row)=keyB n 0 (l.getD k default).Row:=rfl
  rw[hkey,if_pos (by rw[groupM_get]; simp only[List.length_cons,List.length_nil]; omega),aL (by omega)]
  congr 3
  unfold bS
  rw[aM hk',List.foldl_append]
  rfl
 ·unfold T340s0_L0
  simp only[Tr.den]
  rw[if_neg (bK (by omega)),List.take_length]
theorem G339s0_eq(k:ByteArray)(l:List aA)(fs:List aF)(n:aE)(c:Int)(m:LP)(ks:List ByteArray):G339s0 k l fs n c m ks=some (setP m k l):=by
 unfold G339s0 T339s0
 simp only[Tr.den]
 unfold setP
 by_cases h:l=[]
 ·rw[if_pos (by rw[h]; rfl),if_pos h]; rfl
 ·rw[if_neg (fun h'=>h (List.eq_nil_of_length_eq_zero (by have:=beq_iff_eq.1 h'; omega))),if_neg h]; rfl
theorem G339s1_eq(k:ByteArray)(l:List aA)(fs:List aF)(n:aE)(c:Int)(m:LP):G339s1 k l fs n c m=some (setP m k l):=by
 unfold G339s1 T339s1
 simp only[Tr.den]
 unfold setP
 by_cases h:l=[]
 ·rw[if_pos (by rw[h]; rfl),if_pos h]; rfl
 ·rw[if_neg (fun h'=>h (List.eq_nil_of_length_eq_zero (by have:=beq_iff_eq.1 h'; omega))),if_neg h]; rfl
noncomputable def evV (fs:List aF)(e:aW)(d:aA):aC:=(G344 fs e d.Time d.Row).getD default
def okEv(fs:List aF)(n:aE)(l:List aA):Prop:=∀ d,d∈l→∀ i,i<n.Seq.length→(G344 fs (n.Seq.getD i default).Pred d.Time d.Row).isSome=true
theorem okEv.get{fs:List aF}{n:aE}{l:List aA}(h:okEv fs n l){d:aA}(hd:d∈l){i:Nat}(hi:i<n.Seq.length):G344 fs (n.Seq.getD i default).Pred d.Time d.Row=some (evV fs (n.Seq.getD i default).Pred d):=by
 have:=h d hd i hi
 obtain⟨v,hv⟩:=Option.isSome_iff_exists.1 this
 unfold evV
 rw[hv]; rfl
theorem okEv.sub{fs:List aF}{n:aE}{l r:List aA}(h:okEv fs n l)(hs:∀ x,x∈r→x∈l):okEv fs n r:=fun d hd=>h d (hs d hd)
noncomputable def fitU (fs:List aF)(n:aE)(d:aA):Nat→Int
 | 0=>0
 | k+1=>if ((evV fs (n.Seq.getD k default).Pred d).N==1)=true then bitO .i64 (fitU fs n d k) (iG .i64 1 k) else fitU fs n d k
def inW(n:aE)(lo hi:Int)(d:aA):Bool:=decide (lo-n.Size<d.Time)&&decide (d.Time≤hi)
noncomputable def plD (fs:List aF)(n:aE)(d:aA):List aN:=List.replicate d.N.toNat ⟨d.Time,fitU fs n d n.Seq.length⟩
noncomputable def plF (fs:List aF)(n:aE)(l:List aA)(lo hi:Int):List aN:=(l.filter (inW n lo hi)).flatMap (plD fs n)
theorem plF_len{fs:List aF}{n:aE}{lo hi:Int}:∀ {l:List aA},(∀ d,d∈l→d.N≤1000)→(plF fs n l lo hi).length≤l.length*1000
 | [],_=>by simp[plF]
 | d::l,h=>by
  have ih:=plF_len (fs:=fs) (n:=n) (lo:=lo) (hi:=hi) (l:=l) fun x hx=>h x (List.mem_cons_of_mem _ hx)
  have hd:=h d List.mem_cons_self
  unfold plF at ih ⊢
  rw[List.filter_cons,List.length_cons]
  split
  ·rw[List.flatMap_cons,List.length_append]
   unfold plD
   rw[List.length_replicate]
   unfold plD at ih
   omega
  ·omega
theorem plF_succ(fs:List aF)(n:aE)(l:List aA)(lo hi:Int){k:Nat}(hk:k<l.length):plF fs n (l.take (k+1)) lo hi=plF fs n (l.take k) lo hi++(if inW n lo hi (l.getD k default)=true then plD fs n (l.getD k default) else []):=by
 unfold plF
 rw[aM hk,List.filter_append,List.flatMap_append]
 congr 1
 rw[List.filter_cons]
 split
 ·simp
 ·simp
theorem G358s0_eq(l:List aA)(lo hi:Int)(fs:List aF)(n:aE)(c:Int)(m:LP)(hn:n.Seq.length≤1000)(hev:okEv fs n l)(hN:∀ d,d∈l→d.N≤1000)(hl:l.length≤1000000)
  (hlo:0≤lo∧lo≤4398046511104)(hs:0≤n.Size∧n.Size≤10000):G358s0 l lo hi fs n c m=some (plF fs n l lo hi):=by
 unfold G358s0 T358s0
 simp only[Tr.den]
 have h1:=bO (bd:=fun s=>(T358s0_L0 l lo hi fs n c m s).den) (fun k=>(plF fs n (l.take k) lo hi,(k:Int))) l.length (r:=.inl (plF fs n l lo hi)) (fun k hk=>?_) ?_
 ·exact(congrArg (fun x=>Option.bind x _) h1).trans rfl
 ·unfold T358s0_L0
  simp only[Tr.den,Int.toNat_natCast]
  have hm:=aQ hk
  have hNk:=hN _ hm
  have hpl:(plF fs n (l.take k) lo hi).length≤1000*1000000:=by
   have:=plF_len (fs:=fs) (n:=n) (lo:=lo) (hi:=hi) (l:=l.take k) fun d hd=>hN d (List.mem_of_mem_take hd)
   rw[List.length_take]at this
   omega
  rw[if_pos (bH (by omega)),if_pos (by omega),aL (by omega),bR (n:=lo-n.Size) (by omega) (by omega),plF_succ fs n l lo hi hk]
  by_cases h2:(l.getD k default).Time≤lo-n.Size
  ·rw[if_pos (bH h2),if_neg (by unfold inW; rw[decide_eq_false (by omega)]; simp)]
   simp
  ·rw[if_neg (bK h2)]
   simp only[Option.bind_some]
   by_cases h3:(l.getD k default).Time>hi
   ·rw[if_pos (bH h3),if_neg (by unfold inW; rw[decide_eq_false (p:=(l.getD k default).Time≤hi) (by omega)]; simp)]
    simp
   ·rw[if_neg (bK h3),if_pos (by unfold inW; rw[decide_eq_true (show lo-n.Size<(l.getD k default).Time by omega),decide_eq_true (show (l.getD k default).Time≤hi by omega)]; rfl)]
    have w1:=bO (bd:=fun s=>(T358s0_L1 l lo hi fs n c m (k:Int) s).den) (fun i=>(plF fs n (l.take k) lo hi,fitU fs n (l.getD k default) i,(i:Int))) n.Seq.length (r:=.inl (plF fs n (l.take k) lo hi,fitU fs n (l.getD k default) n.Seq.length)) (fun i hi'=>?_) ?_
    ·have w2:=bO (bd:=fun s=>(T358s0_L2 l (k:Int) (fitU fs n (l.getD k default) n.Seq.length) s).den) (fun i=>(plF fs n (l.take k) lo hi++List.replicate i ⟨(l.getD k default).Time,fitU fs n (l.getD k default) n.Seq.length⟩,(i:Int))) (l.getD k default).N.toNat (r:=.inl (plF fs n (l.take k) lo hi++plD fs n (l.getD k default))) (fun i hi'=>?_) ?_
     ·have e1:cA (fun s=>(T358s0_L1 l lo hi fs n c m (k:Int) s).den) (plF fs n (l.take k) lo hi,0,0)=some (.inl (plF fs n (l.take k) lo hi,fitU fs n (l.getD k default) n.Seq.length)):=w1
      have e2:cA (fun s=>(T358s0_L2 l (k:Int) (fitU fs n (l.getD k default) n.Seq.length) s).den) (plF fs n (l.take k) lo hi,0)=some (.inl (plF fs n (l.take k) lo hi++plD fs n (l.getD k default))):=by
       have:=w2
       simp only[List.replicate_zero,List.append_nil]at this
       exact this
      rw[e1]
      simp only[Option.bind_some,sel]
      rw[e2]
      rfl
     ·unfold T358s0_L2
      simp only[Tr.den,Int.toNat_natCast]
      rw[if_pos (bH (by omega)),if_pos (by simp only[List.length_append,List.length_replicate,List.length_cons,List.length_nil]; omega),aL (by omega),List.replicate_succ',List.append_assoc]
     ·unfold T358s0_L2
      simp only[Tr.den,Int.toNat_natCast]
      rw[if_neg (bK (by omega))]; rfl
    ·unfold T358s0_L1
     simp only[Tr.den,Int.toNat_natCast]
     rw[if_pos (bH (by omega)),if_pos (by omega),hev.get hm hi',aL (by omega)]
     simp only[Option.bind_some]
     conv=>rhs; rw[fitU]
     by_cases hr:((evV fs (n.Seq.getD i default).Pred (l.getD k default)).N==1)=true
     ·rw[if_pos hr,if_pos (by omega),if_pos hr]; rfl
     ·rw[if_neg hr,if_neg hr]; rfl
    ·unfold T358s0_L1
     simp only[Tr.den,Int.toNat_natCast]
     rw[if_neg (bK (by omega))]
 ·unfold T358s0_L0
  simp only[Tr.den]
  rw[if_neg (bK (by omega)),List.take_length]
theorem cZ.bnd{e:aW}(h:cZ e):BndE e:=by
 induction h with
 | mk0 ha hb hs hn hl ih=>exact .mk hs hn (fun i hi=>ih _ (aQ hi))
theorem okFuncs{fs:List aF}{n:Nat}(h:okL n dT fs):fs.length≤1048576∧∀ i,i<fs.length→BndE (fs.getD i default).Body∧(fs.getD i default).Params.length≤1048576:=
 ⟨h.1,fun i hi=>by
  have h1:=h.2 _ (aQ hi)
  exact⟨h1.2.2.2.bnd,h1.2.1.1⟩⟩
theorem G344_sp{fs:List aF}{n:Nat}(hf:okL n dT fs)(h:G82 fs=some true){cs:List Int}{e:aW}(he:cZ e){t:Int}(ht:G152 fs cs [] e=some (t,true))
  (tm:Int){row:List aC}(hr:row.length=cs.length)(hs:∀ v,v∈row→Sm v):Sp (G344 fs e tm row) Sm:=by
 obtain⟨hl,hb⟩:=okFuncs hf
 obtain⟨k,hk⟩:=right_okE hl hb h he.bnd ht
 unfold G344 T344
 simp only[Tr.den]
 exact Sq.bind _ (G362_sp fs cs.length 0 k _ e ⟨rfl,hr,rfl,hs,fun v hv=>by cases hv⟩ hk) fun v hv=>aB.2 hv
def frF(n:aE)(ps:List aN):List Int:=frmM aN.time_ (nxF n) (gN n) n.Size (fL n 1) 0 ps (List.replicate ps.length (-1))
noncomputable def matF (fs:List aF)(n:aE)(l:List aA)(lo hi:Int):List aA:=
 if plF fs n l lo hi=[] then [] else outsM aN.time_ (fX n (l.getD 0 default).Row) lo (plF fs n l lo hi) 0 (frF n (plF fs n l lo hi))
theorem frF_len(n:aE)(ps:List aN):(frF n ps).length=ps.length:=by
 unfold frF; rw[frmM_len,List.length_replicate]
theorem frF_mem{n:aE}{ps:List aN}{x:Int}(h:x∈frF n ps):x<0∨(0≤x∧x<ps.length):=by
 rcases frmM_mem _ _ _ _ _ _ _ _ _ h with h | h
 ·exact .inr ⟨h.1,by omega⟩
 ·have:=replicate_mem h; exact .inl (by omega)
def okPl(ps:List aN):Prop:=∀ p,p∈ps→0≤p.time_∧p.time_≤2199023255552
theorem okPl.get{ps:List aN}(h:okPl ps){k:Nat}(hk:k<ps.length):0≤(ps.getD k default).time_∧(ps.getD k default).time_≤2199023255552:=h _ (aQ hk)
theorem plF_ok{fs:List aF}{n:aE}{l:List aA}{lo hi:Int}(h:okTm l):okPl (plF fs n l lo hi):=by
 intro p hp
 obtain⟨d,hd,hp⟩:=List.mem_flatMap.1 hp
 have:=(List.mem_replicate.1 hp).2
 rw[this]
 exact h d (List.mem_filter.1 hd).1
theorem frmM_nil{α:Type}[Inhabited α](tm:α→Int)(nx:Int→α→Int)(hit:Int→Bool)(sz bg i:Int)(fs:List Int):frmM tm nx hit sz bg i [] fs=fs:=by unfold frmM; rfl
theorem inner341(l:List aA)(lo:Int)(fs:List aF)(n:aE)(c:Int)(m:LP)(ps:List aN)(bg:Int)(k:Nat)(fr:List Int)(hn:n.Seq.length≤1000)(hps:okPl ps)(hl:ps.length≤1000000000000)(hk:k<ps.length)(hf:fr.length=ps.length):
  Sp (cA (fun s=>(T341s0_L1 l lo fs n c m ps (bg,manyU n n.Seq.length) (k:Int) s).den) (fr,bg,(k:Int))) (fun z=>z = .inl (tgtM aN.time_ (nxF n) (gN n) n.Size bg ps fr k)):=by
 refine Sq.while (fun s=>∃ j:Nat,s.2.2=(j:Int)∧k≤j∧j≤ps.length∧s.1.length=ps.length∧s.1.take j++iE aN.time_ (nxF n) (gN n) n.Size (ps.getD k default).time_ (k:Int) s.2.1 (ps.drop j) (s.1.drop j)=tgtM aN.time_ (nxF n) (gN n) n.Size bg ps fr k)
  (fun s=>ps.length-s.2.2.toNat) (fun s hs=>?_) ⟨k,rfl,Nat.le_refl _,by omega,hf,rfl⟩
 obtain⟨v7,v8,v9⟩:=s
 obtain⟨j,e,hkj,hj,hlen,hT⟩:=hs
 simp only at e hlen hT
 subst e
 unfold T341s0_L1
 simp only[Tr.den,Int.toNat_natCast]
 by_cases hc:j<ps.length
 ·have tk:=hps.get hk
  have tj:=hps.get hc
  have ew:=bR (n:=(ps.getD j default).time_-(ps.getD k default).time_) (by omega) (by omega)
  rw[if_pos (bH (by omega)),if_pos (by omega)]
  by_cases h1:(ps.getD j default).time_-(ps.getD k default).time_<n.Size
  ·rw[if_pos (bH (by rw[ew]; exact h1))]
   simp only[Option.bind_some]
   by_cases h2:v8=0
   ·rw[if_neg (bneF h2)]
    refine aB.2 ?_
    simp only[sel]
    rw[inM_stop aN.time_ (nxF n) (gN n) n.Size hc hlen hT (fun h=>h.2 h2)]
   ·rw[if_pos (bneT h2),if_pos (by omega),G376s0_eq v8 _ fs n c m hn]
    simp only[Option.bind_some]
    have hstep:=inM_step aN.time_ (nxF n) (gN n) n.Size hc hlen hT ⟨h1,h2⟩
    simp only at hstep
    have fin:∀ fr',fr'=(if gN n (nxF n v8 (ps.getD j default))=true∧v7.getD j default<0 then v7.set j (k:Int) else v7)→fr'.length=ps.length →
      ∃ q:Nat,IntKind.i64.wrap ((j:Int)+1)=(q:Int)∧k≤q∧q≤ps.length∧fr'.length=ps.length∧fr'.take q++iE aN.time_ (nxF n) (gN n) n.Size (ps.getD k default).time_ (k:Int) (nxF n v8 (ps.getD j default)) (ps.drop q) (fr'.drop q)=tgtM aN.time_ (nxF n) (gN n) n.Size bg ps fr k:=by
     rintro fr' rfl hl'
     exact⟨j+1,aL (by omega),by omega,by omega,hl',hstep⟩
    have dec:ps.length-(IntKind.i64.wrap ((j:Int)+1)).toNat<ps.length-(j:Int).toNat:=by
     rw[aL (by omega)]; omega
    by_cases h3:gN n (nxF n v8 (ps.getD j default))=true
    ·rw[if_pos (show (gC .i64 (nxF n v8 (ps.getD j default)) (iG .i64 1 (n.Seq.length:Int)) != 0)=true from h3),if_pos (by omega),if_pos (by omega)]
     simp only[Option.bind_some]
     by_cases h4:v7.getD j default<0
     ·rw[if_pos (bH h4),if_pos (by omega),if_pos (by omega)]
      refine Sq.bind (fun z=>z=v7.set j (k:Int)) (sq_grd (by simp only[List.all_cons,List.all_nil,Bool.and_true,decide_eq_true_eq]; omega) (aB.2 rfl)) (fun z hz=>?_)
      subst hz
      exact aB.2 ⟨fin _ (by rw[if_pos ⟨h3,h4⟩]) (by rw[List.length_set]; exact hlen),dec⟩
     ·rw[if_neg (bK h4)]
      exact aB.2 ⟨fin _ (by rw[if_neg (fun h=>h4 h.2)]) hlen,dec⟩
    ·rw[if_neg (show ¬ (gC .i64 (nxF n v8 (ps.getD j default)) (iG .i64 1 (n.Seq.length:Int)) != 0)=true from h3)]
     simp only[Option.bind_some,Bool.false_eq_true,if_false]
     exact aB.2 ⟨fin _ (by rw[if_neg (fun h=>h3 h.1)]) hlen,dec⟩
  ·rw[if_neg (bK (by rw[ew]; exact h1))]
   simp only[Option.bind_some,Bool.false_eq_true,if_false]
   refine aB.2 ?_
   simp only[sel]
   rw[inM_stop aN.time_ (nxF n) (gN n) n.Size hc hlen hT (fun h=>h1 h.1)]
 ·rw[if_neg (bK (by omega))]
  simp only[Option.bind_some,Bool.false_eq_true,if_false]
  refine aB.2 ?_
  simp only[sel]
  rw[inM_end aN.time_ (nxF n) (gN n) n.Size (by omega) hlen hT]
theorem outer341(l:List aA)(lo:Int)(fs:List aF)(n:aE)(c:Int)(m:LP)(ps:List aN)(hn:n.Seq.length≤1000)(hps:okPl ps)(hl:ps.length≤1000000000000):
  Sp (cA (fun s=>(T341s0_L0 l lo fs n c m ps (fL n 1,manyU n n.Seq.length) s).den) (List.replicate ps.length (-1),0)) (fun z=>z = .inl (frF n ps)):=by
 refine gV (fun s:List Int×Int=>s.2) ps.length (by omega) (fun s=>s.1.length=ps.length∧s.1.take s.2.toNat++frmM aN.time_ (nxF n) (gN n) n.Size (fL n 1) s.2 (ps.drop s.2.toNat) (s.1.drop s.2.toNat)=frF n ps) (fun s k hI hk hkN=>?_) ⟨List.length_replicate,rfl⟩ rfl
 obtain⟨v4,v5⟩:=s
 obtain⟨h1,h2⟩:=hI
 simp only at hk h1 h2
 subst hk
 simp only[Int.toNat_natCast]at h2
 unfold T341s0_L0
 simp only[Tr.den]
 by_cases hc:k<ps.length
 ·rw[if_pos (bH (by omega)),if_pos (by omega)]
  refine Sq.bind _ (Sq.of (inner341 l lo fs n c m ps (fL n 1) k v4 hn hps hl hc h1)) (fun z hz=>?_)
  subst hz
  simp only[sel]
  refine aB.2 ⟨rfl,hc,?_,?_⟩
  ·rw[tgtM_len]; exact h1
  ·have:=outM_step aN.time_ (nxF n) (gN n) n.Size hc h1 h2
   simp only
   rw[aL (by omega),Int.toNat_natCast]
   exact this
 ·rw[if_neg (bK (by omega))]
  refine aB.2 ?_
  simp only[sel]
  rw[List.drop_eq_nil_of_le (show ps.length≤k by omega)]at h2
  have e:v4.drop k=[]:=List.drop_eq_nil_of_le (by omega)
  rw[e,frmM_nil,List.append_nil,List.take_of_length_le (by omega)]at h2
  rw[h2]
theorem outsM_cons{α:Type}[Inhabited α](tm:α→Int)(key:List aC)(low:Int)(ps:List α)(j:Nat)(i:Int)(fr:List Int):outsM tm key low ps j (i::fr)=(if 0≤i∧low≤tm (ps.getD j default) then [⟨tm (ps.getD j default),key++[vI (tm (ps.getD i.toNat default)),vI ((j:Int)-i+1)],1⟩] else [])++outsM tm key low ps (j+1) fr:=rfl
theorem outsM_nil{α:Type}[Inhabited α](tm:α→Int)(key:List aC)(low:Int)(ps:List α)(j:Nat):outsM tm key low ps j []=[]:=rfl
theorem outs341(lo:Int)(fs:List aF)(n:aE)(c:Int)(m:LP)(ps:List aN)(fr:List Int)(key:List aC)(hps:okPl ps)(hl:ps.length≤1000000000)(hf:fr.length=ps.length)(hfr:∀ x,x∈fr→x<0∨(0≤x∧x<ps.length))(hk:key.length≤1000):
  Sp (cA (fun s=>(T341s0_L2 lo fs n c m ps fr key s).den) (([]:List aA),fr,0)) (fun z=>z = .inl (outsM aN.time_ key lo ps 0 fr)):=by
 refine gV (fun s:List aA×List Int×Int=>s.2.2) ps.length (by omega) (fun s=>s.2.1=fr∧s.1.length≤s.2.2.toNat∧s.1++outsM aN.time_ key lo ps s.2.2.toNat (fr.drop s.2.2.toNat)=outsM aN.time_ key lo ps 0 fr) (fun s k hI hkk hkN=>?_) ⟨rfl,Nat.le_refl _,rfl⟩ rfl
 obtain⟨v18,v19,v20⟩:=s
 obtain⟨h1,h2,h3⟩:=hI
 simp only at hkk h1 h2 h3
 subst hkk h1
 simp only[Int.toNat_natCast]at h2 h3
 unfold T341s0_L2
 simp only[Tr.den,Int.toNat_natCast]
 by_cases hc:k<ps.length
 ·have hcf:k<v19.length:=by omega
  have hx:=hfr _ (aQ hcf)
  rw[bW hcf,outsM_cons]at h3
  rw[if_pos (bH (by omega)),if_pos (by omega),if_pos hcf]
  by_cases h4:v19.getD k default≥0
  ·have hx':0≤v19.getD k default∧v19.getD k default<ps.length:=hx.resolve_left (by omega)
   rw[if_pos (bH h4),if_pos (by omega)]
   simp only[Option.bind_some]
   by_cases h5:(ps.getD k default).time_≥lo
   ·rw[if_pos ⟨h4,h5⟩]at h3
    rw[if_pos (bH h5),if_pos (by omega),G64s0_eq key (by omega)]
    simp only[Option.bind_some]
    rw[if_pos hx',G361_eq,G361_eq]
    simp only[Option.bind_some]
    rw[if_pos (by omega),if_pos (by omega),bR (n:=(k:Int)-v19.getD k default) (by omega) (by omega),bR (n:=(k:Int)-v19.getD k default+1) (by omega) (by omega)]
    refine aB.2 ⟨rfl,hc,rfl,?_,?_⟩
    ·simp only; rw[aL (by omega),Int.toNat_natCast,List.length_append]; simp; omega
    ·simp only; rw[aL (by omega),Int.toNat_natCast,←h3,List.append_assoc]
   ·rw[if_neg (fun h=>h5 h.2)]at h3
    rw[if_neg (bK h5)]
    refine aB.2 ⟨rfl,hc,rfl,?_,?_⟩
    ·simp only; rw[aL (by omega),Int.toNat_natCast]; omega
    ·simp only; rw[aL (by omega),Int.toNat_natCast,←h3,List.nil_append]
  ·rw[if_neg (fun h=>h4 h.1)]at h3
   rw[if_neg (bK h4)]
   simp only[Option.bind_some,Bool.false_eq_true,if_false]
   refine aB.2 ⟨rfl,hc,rfl,?_,?_⟩
   ·simp only; rw[aL (by omega),Int.toNat_natCast]; omega
   ·simp only; rw[aL (by omega),Int.toNat_natCast,←h3,List.nil_append]
 ·rw[if_neg (bK (by omega))]
  refine aB.2 ?_
  simp only[sel]
  have e:v19.drop k=[]:=List.drop_eq_nil_of_le (by omega)
  rw[e,outsM_nil,List.append_nil]at h3
  rw[h3]
structure okMt (fs:List aF)(n:aE)(l:List aA):Prop where
 i:okI n 0 l
 ev:okEv fs n l
 nn:∀ d,d∈l→d.N≤1000
 len:l.length≤1000000
structure okPn (n:aE):Prop where
 op:n.Op=8
 seq:1≤n.Seq.length∧n.Seq.length≤8
 size:1≤n.Size∧n.Size≤10000
 key:n.Key.length≤10
theorem okMt.nil(fs:List aF)(n:aE):okMt fs n []:=⟨okI.nil,fun d hd=>by simp at hd,fun d hd=>by simp at hd,by simp⟩
theorem okMt.sub{fs:List aF}{n:aE}{l r:List aA}(h:okMt fs n l)(hs:∀ x,x∈r→x∈l)(hl:r.length≤1000000):okMt fs n r:=⟨h.i.sub hs,h.ev.sub hs,fun d hd=>h.nn d (hs d hd),hl⟩
theorem G341s0_eq(l:List aA)(lo hi:Int)(fs:List aF)(n:aE)(c:Int)(m:LP)(hn:okPn n)(h:okMt fs n l)(hlo:0≤lo∧lo≤4398046511104):G341s0 l lo hi fs n c m=some (matF fs n l lo hi):=by
 have hs:=hn.seq
 have hz:=hn.size
 have hky:=hn.key
 have hll:=h.len
 unfold G341s0 T341s0
 simp only[Tr.den]
 rw[G358s0_eq l lo hi fs n c m (by omega) h.ev h.nn h.len hlo (by omega)]
 have hpl:=plF_len (fs:=fs) (n:=n) (lo:=lo) (hi:=hi) h.nn
 have hok:=plF_ok (fs:=fs) (n:=n) (lo:=lo) (hi:=hi) h.i.t
 have hne:plF fs n l lo hi≠[]→l≠[]:=by
  rintro h1 rfl; exact h1 rfl
 unfold matF
 generalize plF fs n l lo hi=ps at hpl hok hne
 simp only[Option.bind_some]
 by_cases h0:ps=[]
 ·rw[if_pos (by rw[h0]; rfl),if_pos h0]
 ·have hpos:=List.length_pos_iff.2 h0
  have hlpos:=List.length_pos_iff.2 (hne h0)
  rw[if_neg (fun h'=>h0 (List.eq_nil_of_length_eq_zero (by have:=beq_iff_eq.1 h'; omega))),if_neg h0,G359s0_eq fs n c m (by omega)]
  simp only[Option.bind_some]
  rw[if_pos (by omega),if_pos ⟨by omega,by omega,rfl⟩]
  simp only[Option.bind_some,Int.toNat_natCast]
  refine Sp.eq ?_
  refine Sq.bind _ (outer341 l lo fs n c m ps (by omega) hok (by omega)) (fun z hz=>?_)
  subst hz
  simp only[sel]
  rw[if_pos (by omega)]
  have hm:l.getD 0 default∈l:=aQ hlpos
  rw[show (Int.toNat 0)=0 from rfl,G357s0_eq _ fs n c m (h.i.c _ hm) (by omega)]
  simp only[Option.bind_some]
  refine Sq.bind _ (outs341 lo fs n c m ps (frF n ps) (fX n (l.getD 0 default).Row) hok (by omega) (frF_len n ps) (fun x hx=>frF_mem hx) (by rw[keyP_len]; omega)) (fun z hz=>?_)
  subst hz
  exact aB.2 rfl
def bl(b:ByteArray):List UInt8:=b.data.toList
theorem bl_app(a b:ByteArray):bl (a++b)=bl a++bl b:=by
 unfold bl; rw[ByteArray.data_append,Array.toList_append]
theorem bl_inj{a b:ByteArray}(h:bl a=bl b):a=b:=by
 cases a; cases b; simp[bl]at h; simp[h]
theorem dig_toNat{d:Nat}(h:d<10):(UInt8.ofNat (48+d)).toNat=48+d:=by
 rw[UInt8.toNat_ofNat']; omega
def decV(l:List UInt8):Nat:=l.foldl (fun a b=>a*10+(b.toNat-48)) 0
theorem decV_dig(u:Nat):decV (Lib.decDigits u)=u:=by
 induction u using Nat.strongRecOn with
 | _ u ih=>
  by_cases h:u<10
  ·rw[Lib.decDigits,dif_pos h]
   simp only[decV,List.foldl_cons,List.foldl_nil]
   rw[dig_toNat h]; omega
  ·rw[Lib.decDigits,dif_neg h]
   have:=ih (u / 10) (by omega)
   unfold decV at this ⊢
   rw[List.foldl_append,this]
   simp only[List.foldl_cons,List.foldl_nil]
   rw[dig_toNat (by omega)]; omega
theorem dig_mem(u:Nat):∀ b,b∈Lib.decDigits u→48≤b.toNat∧b.toNat≤57:=by
 induction u using Nat.strongRecOn with
 | _ u ih=>
  intro b hb
  by_cases h:u<10
  ·rw[Lib.decDigits,dif_pos h,List.mem_singleton]at hb
   rw[hb,dig_toNat h]; omega
  ·rw[Lib.decDigits,dif_neg h,List.mem_append,List.mem_singleton]at hb
   rcases hb with hb | rfl
   ·exact ih (u / 10) (by omega) b hb
   ·rw[dig_toNat (by omega)]; omega
theorem itoa_mem(n:Int):∀ b,b∈Lib.itoa n→b.toNat=45∨(48≤b.toNat∧b.toNat≤57):=by
 intro b hb
 unfold Lib.itoa at hb
 split at hb
 ·rcases List.mem_cons.1 hb with rfl | hb
  ·exact .inl rfl
  ·exact .inr (dig_mem _ b hb)
 ·exact .inr (dig_mem _ b hb)
theorem no45(u:Nat)(l:List UInt8):Lib.decDigits u≠45::l:=by
 intro h
 have:=dig_mem u 45 (by rw[h]; exact List.mem_cons_self)
 have e:(45:UInt8).toNat=45:=rfl
 omega
theorem itoa_inj{n m:Int}(h:Lib.itoa n=Lib.itoa m):n=m:=by
 unfold Lib.itoa at h
 split at h <;> split at h
 ·have:=congrArg decV (List.cons.inj h).2
  rw[decV_dig,decV_dig]at this; omega
 ·exact absurd h.symm (no45 _ _)
 ·exact absurd h (no45 _ _)
 ·have:=congrArg decV h
  rw[decV_dig,decV_dig]at this; omega
theorem split_mark{c:UInt8}:∀ {l l' x y:List UInt8},(∀ b,b∈l→b≠c)→(∀ b,b∈l'→b≠c)→l++c::x=l'++c::y→l=l'∧x=y
 | [],[],x,y,_,_,h=>⟨rfl,(List.cons.inj h).2⟩
 | [],b::l',x,y,_,h',h=>absurd (List.cons.inj h).1.symm (h' b List.mem_cons_self)
 | b::l,[],x,y,h',_,h=>absurd (List.cons.inj h).1 (h' b List.mem_cons_self)
 | b::l,b'::l',x,y,h1,h2,h=>by
  obtain⟨e1,e2⟩:=List.cons.inj h
  obtain⟨q1,q2⟩:=split_mark (fun b hb=>h1 b (List.mem_cons_of_mem _ hb)) (fun b hb=>h2 b (List.mem_cons_of_mem _ hb)) e2
  exact⟨by rw[e1,q1],q2⟩
theorem itoa_no(n:Int){c:UInt8}(h:58≤c.toNat):∀ b,b∈Lib.itoa n→b≠c:=by
 rintro b hb rfl
 have:=itoa_mem n b hb
 omega
theorem bl_itoa(n:Int):bl (itoaB n)=Lib.itoa n:=rfl
theorem bl_num(n:Int):bl (numB n)=Lib.itoa n++[59]:=by unfold numB; rw[bl_app,bl_itoa]; rfl
theorem num_inj{n m:Int}{x y:List UInt8}(h:bl (numB n)++x=bl (numB m)++y):n=m∧x=y:=by
 rw[bl_num,bl_num,List.append_assoc,List.append_assoc]at h
 obtain⟨q1,q2⟩:=split_mark (itoa_no n (by decide)) (itoa_no m (by decide)) h
 exact⟨itoa_inj q1,q2⟩
theorem bl_txt(s:ByteArray):bl (txtB s)=Lib.itoa s.size++58::(bl s++[44]):=by
 unfold txtB
 rw[bl_app,bl_app,bl_app,bl_itoa]
 simp[bl]
theorem txt_inj{s t:ByteArray}{x y:List UInt8}(h:bl (txtB s)++x=bl (txtB t)++y):s=t∧x=y:=by
 rw[bl_txt,bl_txt,List.append_assoc,List.append_assoc]at h
 obtain⟨q1,q2⟩:=split_mark (itoa_no _ (by decide)) (itoa_no _ (by decide)) h
 have hs:=itoa_inj q1
 have hl:(bl s).length=(bl t).length:=by
  have e:∀ z:ByteArray,(bl z).length=z.size:=fun z=>by unfold bl; rw[Array.length_toList]; rfl
  rw[e,e]; omega
 have q2':(bl s++[44])++x=(bl t++[44])++y:=q2
 rw[List.append_assoc,List.append_assoc]at q2'
 obtain⟨q3,q4⟩:=List.append_inj q2' hl
 exact⟨bl_inj q3,(List.cons.inj q4).2⟩
theorem val_inj{v w:aC}{x y:List UInt8}(h:bl (valB v)++x=bl (valB w)++y):v=w∧x=y:=by
 unfold valB at h
 rw[bl_app,bl_app,bl_app,bl_app]at h
 simp only[List.append_assoc]at h
 obtain⟨q1,h⟩:=num_inj h
 obtain⟨q2,h⟩:=num_inj h
 obtain⟨q3,h⟩:=txt_inj h
 refine⟨?_,h⟩
 cases v; cases w; simp_all
theorem bl_fold(b:ByteArray):∀ r:List aC,bl (r.foldl (fun b v=>b++valB v) b)=bl b++r.flatMap (fun v=>bl (valB v))
 | []=>by simp
 | v::r=>by rw[List.foldl_cons,bl_fold,bl_app,List.flatMap_cons,List.append_assoc]
theorem bl_row(r:List aC):bl (rowB r)=bl (numB r.length)++r.flatMap (fun v=>bl (valB v)):=by
 unfold rowB
 rw[bl_fold,bl_app]; rfl
theorem vals_inj:∀ {r s:List aC} {x y:List UInt8},r.length=s.length→r.flatMap (fun v=>bl (valB v))++x=s.flatMap (fun v=>bl (valB v))++y→r=s∧x=y
 | [],[],x,y,_,h=>⟨rfl,h⟩
 | [],_::_,_,_,h,_=>by cases h
 | _::_,[],_,_,h,_=>by cases h
 | v::r,w::s,x,y,hl,h=>by
  rw[List.flatMap_cons,List.flatMap_cons,List.append_assoc,List.append_assoc]at h
  obtain⟨q1,q2⟩:=val_inj h
  obtain⟨q3,q4⟩:=vals_inj (by simpa using hl) q2
  exact⟨by rw[q1,q3],q4⟩
theorem rowB_inj{r s:List aC}(h:rowB r=rowB s):r=s:=by
 have h:=congrArg (fun b=>bl b++[]) h
 simp only[bl_row]at h
 rw[List.append_assoc,List.append_assoc]at h
 obtain⟨q1,q2⟩:=num_inj h
 exact(vals_inj (by omega) q2).1
theorem outsM_mem{key:List aC}{low:Int}{ps:List aN}:∀ {j:Nat} {fr:List Int} {d:aA},d∈outsM aN.time_ key low ps j fr→d.N=1∧d.Row.length=key.length+2∧∃ i:Nat,d.Time=(ps.getD i default).time_∧j≤i∧i<j+fr.length
 | _,[],d,h=>by rw[outsM_nil]at h; simp at h
 | j,i::fr,d,h=>by
  rw[outsM_cons]at h
  rcases List.mem_append.1 h with h | h
  ·split at h
   ·rw[List.mem_singleton]at h
    subst h
    exact⟨rfl,by simp,j,rfl,Nat.le_refl _,by simp⟩
   ·simp at h
  ·obtain⟨h1,h2,q,h3,h4,h5⟩:=outsM_mem h
   exact⟨h1,h2,q,h3,by omega,by rw[List.length_cons]; omega⟩
theorem matF_mem{fs:List aF}{n:aE}{l:List aA}{lo hi:Int}{d:aA}(h:d∈matF fs n l lo hi)(hl:okTm l):d.N=1∧d.Row.length=n.Key.length+2∧0≤d.Time∧d.Time≤2199023255552:=by
 have hok:=plF_ok (fs:=fs) (n:=n) (lo:=lo) (hi:=hi) hl
 unfold matF at h
 split at h
 ·simp at h
 ·obtain⟨h1,h2,i,h3,_,h5⟩:=outsM_mem h
  rw[frF_len]at h5
  rw[keyP_len]at h2
  exact⟨h1,h2,by rw[h3]; exact hok.get (by omega)⟩
theorem matF_ok{fs:List aF}{n:aE}(hn:okPn n){l:List aA}{lo hi:Int}(hl:okTm l):okD (matF fs n l lo hi):=by
 have:=hn.key
 refine⟨fun d hd=>?_,fun d hd=>?_⟩
 ·have:=(matF_mem hd hl).2.1
  unfold okR; omega
 ·rw[(matF_mem hd hl).1]; exact⟨by decide,by decide⟩
theorem matF_len{fs:List aF}{n:aE}{l:List aA}{lo hi:Int}(h:∀ d,d∈l→d.N≤1000):(matF fs n l lo hi).length≤l.length*1000:=by
 have h1:=plF_len (fs:=fs) (n:=n) (lo:=lo) (hi:=hi) h
 unfold matF
 split
 ·simp
 ·have:=outsM_len aN.time_ (fX n (l.getD 0 default).Row) lo (plF fs n l lo hi) 0 (frF n (plF fs n l lo hi))
  rw[frF_len]at this
  omega
def oneK(n:aE)(l:List aA):Prop:=∀ d e,d∈l→e∈l→fX n d.Row=fX n e.Row
theorem ofK_one(n:aE)(k:ByteArray)(l:List aA):oneK n (ofK n 0 k l):=fun d e hd he=>by
 have h1:=(dF.1 hd).2
 have h2:=(dF.1 he).2
 exact rowB_inj (h1.trans h2.symm)
theorem matF_cut{fs:List aF}{n:aE}{l:List aA}{lo hi t:Int}(h1:oneK n l)(ht:t≤lo-n.Size):matF fs n (l.filter (aft t)) lo hi=matF fs n l lo hi:=by
 have e:plF fs n (l.filter (aft t)) lo hi=plF fs n l lo hi:=by
  unfold plF
  rw[List.filter_filter]
  congr 2
  funext d
  unfold inW aft
  rw[Bool.eq_iff_iff]
  simp only[Bool.and_eq_true,decide_eq_true_eq]
  constructor <;> intro h <;> omega
 unfold matF
 rw[e]
 split
 ·rfl
 ·rename_i hne
  have hf:l.filter (aft t)≠[]:=by
   intro h0
   rw[←e,h0]at hne
   exact hne rfl
  have hl:l≠[]:=by rintro rfl; exact hf rfl
  have m1:(l.filter (aft t)).getD 0 default∈l:=(List.mem_filter.1 (aQ (List.length_pos_iff.2 hf))).1
  rw[h1 _ _ m1 (aQ (List.length_pos_iff.2 hl))]
def loP(part:List aA):Int:=(part.getD 0 default).Time
def hiP(n:aE)(part:List aA):Int:=(part.getD (part.length-1) default).Time+n.Size-1
noncomputable def chgK (fs:List aF)(n:aE)(before part:List aA):List aA:=
 cons (matF fs n (cons (before++part)) (loP part) (hiP n part)++(matF fs n before (loP part) (hiP n part)).map neg)
theorem chgK_ok{fs:List aF}{n:aE}(hn:okPn n){before part:List aA}(hb:okTm before)(hp:okTm part):okD (chgK fs n before part):=by
 have hc:okTm (cons (before++part)):=fun d hd=>by
  obtain⟨z,hz,e⟩:=gO hd
  have:d.Time=z.Time:=congrArg Prod.fst e
  rw[this]
  exact(List.mem_append.1 hz).elim (hb z) (hp z)
 exact((matF_ok hn hc).app (neg_ok (matF_ok hn hb))).cons
theorem chgK_len{fs:List aF}{n:aE}{before part:List aA}(hb:∀ d,d∈before→d.N≤1000)(ha:∀ d,d∈cons (before++part)→d.N≤1000):(chgK fs n before part).length≤(before.length+(before.length+part.length))*1000:=by
 have h1:=dI (matF fs n (cons (before++part)) (loP part) (hiP n part)++(matF fs n before (loP part) (hiP n part)).map neg)
 rw[List.length_append,List.length_map]at h1
 have h2:=matF_len (fs:=fs) (n:=n) (lo:=loP part) (hi:=hiP n part) ha
 have h3:=matF_len (fs:=fs) (n:=n) (lo:=loP part) (hi:=hiP n part) hb
 have h4:=dI (before++part)
 rw[List.length_append]at h4
 unfold chgK
 omega
noncomputable def chgP (fs:List aF)(n:aE)(r:List aA)(m:KP)(k:ByteArray):List aA:=chgK fs n (cV m k) (ofK n 0 k r)
theorem G315s0_eq(i:Int)(l:List aA)(fs:List aF)(n:aE)(c:Int)(m:KP)(hn:okPn n)(hl:okI n 0 l)(hlen:l.length≤1000)(hm:MP m)(hB:∀ k,okMt fs n (cV m k))(hA:∀ k,okMt fs n (cons (cV m k++ofK n 0 k (cons l))))(hbl:∀ k,(cV m k).length≤1000):
  G315s0 i l fs n c m=some (cons ((aZ (bS n 0 (cons l))).flatMap (chgP fs n (cons l) m)),iY n (cons l) m):=by
 unfold G315s0
 refine Det.eq ?_
 unfold T315s0
 simp only[Tr.wpT]
 have hkI:=hl.cons
 have hkC:=dB hl.n
 have hcl:=dI l
 refine⟨_,G27_eq l hl.okD.r hl.n (by omega),_,G340s0_eq (cons l) fs n c m hkI (by have:=hn.key; omega) (by omega),?_⟩
 generalize cons l=r at hcl hkI hkC hA
 have hg:=groupM_mc n 0 r
 have hgl:=iD n 0 r
 have hsz:=hn.size
 have hbig:∀ k,(chgP fs n r m k).length≤3000000:=fun k=>by
  have h1:=chgK_len (fs:=fs) (n:=n) (before:=cV m k) (part:=ofK n 0 k r) (hB k).nn (hA k).nn
  have h2:=hbl k
  have h3:=iM n 0 k r
  unfold chgP; omega
 have hokO:∀ k,okD (chgP fs n r m k):=fun k=>chgK_ok hn (hB k).i.t (ofK_okI hkI).t
 refine loopWp (fun s:List ByteArray×KP×KP×List aA=>s.2.1=bS n 0 r∧WInv (fun k=>cons (cV m k++ofK n 0 k r)) (aZ (bS n 0 r)) m s.1 s.2.2.1∧∃ done:List ByteArray,(done++s.1).Perm (aZ (bS n 0 r))∧s.2.2.2=done.flatMap (chgP fs n r m)) (fun s=>s.1.length) (fun s hs=>?_)
  (s:=(aZ (bS n 0 r),bS n 0 r,m,[])) ⟨rfl,.start (hg.nodup LO.bytes) hm,[],by simp,rfl⟩
 obtain⟨rem,g,m',out⟩:=s
 obtain⟨e1,hW,done,h5,h6⟩:=hs
 simp only at e1 hW h5 h6
 subst e1 h6
 have hdl:done.length+rem.length≤1000:=by
  have:=h5.length_eq
  rw[List.length_append,aZ,List.length_map]at this
  omega
 have hdone:(done.flatMap (chgP fs n r m)).length≤1000*3000000:=
  Nat.le_trans (flatMapK_len hbig done) (Nat.mul_le_mul (show done.length≤1000 by omega) (Nat.le_refl _))
 unfold T315s0_L0
 simp only[Tr.wpT]
 refine⟨fun hr=>?_,fun k p hk hc=>?_,fun hr=>?_⟩
 ·subst hr
  simp only[sel]
  rw[List.append_nil]at h5
  have hp:(done.flatMap (chgP fs n r m)).Perm ((aZ (bS n 0 r)).flatMap (chgP fs n r m)):=flatMap_perm _ h5
  have hokd:okD (done.flatMap (chgP fs n r m)):=⟨fun x hx=>by
   obtain⟨a,ha,hx⟩:=List.mem_flatMap.1 hx
   exact(hokO a).r x hx,fun x hx=>by
   obtain⟨a,ha,hx⟩:=List.mem_flatMap.1 hx
   exact(hokO a).n x hx⟩
  refine⟨_,G27_eq _ hokd.r hokd.n (by omega),?_⟩
  rw[perm_cons_eq hp hokd.n,hW.fin hm]
  rfl
 ·have hlook:=iR n 0 k r
  rw[hc]at hlook
  have hne:ofK n 0 k r≠[]:=by
   intro h0
   rw[if_pos h0]at hlook; cases hlook
  rw[if_neg hne]at hlook
  cases hlook
  have hv:cV m' k=cV m k:=hW.old k (.inr hk)
  have ob:=hB k
  have oa:=hA k
  have okp:okI n 0 (ofK n 0 k r):=ofK_okI hkI
  have hpl:=iM n 0 k r
  have hpos:=List.length_pos_iff.2 hne
  have hbk:=hbl k
  have hb:=hbig k
  have hp:=kerase_perm hk
  have t0:=okp.t _ (aQ hpos)
  have t1:=okp.t _ (aQ (show (ofK n 0 k r).length-1<(ofK n 0 k r).length by omega))
  have ew:IntKind.i64.wrap (((ofK n 0 k r).length:Int)-1)=(((ofK n 0 k r).length-1:Nat):Int):=by rw[bR (by omega) (by omega)]; omega
  have eh:IntKind.i64.wrap (IntKind.i64.wrap (((ofK n 0 k r).getD (IntKind.i64.wrap (((ofK n 0 k r).length:Int)-1)).toNat default).Time+n.Size)-1)=hiP n (ofK n 0 k r):=by
   rw[ew,Int.toNat_natCast,bR (n:=_+n.Size) (by omega) (by omega),bR (by omega) (by omega)]; rfl
  have hlo:0≤loP (ofK n 0 k r)∧loP (ofK n 0 k r)≤4398046511104:=⟨t0.1,by unfold loP; omega⟩
  have e12:=G12_eq (cV m k) (ofK n 0 k r) ob.i.okD okp.okD (by omega)
  have eA:=G341s0_eq (cons (cV m k++ofK n 0 k r)) (loP (ofK n 0 k r)) (hiP n (ofK n 0 k r)) fs n c m' hn oa hlo
  have eB:=G341s0_eq (cV m k) (loP (ofK n 0 k r)) (hiP n (ofK n 0 k r)) fs n c m' hn ob hlo
  have l1:=matF_len (fs:=fs) (n:=n) (lo:=loP (ofK n 0 k r)) (hi:=hiP n (ofK n 0 k r)) oa.nn
  have l2:=matF_len (fs:=fs) (n:=n) (lo:=loP (ofK n 0 k r)) (hi:=hiP n (ofK n 0 k r)) ob.nn
  have l3:=dI (cV m k++ofK n 0 k r)
  rw[List.length_append]at l3
  have e129:=G129_eq _ _ (matF_ok (fs:=fs) (n:=n) (lo:=loP (ofK n 0 k r)) (hi:=hiP n (ofK n 0 k r)) hn oa.i.t) (matF_ok (fs:=fs) (n:=n) (lo:=loP (ofK n 0 k r)) (hi:=hiP n (ofK n 0 k r)) hn ob.i.t) (by omega)
  have e339:=G339s1_eq k (cons (cV m k++ofK n 0 k r)) fs n c m'
  have fin:(mput (bS n 0 r) k (ofK n 0 k r)=bS n 0 r∧WInv (fun k=>cons (cV m k++ofK n 0 k r)) (aZ (bS n 0 r)) m (fY rem k) (setP m' k (cons (cV m k++ofK n 0 k r))) ∧
    ∃ done':List ByteArray,(done'++fY rem k).Perm (aZ (bS n 0 r))∧done.flatMap (chgP fs n r m)++chgP fs n r m k=done'.flatMap (chgP fs n r m))∧(fY rem k).length<rem.length:=
   ⟨⟨mput_self LO.bytes hg hc,hW.step hk,done++[k],by
    refine List.Perm.trans ?_ h5
    rw[List.append_assoc]
    exact List.Perm.append_left _ hp.symm,by simp⟩,kerase_len hk⟩
  rw[eh]
  have g0:(0≤(0:Int)∧(0:Int)<((ofK n 0 k r).length:Int)):=⟨by omega,by omega⟩
  have g1:(0≤IntKind.i64.wrap (((ofK n 0 k r).length:Int)-1)∧IntKind.i64.wrap (((ofK n 0 k r).length:Int)-1)<((ofK n 0 k r).length:Int)):=by rw[ew]; omega
  cases hlk:aY m' k with
  | none=>
   have hz:cV m k=[]:=by rw[←hv]; unfold cV; rw[hlk]; rfl
   simp only
   rw[←hz]
   exact⟨_,e12,g0,g1,_,eA,_,eB,_,e129,by show ((done.flatMap (chgP fs n r m)).length+(chgP fs n r m k).length)*40≤140737488355328; omega,_,e339,fin⟩
  | some c1=>
   have hz:cV m k=c1:=by rw[←hv]; unfold cV; rw[hlk]; rfl
   simp only
   rw[←hz]
   exact⟨_,e12,g0,g1,_,eA,_,eB,_,e129,by show ((done.flatMap (chgP fs n r m)).length+(chgP fs n r m k).length)*40≤140737488355328; omega,_,e339,fin⟩
 ·obtain⟨k,rest,rfl⟩:=List.exists_cons_of_ne_nil hr
  obtain⟨s,hs⟩:=mkeys_look.1 (hW.sub k List.mem_cons_self)
  exact⟨k,s,List.mem_cons_self,hs⟩
theorem G38_8:G38 8=some 8:=by
 unfold G38 T38
 simp[Tr.den,G97_eq]
theorem G10_pat{n:aE}(hn:okPn n):G10 n=some (n.Size-1,0):=by
 have hz:=hn.size
 unfold G10 T10 G37 T37
 simp only[Tr.den]
 rw[hn.op,G38_8]
 have e:G102 n=some true:=by
  unfold G102 T102 G96 T96
  simp only[Tr.den,G97_eq,Option.bind_some]
  rw[if_pos (bH hz)]
  rw[bH (by have:=hn.seq; omega)]; rfl
 have e2:G103 n=some (n.Size-1,0):=by
  unfold G103 T103
  simp only[Tr.den]
  rw[bR (by omega) (by omega)]
 simp only[Option.bind_some,Nat.reduceLT,if_true,Tr.den,e,e2,Bool.not_true,Bool.false_eq_true,if_false]
theorem G313s0_eq(fs:List aF)(n:aE):G313s0 fs n=some (fs,n,-1,[]):=rfl
theorem G314s0_old(a:Int)(fs:List aF)(n:aE)(c:Int)(m:KP)(h:a≤c):G314s0 a fs n c m=some (m,c):=by
 unfold G314s0
 refine Det.eq ?_
 unfold T314s0
 simp only[Tr.wpT]
 rw[if_pos (bH h)]
 trivial
theorem G314s0_eq(a:Int)(fs:List aF)(n:aE)(c:Int)(m:KP)(hn:okPn n)(hm:MP m)(hok:∀ k,okD (cV m k)∧Can (cV m k)∧(cV m k).length≤1000000)(h:c<a)(h0:0≤a)(h1:a≤2199023255552):
  G314s0 a fs n c m=some (closeP (a-(n.Size-1)) m,a):=by
 have hz:=hn.size
 unfold G314s0
 refine Det.eq ?_
 unfold T314s0
 simp only[Tr.wpT]
 rw[if_neg (bK (by omega))]
 refine⟨_,G10_pat hn,?_⟩
 have wt:IntKind.i64.wrap (a-(n.Size-1))=a-(n.Size-1):=bR (by omega) (by omega)
 refine loopWp (fun s:List ByteArray×KP=>WInv (fun k=>(cV m k).filter (aft (a-(n.Size-1)))) (aZ m) m s.1 s.2) (fun s=>s.1.length) (fun s hs=>?_)
  (s:=(aZ m,m)) (.start (hm.mc.nodup LO.bytes) hm)
 obtain⟨rem,m'⟩:=s
 simp only at hs
 unfold T314s0_L0
 simp only[Tr.wpT]
 refine⟨fun hr=>?_,fun k s hk hc=>?_,fun hr=>?_⟩
 ·subst hr
  simp only[sel]
  rw[hs.fin hm]; rfl
 ·have hv:=hs.old k (.inr hk)
  have e:cV m' k=s:=by unfold cV; rw[hc]; rfl
  rw[e]at hv
  obtain⟨q1,q2,q3⟩:=hok k
  rw[wt,hv]
  refine⟨_,G14_can _ _ q1 q2 (by omega),_,G339s0_eq _ _ fs n a _ _,?_⟩
  rw[←hv,←e,show mput m' k (cV m' k)=m' from mput_self LO.bytes hs.mp.mc (by rw[hc,e]),e,hv]
  exact⟨hs.step hk,kerase_len hk⟩
 ·obtain⟨k,rest,rfl⟩:=List.exists_cons_of_ne_nil hr
  have hkm:=hs.sub k List.mem_cons_self
  obtain⟨s,hs'⟩:=mkeys_look.1 hkm
  have hv:=hs.old k (.inr List.mem_cons_self)
  have hne:cV m' k≠[]:=by rw[hv]; exact hm.key.1 hkm
  exact⟨k,cV m' k,List.mem_cons_self,by rw[hs.mp.look,if_neg hne]⟩
theorem G342s0_eq(fs:List aF)(n:aE)(c:Int)(m:KP)(hm:MP m)(hok:∀ k,okD (cV m k))(hl:(allP m).length≤1000000):G342s0 fs n c m=some (cons (allP m),m):=by
 unfold G342s0
 refine Det.eq ?_
 unfold T342s0
 simp only[Tr.wpT]
 have okA:okD (allP m):=⟨fun x hx=>by
   obtain⟨a,ha,hx⟩:=List.mem_flatMap.1 hx
   exact(hok a).r x hx,fun x hx=>by
   obtain⟨a,ha,hx⟩:=List.mem_flatMap.1 hx
   exact(hok a).n x hx⟩
 refine loopWp (fun s:List ByteArray×KP×List aA=>s.2.1=m∧s.1.Nodup∧∃ done:List ByteArray,(done++s.1).Perm (aZ m)∧s.2.2=done.flatMap (cV m)) (fun s=>s.1.length) (fun s hs=>?_)
  (s:=(aZ m,m,[])) ⟨rfl,hm.mc.nodup LO.bytes,[],by simp,rfl⟩
 obtain⟨rem,m',out⟩:=s
 obtain⟨e1,hnd,done,h5,h6⟩:=hs
 simp only at e1 hnd h5 h6
 subst e1 h6
 unfold T342s0_L0
 simp only[Tr.wpT]
 refine⟨fun hr=>?_,fun k s hk hc=>?_,fun hr=>?_⟩
 ·subst hr
  simp only[sel]
  rw[List.append_nil]at h5
  have hp:(done.flatMap (cV m')).Perm (allP m'):=flatMap_perm _ h5
  have ho:okD (done.flatMap (cV m')):=okA.sub fun x hx=>hp.mem_iff.1 hx
  refine⟨_,G27_eq _ ho.r ho.n (by rw[hp.length_eq]; omega),?_⟩
  rw[perm_cons_eq hp ho.n]
 ·have hp:=kerase_perm hk
  have e:cV m' k=s:=by unfold cV; rw[hc]; rfl
  have hle:(done.flatMap (cV m')).length+s.length≤(allP m').length:=by
   have h7:((done++k::fY rem k).flatMap (cV m')).Perm (allP m'):=flatMap_perm _ ((List.Perm.append_left _ hp.symm).trans h5)
   have:=h7.length_eq
   rw[List.flatMap_append,List.flatMap_cons,List.length_append,List.length_append,e]at this
   omega
  refine⟨by omega,⟨⟨mput_self LO.bytes hm.mc hc,kerase_nodup hnd k,done++[k],?_,?_⟩,kerase_len hk⟩⟩
  ·refine List.Perm.trans ?_ h5
   rw[List.append_assoc]
   exact List.Perm.append_left _ hp.symm
  ·rw[List.flatMap_append,←e]; simp
 ·obtain⟨k,rest,rfl⟩:=List.exists_cons_of_ne_nil hr
  have hk:k∈aZ m':=h5.mem_iff.1 (List.mem_append_right _ List.mem_cons_self)
  obtain⟨s,hs'⟩:=mkeys_look.1 hk
  exact⟨k,s,List.mem_cons_self,hs'⟩
theorem G316s0_eq(fs:List aF)(n:aE)(c:Int)(m:KP)(hm:MP m)(hok:∀ k,okD (cV m k))(hl:(allP m).length≤1000000):G316s0 fs n c m=some (W (wt fZ (cons (allP m))),m):=by
 unfold G316s0 T316s0
 simp only[Tr.den]
 rw[G342s0_eq fs n c m hm hok hl]
 simp only[Option.bind_some]
 have:=dI (allP m)
 rw[G13_eq _ (by omega)]; rfl
theorem G321s0_eq(fs:List aF)(n:aE)(c:Int)(m:KP):G321s0 fs n c m=some (decide (m=[])):=by
 unfold G321s0 T321s0
 simp only[Tr.den]
 congr 1
 cases m with
 | nil=>rfl
 | cons p m=>simp; omega
theorem W_W(a:Int):W (W a)=W a:=wrap_wrap a
def wc(c:Pl→Int):List aA→Int
 | []=>0
 | x::l=>x.N*c (pl x)+wc c l
structure MI (o X Y T:List aA):Prop where
 can:Can o
 lt:∀ x,x∈o→∀ y,y∈X++Y→cR x y<0
 same:eH (o++(X++Y)) T
 cx:Can X
 cy:Can Y
theorem Can.snoc{o:List aA}{x:aA}(h:Can o)(h1:∀ y,y∈o→cR y x<0)(h2:x.N≠0)(h3:in64 x.N):Can (o++[x]):=by
 refine⟨List.pairwise_append.2 ⟨h.lt,List.pairwise_singleton _ _,fun y hy z hz=>?_⟩,fun y hy=>?_,fun y hy=>?_⟩
 ·rw[List.mem_singleton.1 hz]; exact h1 y hy
 ·rcases List.mem_append.1 hy with hy | hy
  ·exact h.nz y hy
  ·rw[List.mem_singleton.1 hy]; exact h2
 ·rcases List.mem_append.1 hy with hy | hy
  ·exact h.n64 y hy
  ·rw[List.mem_singleton.1 hy]; exact h3
theorem lt_all{x y:aA}{Y:List aA}(h:Can (y::Y))(hx:cR x y<0):∀ z,z∈y::Y→cR x z<0:=by
 intro z hz
 rcases List.mem_cons.1 hz with rfl | hz
 ·exact hx
 ·exact cmpD_tr hx (h.head z hz)
theorem MI.left{o X Y T:List aA}{x:aA}(h:MI o (x::X) Y T)(hy:∀ z,z∈Y→cR x z<0):MI (o++[x]) X Y T:=by
 refine⟨h.can.snoc (fun y hy'=>h.lt y hy' x (by simp)) (h.cx.nz x List.mem_cons_self) (h.cx.n64 x List.mem_cons_self),fun z hz w hw=>?_,?_,h.cx.tail,h.cy⟩
 ·rcases List.mem_append.1 hz with hz | hz
  ·exact h.lt z hz w (by rcases List.mem_append.1 hw with hw | hw <;> simp[hw])
  ·rw[List.mem_singleton.1 hz]
   rcases List.mem_append.1 hw with hw | hw
   ·exact h.cx.head w hw
   ·exact hy w hw
 ·have:=h.same
  simpa using this
theorem MI.right{o X Y T:List aA}{y:aA}(h:MI o X (y::Y) T)(hx:∀ z,z∈X→cR y z<0):MI (o++[y]) X Y T:=by
 refine⟨h.can.snoc (fun z hz=>h.lt z hz y (by simp)) (h.cy.nz y List.mem_cons_self) (h.cy.n64 y List.mem_cons_self),fun z hz w hw=>?_,?_,h.cx,h.cy.tail⟩
 ·rcases List.mem_append.1 hz with hz | hz
  ·exact h.lt z hz w (by rcases List.mem_append.1 hw with hw | hw <;> simp[hw])
  ·rw[List.mem_singleton.1 hz]
   rcases List.mem_append.1 hw with hw | hw
   ·exact hx w hw
   ·exact h.cy.head w hw
 ·refine eH.trans (.of_perm ?_) h.same
  rw[List.append_assoc]
  refine List.Perm.append_left _ ?_
  show (y::(X++Y)).Perm (X++y::Y)
  exact List.perm_middle.symm
theorem both_wt{o X Y:List aA}{x y:aA}(hp:pl x=pl y)(p:Pl→Bool):W (wt p (o++(x::X++y::Y)))=W (wt p o+(if p (pl y)=true then W (y.N+x.N) else 0)+wt p (X++Y)):=by
 rw[dG,dG,dG]
 simp only[wt,hp]
 by_cases h:p (pl y)=true
 ·rw[if_pos h,if_pos h,if_pos h]
  have:=iS (iS (rfl:W (wt p o)=W (wt p o)) (W_W (y.N+x.N))) (rfl:W (wt p X+wt p Y)=W (wt p X+wt p Y))
  rw[this]; congr 1; omega
 ·rw[if_neg h,if_neg h,if_neg h]; congr 1; omega
theorem MI.both{o X Y T:List aA}{x y:aA}(h:MI o (x::X) (y::Y) T)(hp:pl x=pl y)(h0:W (y.N+x.N)≠0):MI (o++[⟨y.Time,y.Row,W (y.N+x.N)⟩]) X Y T:=by
 have e:∀ z:aA,cR (⟨y.Time,y.Row,W (y.N+x.N)⟩:aA) z=cR y z:=fun z=>rfl
 have e':∀ z:aA,cR z (⟨y.Time,y.Row,W (y.N+x.N)⟩:aA)=cR z y:=fun z=>rfl
 refine⟨h.can.snoc (fun z hz=>by rw[e']; exact h.lt z hz y (by simp)) h0 (W_in _),fun z hz w hw=>?_,fun p=>?_,h.cx.tail,h.cy.tail⟩
 ·rcases List.mem_append.1 hz with hz | hz
  ·exact h.lt z hz w (by rcases List.mem_append.1 hw with hw | hw <;> simp[hw])
  ·rw[List.mem_singleton.1 hz,e]
   rcases List.mem_append.1 hw with hw | hw
   ·rw[←cmpD_congr hp rfl]; exact h.cx.head w hw
   ·exact h.cy.head w hw
 ·rw[←h.same p,both_wt hp,dG,dG]
  simp only[wt,Int.add_zero]
  rfl
theorem MI.both0{o X Y T:List aA}{x y:aA}(h:MI o (x::X) (y::Y) T)(hp:pl x=pl y)(h0:W (y.N+x.N)=0):MI o X Y T:=by
 refine⟨h.can,fun z hz w hw=>h.lt z hz w (by rcases List.mem_append.1 hw with hw | hw <;> simp[hw]),fun p=>?_,h.cx.tail,h.cy.tail⟩
 rw[←h.same p,both_wt hp,dG,h0]
 simp
theorem Can.drop{l:List aA}(h:Can l)(k:Nat):Can (l.drop k):=⟨h.lt.drop,fun x hx=>h.nz x (List.mem_of_mem_drop hx),fun x hx=>h.n64 x (List.mem_of_mem_drop hx)⟩
theorem G165_eq(a b:aA)(ha:okR a)(hb:okR b):G165 a b=some (cR a b):=by
 unfold G165 T165
 simp only[Tr.den]
 rw[G116_eq _ _ ha hb]
 unfold cR eG cmpI
 by_cases h1:a.Time<b.Time
 ·rw[if_pos (bH h1),if_pos h1,if_neg (by omega)]
 ·rw[if_neg (bK h1),if_neg h1]
  by_cases h2:b.Time<a.Time
  ·rw[if_pos (bH h2),if_pos h2,if_neg (by omega)]
  ·rw[if_neg (bK h2),if_neg h2,if_pos rfl]; rfl
theorem merge114(a b:List aA)(ha:Can a)(hb:Can b)(oa:fJ a)(ob:fJ b)(hn:a.length+b.length≤1000000000000):
  Sp (cA (fun s=>(T114_L0 a b s).den) (([]:List aA),0,0)) (sel (fun r=>Can r∧eH r (a++b)) (fun _=>False)):=by
 refine Sq.while (fun s:List aA×Int×Int=>∃ i k:Nat,s.2.1=i∧s.2.2=k∧i≤a.length∧k≤b.length∧MI s.1 (a.drop i) (b.drop k) (a++b)∧s.1.length≤i+k) (fun s=>(a.length-s.2.1).toNat+(b.length-s.2.2).toNat) (fun s hs=>?_)
  ⟨0,0,rfl,rfl,by omega,by omega,⟨.nil,by simp,by simpa using eH.refl _,ha,hb⟩,by simp⟩
 obtain⟨o,i,k⟩:=s
 obtain⟨i,k,e1,e2,h1,h2,hM,hlen⟩:=hs
 simp only at e1 e2 hM hlen
 subst e1 e2
 unfold T114_L0
 simp only[Tr.den,Int.toNat_natCast]
 have w1:k<b.length→(if IntKind.i64.wrap ((b.length:Int)-1)<(k:Int) then IntKind.i64.wrap ((b.length:Int)-1) else (k:Int))=(k:Int):=by
  intro hk
  rw[bR (by omega) (by omega),if_neg (by omega)]
 have left:i<a.length→(∀ z,z∈b.drop k→cR (a.getD i default) z<0)→∀ c:Int,c<0→∀ f:Option (List aA×Int×Int),
   Sp ((if decide (c<0)=true then if 0≤(i:Int)∧(i:Int)<(a.length:Int) then if (o.length+[a.getD i default].length)*40≤140737488355328 then some (o++[a.getD i default],IntKind.i64.wrap ((i:Int)+1),(k:Int)) else none else none else f).bind fun v=>some (Sum.inl (v.1,v.2.1,v.2.2)))
    (sel (fun s':List aA×Int×Int=>(∃ i k:Nat,s'.2.1=i∧s'.2.2=k∧i≤a.length∧k≤b.length∧MI s'.1 (a.drop i) (b.drop k) (a++b)∧s'.1.length≤i+k)∧(a.length-s'.2.1).toNat+(b.length-s'.2.2).toNat<(a.length-(i:Int)).toNat+(b.length-(k:Int)).toNat) (sel (fun r:List aA=>Can r∧eH r (a++b)) (fun _:List aA=>False))):=by
  intro hi hlt c hc f
  rw[if_pos (bH hc),if_pos (by omega),if_pos (by simp only[List.length_cons,List.length_nil]; omega),aL (by omega)]
  rw[bW hi]at hM
  exact aB.2 ⟨⟨i+1,k,rfl,rfl,by omega,h2,hM.left hlt,by simp only[List.length_append,List.length_cons,List.length_nil]; omega⟩,by simp only; omega⟩
 have right:k<b.length→(∀ z,z∈a.drop i→cR (b.getD k default) z<0)→∀ c:Int,0<c→∀ f:Option (List aA×Int×Int),
   Sp ((if decide (c<0)=true then f else
       if 0≤(if IntKind.i64.wrap ((b.length:Int)-1)<(k:Int) then IntKind.i64.wrap ((b.length:Int)-1) else (k:Int))∧(if IntKind.i64.wrap ((b.length:Int)-1)<(k:Int) then IntKind.i64.wrap ((b.length:Int)-1) else (k:Int))<(b.length:Int) then
        (if (c==0)=true then if 0≤(i:Int)∧(i:Int)<(a.length:Int) then some (IntKind.i64.wrap ((b.getD (if IntKind.i64.wrap ((b.length:Int)-1)<(k:Int) then IntKind.i64.wrap ((b.length:Int)-1) else (k:Int)).toNat default).N+(a.getD i default).N),o,IntKind.i64.wrap ((i:Int)+1)) else none
         else some ((b.getD (if IntKind.i64.wrap ((b.length:Int)-1)<(k:Int) then IntKind.i64.wrap ((b.length:Int)-1) else (k:Int)).toNat default).N,o,(i:Int))).bind fun v=>
         (if (v.1 != 0)=true then if (v.2.1.length+[(⟨(b.getD (if IntKind.i64.wrap ((b.length:Int)-1)<(k:Int) then IntKind.i64.wrap ((b.length:Int)-1) else (k:Int)).toNat default).Time,(b.getD (if IntKind.i64.wrap ((b.length:Int)-1)<(k:Int) then IntKind.i64.wrap ((b.length:Int)-1) else (k:Int)).toNat default).Row,v.1⟩:aA)].length)*40≤140737488355328 then
           some (v.2.1++[(⟨(b.getD (if IntKind.i64.wrap ((b.length:Int)-1)<(k:Int) then IntKind.i64.wrap ((b.length:Int)-1) else (k:Int)).toNat default).Time,(b.getD (if IntKind.i64.wrap ((b.length:Int)-1)<(k:Int) then IntKind.i64.wrap ((b.length:Int)-1) else (k:Int)).toNat default).Row,v.1⟩:aA)]) else none
          else some v.2.1).bind fun v_1=>some (v_1,v.2.2,IntKind.i64.wrap ((k:Int)+1))
       else none).bind fun v=>some (Sum.inl (v.1,v.2.1,v.2.2)))
    (sel (fun s':List aA×Int×Int=>(∃ i k:Nat,s'.2.1=i∧s'.2.2=k∧i≤a.length∧k≤b.length∧MI s'.1 (a.drop i) (b.drop k) (a++b)∧s'.1.length≤i+k)∧(a.length-s'.2.1).toNat+(b.length-s'.2.2).toNat<(a.length-(i:Int)).toNat+(b.length-(k:Int)).toNat) (sel (fun r:List aA=>Can r∧eH r (a++b)) (fun _:List aA=>False))):=by
  intro hk hlt c hc f
  rw[if_neg (bK (by omega)),w1 hk,if_pos (by omega),if_neg (gY (by omega))]
  simp only[Option.bind_some,Int.toNat_natCast]
  rw[bW hk]at hM
  rw[if_pos (bneT (hM.cy.nz _ List.mem_cons_self)),if_pos (by simp only[List.length_cons,List.length_nil]; omega),aL (by omega)]
  simp only[Option.bind_some]
  exact aB.2 ⟨⟨i,k+1,rfl,rfl,h1,by omega,hM.right hlt,by simp only[List.length_append,List.length_cons,List.length_nil]; omega⟩,by simp only; omega⟩
 by_cases hi:i<a.length
 ·rw[if_pos (bH (show (i:Int)<a.length by omega))]
  simp only[Option.bind_some,if_true]
  rw[if_neg (bK (show ¬ (i:Int)≥a.length by omega))]
  by_cases hk:k<b.length
  ·rw[if_neg (bK (show ¬ (k:Int)≥b.length by omega)),if_pos (by omega),if_pos (by omega),G165_eq _ _ (oa.get i) (ob.get k)]
   simp only[Option.bind_some]
   have hX:=bW hi
   have hY:=bW hk
   have cX:=ha.drop i
   have cY:=hb.drop k
   by_cases c1:cR (a.getD i default) (b.getD k default)<0
   ·exact left hi (by rw[hY]at cY ⊢; exact lt_all cY c1) _ c1 _
   ·by_cases c2:cR (a.getD i default) (b.getD k default)=0
    ·have hp:=eK.1 c2
     rw[if_neg (bK c1),w1 hk,if_pos (by omega),if_pos (beqT c2),if_pos (by omega)]
     simp only[Option.bind_some,Int.toNat_natCast]
     rw[hX,hY]at hM
     by_cases h0:W ((b.getD k default).N+(a.getD i default).N)=0
     ·rw[if_neg (bneF h0)]
      simp only[Option.bind_some]
      rw[aL (by omega),aL (by omega)]
      exact aB.2 ⟨⟨i+1,k+1,rfl,rfl,by omega,by omega,hM.both0 hp h0,by simp only; omega⟩,by simp only; omega⟩
     ·rw[if_pos (bneT h0),if_pos (by simp only[List.length_cons,List.length_nil]; omega)]
      simp only[Option.bind_some]
      rw[aL (by omega),aL (by omega)]
      exact aB.2 ⟨⟨i+1,k+1,rfl,rfl,by omega,by omega,hM.both hp h0,by simp only[List.length_append,List.length_cons,List.length_nil]; omega⟩,by simp only; omega⟩
    ·have c3:0<cR (a.getD i default) (b.getD k default):=by omega
     exact right hk (by rw[hX]at cX ⊢; exact lt_all cX (cmpD_gt.1 c3)) _ c3 _
  ·rw[if_pos (bH (show (k:Int)≥b.length by omega))]
   simp only[Option.bind_some]
   exact left hi (by rw[List.drop_eq_nil_of_le (show b.length≤k by omega)]; simp) (-1) (by omega) _
 ·rw[if_neg (bK (show ¬ (i:Int)<a.length by omega))]
  simp only[Option.bind_some]
  by_cases hk:k<b.length
  ·rw[if_pos (bH (show (k:Int)<b.length by omega)),if_pos (bH (show (i:Int)≥a.length by omega))]
   simp only[Option.bind_some]
   exact right hk (by rw[List.drop_eq_nil_of_le (show a.length≤i by omega)]; simp) 1 (by omega) _
  ·rw[if_neg (bK (show ¬ (k:Int)<b.length by omega))]
   refine aB.2 ⟨hM.can,?_⟩
   have:=hM.same
   rw[List.drop_eq_nil_of_le (show a.length≤i by omega),List.drop_eq_nil_of_le (show b.length≤k by omega)]at this
   simpa using this
theorem G114_eq(l:List aA)(ho:okD l)(hn:l.length≤1000000000000):G114 l=some (PL.cons l):=by
 refine Sp.eq ?_
 refine fixF_sq (C:=fun (a:List aA) (x:Option (List aA))=>Con Proofs.Tryz.prog 37 [.t (eL aH (a))] x (fun (y:List aA)=>.t (eL aH (y)))) (fun a=>⟨bJ Proofs.Tryz.func37 (by kernel_rfl),fun _ h=>nomatch h⟩) (fun rec a=>T114 rec a) (fun rec a=>T114_ok rec a)
  (fun l=>okD l∧l.length≤1000000000000) (fun l=>l.length) (fun l d=>d=PL.cons l) (fun b f l hl hrec=>?_) true l ⟨ho,hn⟩
 obtain⟨ho,hn⟩:=hl
 unfold T114
 simp only[Tr.den]
 by_cases h0:l.length=0
 ·rw[if_pos (beqT (by omega))]
  simp only[Option.bind_some,if_true]
  rw[List.eq_nil_of_length_eq_zero h0]
  exact aB.2 rfl
 rw[if_neg (gY (by omega))]
 by_cases hl1:l.length=1
 ·obtain⟨x,rfl⟩:=List.length_eq_one_iff.1 hl1
  have e1:(([x]:List aA).length:Int)=1:=rfl
  have e2:([x]:List aA).getD (0:Int).toNat default=x:=rfl
  rw[if_pos (beqT e1),if_pos (by omega),e2]
  simp only[Option.bind_some]
  have hc:PL.cons [x]=if x.N=0 then [] else [x]:=rfl
  rw[hc]
  by_cases hz:x.N=0
  ·rw[if_pos (beqT hz),if_pos hz]; exact aB.2 rfl
  ·have hr:x.Row.length≤1073741824:=ho.r x List.mem_cons_self
   rw[if_neg (gY hz),if_pos (beqT e1),if_pos (by omega),if_pos (by omega),if_pos (by omega),if_pos (by omega),if_neg hz]; exact aB.2 rfl
 rw[if_neg (gY (by omega))]
 simp only[Option.bind_some,Bool.false_eq_true,if_false]
 have w1:IntKind.i64.wrap (Int.tdiv (l.length:Int) 2)=((l.length / 2:Nat):Int):=by
  rw[show Int.tdiv (l.length:Int) 2=((l.length / 2:Nat):Int) from rfl]
  rw[wrap_nat (by omega)]
 rw[if_neg (gY (by omega)),w1]
 have e1:(l.drop (0:Int).toNat).take (((l.length / 2:Nat):Int)-0).toNat=l.take (l.length / 2):=by rw[Int.toNat_zero,List.drop_zero,Int.sub_zero,Int.toNat_natCast]
 have e2:(l.drop ((l.length / 2:Nat):Int).toNat).take ((l.length:Int)-((l.length / 2:Nat):Int)).toNat=l.drop (l.length / 2):=by
  rw[Int.toNat_natCast]; exact List.take_of_length_le (by simp only[List.length_drop]; omega)
 have o1:okD (l.take (l.length / 2)):=ho.sub fun x hx=>List.mem_of_mem_take hx
 have o2:okD (l.drop (l.length / 2)):=ho.sub fun x hx=>List.mem_of_mem_drop hx
 rw[if_pos (by omega),e1]
 refine Sq.bind _ (hrec _ ⟨o1,by simp; omega⟩ (by simp; omega)) (fun r1 h1=>?_)
 rw[if_pos (by omega),e2]
 refine Sq.bind _ (hrec _ ⟨o2,by simp; omega⟩ (by simp; omega)) (fun r2 h2'=>?_)
 subst h1 h2'
 have l1:=dI (l.take (l.length / 2))
 have l2:=dI (l.drop (l.length / 2))
 simp only[List.length_take,List.length_drop]at l1 l2
 obtain⟨z,hz1,hz2⟩:=(merge114 _ _ (dB o1.n) (dB o2.n) o1.cons.r o2.cons.r (by omega)).get
 rw[hz1]
 cases z with
 | inr z=>exact hz2.elim
 | inl z=>
  refine aB.2 (cons_eq hz2.1 ho.n ?_).symm
  refine hz2.2.trans (((dC _).app (dC _)).trans ?_)
  rw[List.take_append_drop]
  exact eH.refl _
theorem G60_self(x:aA)(hx:okR x):G60 x x=some true:=by
 unfold G60 T60
 simp only[Tr.den]
 rw[G61_eq x x hx hx]
 simp only[Option.bind_some]
 rw[if_pos (beqT (eK.2 rfl))]
 simp only[Option.bind_some]
 rw[show (x.N==x.N)=true from beqT rfl]
theorem G62s0_self(l:List aA)(ho:fJ l)(hn:l.length≤1000000000000):G62s0 l l=some true:=by
 unfold G62s0 T62s0
 simp only[Tr.den]
 rw[if_neg (bneF rfl)]
 have h1:=bO (bd:=fun s=>(T62s0_L0 l l s).den) (fun i=>(i:Int)) l.length (r:=.inl ()) (fun i hi=>?_) ?_
 ·refine(congrArg (fun x=>Option.bind x _) h1).trans ?_
  rfl
 ·unfold T62s0_L0
  simp only[Tr.den,Int.toNat_natCast]
  rw[if_pos (bH (by omega)),if_pos (by omega),if_pos (by omega),G60_self _ (ho _ (aQ hi))]
  simp only[Option.bind_some,Bool.not_true,Bool.false_eq_true,if_false]
  rw[aL (by omega)]
 ·unfold T62s0_L0
  simp only[Tr.den]
  rw[if_neg (bK (by omega))]
theorem G26_same(a b:List aA)(ha:okD a)(hb:okD b)(hn:a.length≤1000000000000)(hn':b.length≤1000000000000)(hs:eH a b):G26 a b=some true:=by
 have e:PL.cons a=PL.cons b:=(dB ha.n).ext (dB hb.n) (((dC a).trans hs).trans (dC b).symm)
 have hl:=dI a
 unfold G26 T26
 simp only[Tr.den]
 rw[G27_eq a ha.r ha.n hn]
 simp only[Option.bind_some]
 rw[G27_eq b hb.r hb.n hn',←e]
 simp only[Option.bind_some]
 rw[G62s0_self (PL.cons a) ha.cons.r (by omega)]
 rfl
theorem G81_spF(fs:List aF)(e:aW)(hl:okL 104 dT fs)(h:cZ e):Sp (G81 fs e) (fun _=>True):=by
 have hl1:=hl.1
 unfold G81 T81
 simp only[Tr.den,bL]
 refine cQ (fun s:List Int×Int=>s.2) fs.length (by omega) (fun s=>s.1.length=s.2.toNat) (fun s k hI hk hkN=>?_) rfl rfl
 obtain⟨v1,v2⟩:=s
 simp only at hk hI
 subst hk
 simp only[Int.toNat_natCast]at hI
 unfold T81_L0
 simp only[Tr.den,Int.toNat_natCast]
 by_cases hc:k<fs.length
 ·rw[if_pos (bH (by omega)),if_pos (by omega)]
  refine Sq.bind _ (Sq.of (G150_sp v1 _ (by omega) (hl.2 _ (aQ hc)).2.2.2)) fun r _=>?_
  rw[if_pos (by simp only[List.length_cons,List.length_nil]; omega)]
  refine aB.2 ⟨rfl,hc,?_⟩
  simp only
  rw[aL (by omega)]; simp; omega
 ·rw[if_neg (bK (by omega))]
  refine aB.2 ?_
  simp only[sel,bL]
  exact(Sq.of (G150_sp v1 e (by omega) h)).imp fun _ _=>aB.2 trivial
theorem G33_spF(fs:List aF)(n:aE)(hl:okL 104 dT fs)(h:iL n):Sp (G33 fs n) (fun r=>r=true→n.Key.length≤20∧n.Seq.length≤8):=by
 obtain⟨_,_,_,_,hE,_,_,_,_,_,_,_,_,_,hS,_⟩:=h
 have hE1:=hE.1
 have hS1:=hS.1
 have hl1:=hl.1
 unfold G33 T33
 simp only[Tr.den,bL]
 refine cQ (fun s:Int=>s) fs.length (by omega) (fun _=>True) (fun s k _ hk hkN=>?_) trivial rfl
 subst hk
 unfold T33_L0
 simp only[Tr.den,Int.toNat_natCast,dec_and,Option.bind_some]
 by_cases hc:((k:Int)<(fs.length:Int))∧(k:Int)<6
 ·rw[if_pos (bH hc),if_pos (by omega)]
  refine Sq.bind _ (G79_sp _ (hl.2 _ (aQ (show k<fs.length by omega))).2.2.2) fun r _=>?_
  refine Sq.bind (fun _=>True) ?_ (fun j _=>?_)
  ·by_cases h1:r>100
   ·rw[if_pos (bH h1)]; exact aB.2 trivial
   ·rw[if_neg (bK h1),if_pos (by omega)]; exact aB.2 trivial
  ·cases j with
   | true=>exact aB.2 (aB.2 fun h=>by cases h)
   | false=>exact aB.2 ⟨rfl,by omega,trivial⟩
 ·rw[if_neg (bK hc)]
  refine aB.2 ?_
  simp only[sel,bL]
  refine cQ (fun s:Int=>s) n.Exprs.length (by omega) (fun _=>True) (fun s k _ hk hkN=>?_) trivial rfl
  subst hk
  unfold T33_L1
  simp only[Tr.den,Int.toNat_natCast,dec_and,Option.bind_some]
  by_cases hc:((k:Int)<(n.Exprs.length:Int))∧(k:Int)<13
  ·rw[if_pos (bH hc),if_pos (by omega)]
   have he:=okEs.get hE (show k<n.Exprs.length by omega)
   refine Sq.bind _ (Sq.of (G79_sp _ he)) fun r _=>?_
   refine Sq.bind (fun _=>True) ?_ (fun j _=>?_)
   ·by_cases h1:r>200
    ·rw[if_pos (bH h1)]; exact aB.2 trivial
    ·rw[if_neg (bK h1),if_pos (by omega)]
     refine Sq.bind _ (Sq.of (G80_sp _ he)) fun r _=>?_
     by_cases h2:r>12
     ·rw[if_pos (bH h2)]; exact aB.2 trivial
     ·rw[if_neg (bK h2),if_pos (by omega)]
      refine Sq.bind _ (Sq.of (G81_spF fs _ hl he)) fun r _=>aB.2 trivial
   ·cases j with
    | true=>exact aB.2 (aB.2 fun h=>by cases h)
    | false=>exact aB.2 ⟨rfl,by omega,trivial⟩
  ·rw[if_neg (bK hc)]
   refine aB.2 ?_
   simp only[sel,bL]
   refine cQ (fun s:Int=>s) n.Seq.length (by omega) (fun _=>True) (fun s k _ hk hkN=>?_) trivial rfl
   subst hk
   unfold T33_L2
   simp only[Tr.den,Int.toNat_natCast,dec_and,Option.bind_some]
   by_cases hc:((k:Int)<(n.Seq.length:Int))∧(k:Int)<9
   ·rw[if_pos (bH hc),if_pos (by omega)]
    have he:=(hS.2 _ (aQ (show k<n.Seq.length by omega))).1
    refine Sq.bind _ (Sq.of (G79_sp _ he)) fun r _=>?_
    refine Sq.bind (fun _=>True) ?_ (fun j _=>?_)
    ·by_cases h1:r>200
     ·rw[if_pos (bH h1)]; exact aB.2 trivial
     ·rw[if_neg (bK h1),if_pos (by omega)]
      refine Sq.bind _ (Sq.of (G80_sp _ he)) fun r _=>?_
      by_cases h2:r>12
      ·rw[if_pos (bH h2)]; exact aB.2 trivial
      ·rw[if_neg (bK h2),if_pos (by omega)]
       refine Sq.bind _ (Sq.of (G81_spF fs _ hl he)) fun r _=>aB.2 trivial
    ·cases j with
     | true=>exact aB.2 (aB.2 fun h=>by cases h)
     | false=>exact aB.2 ⟨rfl,by omega,trivial⟩
   ·rw[if_neg (bK hc)]
    refine aB.2 ?_
    simp only[sel]
    exact aB.2 fun h=>by have:=of_decide_eq_true h; omega
theorem G82_tot(fs:List aF)(hl:okL 104 dT fs):Sp (G82 fs) (fun _=>True):=(G82_sp fs (okFuncs hl).1 (okFuncs hl).2).imp fun _ _=>trivial
theorem G86_sp(fs:List aF)(cs ps:List Int)(e:aW)(hl:okL 104 dT fs)(he:cZ e):Sp (G86 fs cs ps e) (fun r=>r.2=true→G152 fs cs ps e=some (r.1,true)):=by
 unfold G86 T86
 simp only[Tr.den]
 refine Sq.bind _ (G82_tot fs hl) fun r _=>?_
 split
 ·exact aB.2 fun h=>by cases h
 ·obtain⟨y,hy,_⟩:=(G152_spE fs cs ps e he.bnd).get
  rw[hy]
  simp only[Option.bind_some]
  exact aB.2 fun h=>by rw[show (y.1,true)=y from Prod.ext rfl h.symm]
theorem G85_sp(fs:List aF)(e:aW)(cs:List Int)(hl:okL 104 dT fs)(he:cZ e):Sp (G85 fs e cs) (fun r=>r=true→G152 fs cs [] e=some (2,true)):=by
 unfold G85 T85
 simp only[Tr.den]
 refine Sq.bind _ (G86_sp fs cs [] e hl he) fun r hr=>?_
 refine Sq.bind (fun j:Bool=>j=true→r.2=true∧r.1=2) (bX (fun h=>aB.2 fun h2=>⟨h,beq_iff_eq.1 h2⟩) (fun _=>aB.2 fun h=>by cases h)) fun j hj=>aB.2 fun h=>by
  have h1:=hr (hj h).1
  rwa [(hj h).2]at h1
theorem G83_pat(n:aE)(hop:n.Op=8):Sp (G83 n) (fun r=>r=true→(1≤n.Size∧n.Size≤10000)∧1≤n.Seq.length∧n.Seq.length≤8):=by
 unfold G83 T83
 simp only[Tr.den,G153_eq,Option.bind_some]
 rw[if_neg (gY (by omega)),if_neg (gY (by omega)),if_neg (gY (by omega)),if_neg (gY (by omega)),if_pos (beqT hop)]
 by_cases h1:1≤n.Size∧n.Size≤10000
 ·rw[if_pos (bH h1)]
  exact aB.2 fun h2=>⟨h1,by have:=of_decide_eq_true h2; omega⟩
 ·rw[if_neg (bK h1)]
  exact aB.2 fun h=>by cases h
theorem G84_pat(n:aE)(hop:n.Op=8):G84 n=some 1:=by
 unfold G84 T84
 simp only[Tr.den]
 simp[hop]
structure RightP (fs:List aF)(n:aE)(ta:List Int):Prop where
 pn:okPn n
 key:∀ c,c∈n.Key→0≤c∧c<ta.length
 la:ta.length≤12
 fr:G82 fs=some true
 ty:∀ i,i<n.Seq.length→G152 fs ta [] (n.Seq.getD i default).Pred=some (2,true)
theorem G34_pat(fs:List aF)(n:aE)(ta:List Int)(hl:okL 104 dT fs)(hn:iL n)(hop:n.Op=8)(ha:ta.length≤1048576):Sp (G34 fs n [ta]) (fun r=>r=true→RightP fs n ta):=by
 obtain⟨_,_,_,_,_,_,_,_,hK,_,_,_,_,_,hS,_⟩:=hn
 have hK1:=hK.1
 have hS1:=hS.1
 unfold G34 T34
 simp only[Tr.den]
 obtain⟨y,hy,_⟩:=(G82_tot fs hl).get
 rw[hy]
 simp only[Option.bind_some]
 refine Sq.bind (fun j:Bool=>j=false→y=true∧(1≤n.Size∧n.Size≤10000)∧1≤n.Seq.length∧n.Seq.length≤8) ?_ (fun j hj=>?_)
 ·cases y with
  | false=>exact aB.2 fun h=>by cases h
  | true=>
   simp only[Bool.not_true,Bool.false_eq_true,if_false]
   refine Sq.bind _ (G83_pat n hop) fun r hr=>?_
   cases r with
   | false=>exact aB.2 fun h=>by cases h
   | true=>
    simp only[Bool.not_true,Bool.false_eq_true,if_false]
    rw[G84_pat n hop]
    simp only[Option.bind_some]
    rw[if_neg (bneF (by rfl))]
    exact aB.2 fun _=>⟨trivial,hr rfl⟩
 ·cases j with
  | true=>exact aB.2 fun h=>by cases h
  | false=>
   obtain⟨hyt,hz,hsq⟩:=hj rfl
   subst hyt
   simp only[Bool.false_eq_true,if_false]
   have w:IntKind.i64.wrap ((([ta]:List (List Int)).length:Int)-1)=0:=by
    show IntKind.i64.wrap (1-1)=0
    rw[bR] <;> omega
   have e0:([ta]:List (List Int)).getD (0:Int).toNat default=ta:=rfl
   rw[if_pos (by simp),w,if_pos (by simp),e0]
   refine Sq.bind (fun j:Bool=>j=false→ta.length≤12) ?_ (fun j hj=>?_)
   ·refine bX (fun _=>aB.2 fun h=>by cases h) fun _=>bX (fun _=>aB.2 fun h=>by cases h) fun q1=>bX (fun _=>aB.2 fun h=>by cases h) fun _=>aB.2 fun q2=>?_
    have q1:=of_decide_eq_false q1
    omega
   ·cases j with
    | true=>exact aB.2 fun h=>by cases h
    | false=>
     have hlen:=hj rfl
     simp only[Bool.false_eq_true,if_false]
     rw[if_neg (gY (by omega)),if_neg (gY (by omega)),if_neg (gY (by omega)),if_neg (gY (by omega)),if_neg (gY (by omega))]
     have hor:((if (n.Op==6)=true then some (n.Op==6) else some (n.Op==7)):Option Bool)=some false:=by
      rw[if_neg (gY (by omega)),hop]; rfl
     rw[hor]
     simp only[Option.bind_some,Bool.false_eq_true,if_false]
     rw[if_pos (beqT hop)]
     refine bL.2 (cQ (fun s:Int=>s) n.Seq.length (by omega) (fun s=>∀ i:Nat,(i:Int)<s→G152 fs ta [] (n.Seq.getD i default).Pred=some (2,true)) (fun s k hI hk hkN=>?_) (fun i hi=>absurd hi (by show ¬ ((i:Int)<0); omega)) rfl)
     subst hk
     unfold T34_L1
     simp only[Tr.den,Int.toNat_natCast]
     by_cases hc:k<n.Seq.length
     ·rw[if_pos (bH (by omega)),if_pos (by omega)]
      refine Sq.bind _ (Sq.of (G85_sp fs _ ta hl (hS.2 _ (aQ hc)).1)) fun r hr=>?_
      refine Sq.bind (fun j:Bool=>j=false→r=true) ?_ (fun j hj=>?_)
      ·cases r with
       | false=>exact aB.2 fun h=>by cases h
       | true=>
        simp only[Bool.not_true,Bool.false_eq_true,if_false]
        rw[if_pos (by omega)]
        refine bX (fun _=>aB.2 fun h=>by cases h) fun _=>?_
        rw[if_pos (by omega)]
        exact aB.2 fun _=>trivial
      ·cases j with
       | true=>exact aB.2 (aB.2 fun h=>by cases h)
       | false=>
        refine aB.2 ⟨rfl,hc,fun i hi=>?_⟩
        rw[aL (by omega)]at hi
        rcases Nat.lt_or_ge i k with h | h
        ·exact hI i (by omega)
        ·have:i=k:=by omega
         subst this; exact hr (hj rfl)
     ·rw[if_neg (bK (by omega))]
      refine aB.2 ?_
      simp only[sel]
      refine Sq.bind _ (Sq.of (G88_sp n.Key ta hK1)) fun r hr=>?_
      cases r with
      | false=>exact aB.2 fun h=>by cases h
      | true=>
       simp only[if_true]
       refine aB.2 fun h=>?_
       have h10:=of_decide_eq_true h
       exact⟨⟨hop,hsq,hz,by omega⟩,hr rfl,hlen,hy,fun i hi=>hI i (by omega)⟩
theorem RightP.ev{fs:List aF}{n:aE}{ta:List Int}(h:RightP fs n ta)(hl:okL 104 dT fs)(hn:iL n){l:List aA}(hr:∀ d,d∈l→d.Row.length=ta.length∧∀ v,v∈d.Row→Sm v):okEv fs n l:=by
 obtain⟨_,_,_,_,_,_,_,_,_,_,_,_,_,_,hS,_⟩:=hn
 intro d hd i hi
 have ht:=h.ty i hi
 exact(G344_sp hl h.fr (hS.2 _ (aQ hi)).1 ht d.Time (hr d hd).1 (hr d hd).2).2 rfl
theorem sqf{α:Type}{x:Option α}{Q:α→Prop}:Sq false x Q↔∀ y,x=some y→Q y:=⟨fun h=>h.1,fun h=>⟨h,fun h'=>by cases h'⟩⟩
theorem dL{α:Type}{c:Prop}[Decidable c]{x:Option α}{Q:α→Prop}(h:c→Sq false x Q):Sq false (if c then x else none) Q:=by
 by_cases hc:c
 ·rw[if_pos hc]; exact h hc
 ·rw[if_neg hc]; exact sqf.2 fun y hy=>by cases hy
theorem Sp.and_part{α:Type}{x:Option α}{P Q:α→Prop}(h:Sp x P)(h':Sq false x Q):Sp x (fun y=>P y∧Q y):=⟨fun y hy=>⟨h.1 y hy,h'.1 y hy⟩,h.2⟩
section
variable {P:Program} {A R:Type}
theorem fixF_part{C:A→Option R→Prop}(c0:∀ a,C a none)(B:{f:A→Option R // ∀ a,C a (f a)}→A→Tr P R)(ok:∀ f a,C a (B f a).den)(Q:A→R→Prop)
  (h:∀ f a,(∀ a',Sq false (f.1 a') (Q a'))→Sq false (B f a).den (Q a))(a:A):Sq false (fixF c0 B ok a) (Q a):=by
 have h1:∀ k a,Sq false ((fixN c0 B ok k).1 a) (Q a):=by
  intro k
  induction k with
  | zero=>intro a; exact sqf.2 fun y hy=>by cases hy
  | succ k ih=>intro a; exact h _ _ ih
 unfold fixF Lim
 split
 ·rename_i hh
  obtain⟨k,hk⟩:=hh.choose_spec
  exact aB.2 ((h1 k a).1 _ hk)
 ·exact sqf.2 fun y hy=>by cases hy
end
def TyV(t:Int)(v:aC):Prop:=v.Kind=t∧(t≠1→v.S.toList=(⟨#[]⟩:ByteArray).toList)
theorem ty_vI(n:Int):TyV 0 (vI n):=⟨rfl,fun _=>rfl⟩
theorem ty_vB(b:Bool):TyV 2 (vB b):=⟨rfl,fun _=>rfl⟩
theorem ty_vT(s:ByteArray):TyV 1 (vT s):=⟨rfl,fun h=>absurd rfl h⟩
def tyB(op:Int):Int:=if op≤12 then 0 else if op≤18 then 2 else 1
theorem ty_bop(op:Int)(a b:aC)(h:8≤op∧op≤19):TyV (tyB op) (bop op a b):=by
 have hs:op=8∨op=9∨op=10∨op=11∨op=12∨op=13∨op=14∨op=15∨op=16∨op=17∨op=18∨op=19:=by omega
 rcases hs with h | h | h | h | h | h | h | h | h | h | h | h
 all_goals subst h
 all_goals unfold bop
 ·exact ty_vI _
 ·exact ty_vI _
 ·exact ty_vI _
 ·show TyV 0 (if b.N=0 then vI 0 else vI (IntKind.i64.wrap (Int.tdiv a.N b.N)))
  split <;> exact ty_vI _
 ·show TyV 0 (if b.N=0 then vI 0 else vI (Int.tmod a.N b.N))
  split <;> exact ty_vI _
 ·exact ty_vB _
 ·exact ty_vB _
 ·exact ty_vB _
 ·exact ty_vB _
 ·exact ty_vB _
 ·exact ty_vB _
 ·exact ty_vT _
theorem G391_ty(p:bQ):Sq false (G391 p) (TyV 1):=by
 unfold G391 T391
 simp only[Tr.den]
 repeat' (first | exact aB.2 (ty_vT _) | (refine dL fun _=>?_) | (refine Sq.bind (fun _=>True) ?_ fun _ _=>?_) | (refine aB.2 ?_) | split)
 all_goals first | trivial | exact ty_vT _
inductive TyE (fs:List aF)(cs ps:List Int):aW→Int→Prop
 | mk {e:aW} {t:Int} (ts:List Int) (hl:ts.length=e.Args.length) (hb:e.Args.length≤1048576) (ho:0≤e.Op∧e.Op≤22)
   (hA:∀ i,i<e.Args.length→TyE fs cs ps (e.Args.getD i default) (ts.getD i default))
   (o0:e.Op=0∨e.Op=5∨e.Op=7∨e.Op=20→t=0) (o1:e.Op=1→t=1) (o2:e.Op=2∨e.Op=6→t=2) (ob:8≤e.Op∧e.Op≤19→2≤e.Args.length∧t=tyB e.Op)
   (o3:e.Op=3→(0≤e.N∧e.N<cs.length)∧t=cs.getD e.N.toNat default) (o4:e.Op=4→(0≤e.N∧e.N<ps.length)∧t=ps.getD e.N.toNat default)
   (o21:e.Op=21→(3≤e.Args.length)∧ts.getD 1 default=t∧ts.getD 2 default=t)
   (o22:e.Op=22→(0≤e.N∧e.N<fs.length)∧ts=(fs.getD e.N.toNat default).Params∧t=(fs.getD e.N.toNat default).Result):TyE fs cs ps e t
def TyR(ts:List Int)(row:List aC):Prop:=∀ i,i<ts.length→TyV (ts.getD i default) (row.getD i default)
def TyFs(fs:List aF):Prop:=∀ i,i<fs.length→TyE fs [] (fs.getD i default).Params (fs.getD i default).Body (fs.getD i default).Result
theorem G362_ty(f:dQ)(e:aW):Sq false (G362 f e) (fun v=>∀ cs ps t,TyR cs f.row_→TyR ps f.params_→TyFs f.funcs_→TyE f.funcs_ cs ps e t→TyV t v):=by
 refine fixF_part (C:=fun (a:dQ×aW) (x:Option (aC))=>Con Proofs.Tryz.prog 171 [.t (fW a.1),.t (cJ a.2)] x (fun (y:aC)=>.t (cE y))) (fun a=>⟨bJ Proofs.Tryz.func171 (by kernel_rfl),fun _ h=>nomatch h⟩) (fun rec a=>T362 rec a.1 a.2) (fun rec a=>T362_ok rec a.1 a.2)
  (fun a v=>∀ cs ps t,TyR cs a.1.row_→TyR ps a.1.params_→TyFs a.1.funcs_→TyE a.1.funcs_ cs ps a.2 t→TyV t v) (fun r a hrec=>?_) (f,e)
 clear f e
 obtain⟨f,e⟩:=a
 simp only at hrec ⊢
 refine sqf.2 fun y hy cs ps t hrow hpar hfs he=>?_
 revert y
 refine sqf.1 ?_
 cases he with
 | mk ts hl hb ho hA o0 o1 o2 ob o3 o4 o21 o22=>
 have hr:∀ i,i<e.Args.length→Sq false (r.1 (f,e.Args.getD i default)) (TyV (ts.getD i default)):=fun i hi=>(hrec (f,e.Args.getD i default)).imp fun v hv=>hv cs ps _ hrow hpar hfs (hA i hi)
 unfold T362
 by_cases h21:e.Op=21
 ·obtain⟨hl3,e1,e2⟩:=o21 h21
  simp only[h21,Tr.den]
  rw[if_pos (by decide),if_pos (by omega)]
  refine Sq.bind _ (hr 0 (by omega)) fun v1 _=>?_
  split
  ·rw[if_pos (by omega)]
   refine Sq.bind _ (hr 1 (by omega)) fun v2 h2=>aB.2 (e1▸h2)
  ·rw[if_pos (by omega)]
   refine Sq.bind _ (hr 2 (by omega)) fun v2 h2=>aB.2 (e2▸h2)
 ·simp only[Tr.den]
  rw[if_neg (by simpa using h21)]
  refine bL.2 (gV (fun s:List aC×Int=>s.2) e.Args.length (by omega) (fun s=>(s.1.length:Int)=s.2∧∀ i:Nat,(i:Int)<s.2→TyV (ts.getD i default) (s.1.getD i default)) (fun s k hI hk hkN=>?_) ⟨rfl,fun i hi=>absurd hi (by show ¬ ((i:Int)<0); omega)⟩ rfl)
  obtain⟨b6,v5⟩:=s
  obtain⟨hbl,hbs⟩:=hI
  simp only at hk hbl hbs
  subst hk
  unfold T362_L0
  simp only[Tr.den,Int.toNat_natCast]
  by_cases hc:k<e.Args.length
  ·rw[if_pos (bH (by omega)),if_pos (by omega)]
   refine Sq.bind _ (hr k hc) fun v hv=>?_
   refine dL fun _=>?_
   refine aB.2 ⟨rfl,hc,?_,fun i hi=>?_⟩
   ·simp only[List.length_append,List.length_singleton]; rw[aL (by omega)]; omega
   ·simp only at hi
    rw[aL (by omega)]at hi
    simp only
    rw[cB]
    by_cases hik:i<b6.length
    ·rw[if_pos hik]; exact hbs i (by omega)
    ·rw[if_neg hik]
     obtain rfl:i=k:=by omega
     rw[show i-b6.length=0 by omega]; exact hv
  ·rw[if_neg (bK (by omega))]
   refine aB.2 ?_
   have hbe:b6.length=e.Args.length:=by omega
   show Sq false _ (TyV t)
   simp only[sel]
   have z0:(0:Int).toNat=0:=rfl
   have z1:(1:Int).toNat=1:=rfl
   have hop:e.Op=0∨e.Op=1∨e.Op=2∨e.Op=3∨e.Op=4∨e.Op=5∨e.Op=6∨e.Op=7∨e.Op=20∨e.Op=22∨(8≤e.Op∧e.Op≤19):=by omega
   rcases hop with h | h | h | h | h | h | h | h | h | h | h
   ·rw[if_pos (by rw[h]; rfl),eJ]; exact aB.2 (o0 (by omega)▸ty_vI _)
   ·simp (decide:=true) only[h,↓reduceIte]
    rw[o1 h]; exact aB.2 (ty_vT _)
   ·simp (decide:=true) only[h,↓reduceIte,gE]
    exact aB.2 (o2 (by omega)▸ty_vB _)
   ·obtain⟨h3,e3⟩:=o3 h
    simp (decide:=true) only[h,↓reduceIte]
    refine dL fun _=>aB.2 ?_
    rw[e3]; exact hrow _ (by omega)
   ·obtain⟨h3,e3⟩:=o4 h
    simp (decide:=true) only[h,↓reduceIte]
    refine dL fun _=>aB.2 ?_
    rw[e3]; exact hpar _ (by omega)
   ·simp (decide:=true) only[h,↓reduceIte,eJ]
    exact aB.2 (o0 (by omega)▸ty_vI _)
   ·simp (decide:=true) only[h,↓reduceIte,gE]
    exact dL fun _=>dL fun _=>aB.2 (o2 (by omega)▸ty_vB _)
   ·simp (decide:=true) only[h,↓reduceIte,eJ]
    exact dL fun _=>dL fun _=>aB.2 (o0 (by omega)▸ty_vI _)
   ·simp (decide:=true) only[h,↓reduceIte,eJ]
    exact dL fun _=>dL fun _=>aB.2 (o0 (by omega)▸ty_vI _)
   ·obtain⟨h3,e3,e4⟩:=o22 h
    simp (decide:=true) only[h,↓reduceIte]
    refine dL fun _=>?_
    refine Sq.bind _ (hrec (_,_)) fun v hv=>aB.2 ?_
    rw[e4]
    refine hv [] _ _ (fun i hi=>absurd hi (Nat.not_lt_zero i)) ?_ hfs (hfs e.N.toNat (by omega))
    rw[←e3]
    exact fun i hi=>hbs i (by omega)
   ·obtain⟨l2,ht⟩:=ob h
    have d2:0<b6.length:=by omega
    have d3:1<b6.length:=by omega
    have hop:e.Op=8∨e.Op=9∨e.Op=10∨e.Op=11∨e.Op=12∨e.Op=13∨e.Op=14∨e.Op=15∨e.Op=16∨e.Op=17∨e.Op=18∨e.Op=19:=by omega
    have fin:∀ {x:Option aC} {op:Int},e.Op=op→x=some (bop op (b6.getD 0 default) (b6.getD 1 default))→Sq false x (TyV t):=fun h1 h2=>by
     rw[h2,ht,h1]; exact aB.2 (ty_bop _ _ _ (by omega))
    rcases hop with h | h | h | h | h | h | h | h | h | h | h | h
    ·simp (decide:=true) only[h,↓reduceIte]
     change Sq false (((some 225:Option Nat).bind _).bind _) (TyV t)
     simp only[Option.bind_some,Tr.den,z0,z1]
     rw[if_pos ⟨trivial,by omega⟩,if_pos d2,if_pos ⟨trivial,by omega⟩,if_pos d3,G380_eq]
     exact fin h rfl
    ·simp (decide:=true) only[h,↓reduceIte]
     change Sq false (((some 226:Option Nat).bind _).bind _) (TyV t)
     simp only[Option.bind_some,Tr.den,z0,z1]
     rw[if_pos ⟨trivial,by omega⟩,if_pos d2,if_pos ⟨trivial,by omega⟩,if_pos d3,G381_eq]
     exact fin h rfl
    ·simp (decide:=true) only[h,↓reduceIte]
     change Sq false (((some 227:Option Nat).bind _).bind _) (TyV t)
     simp only[Option.bind_some,Tr.den,z0,z1]
     rw[if_pos ⟨trivial,by omega⟩,if_pos d2,if_pos ⟨trivial,by omega⟩,if_pos d3,G382_eq]
     exact fin h rfl
    ·simp (decide:=true) only[h,↓reduceIte]
     change Sq false (((some 228:Option Nat).bind _).bind _) (TyV t)
     simp only[Option.bind_some,Tr.den,z0,z1]
     rw[if_pos ⟨trivial,by omega⟩,if_pos d2,if_pos ⟨trivial,by omega⟩,if_pos d3,G383_eq]
     exact fin h rfl
    ·simp (decide:=true) only[h,↓reduceIte]
     change Sq false (((some 229:Option Nat).bind _).bind _) (TyV t)
     simp only[Option.bind_some,Tr.den,z0,z1]
     rw[if_pos ⟨trivial,by omega⟩,if_pos d2,if_pos ⟨trivial,by omega⟩,if_pos d3,G384_eq]
     exact fin h rfl
    ·simp (decide:=true) only[h,↓reduceIte]
     change Sq false (((some 230:Option Nat).bind _).bind _) (TyV t)
     simp only[Option.bind_some,Tr.den,z0,z1]
     rw[if_pos ⟨trivial,by omega⟩,if_pos d2,if_pos ⟨trivial,by omega⟩,if_pos d3,G385_eq]
     exact fin h rfl
    ·simp (decide:=true) only[h,↓reduceIte]
     change Sq false (((some 231:Option Nat).bind _).bind _) (TyV t)
     simp only[Option.bind_some,Tr.den,z0,z1]
     rw[if_pos ⟨trivial,by omega⟩,if_pos d2,if_pos ⟨trivial,by omega⟩,if_pos d3,G386_eq]
     exact fin h rfl
    ·simp (decide:=true) only[h,↓reduceIte]
     change Sq false (((some 232:Option Nat).bind _).bind _) (TyV t)
     simp only[Option.bind_some,Tr.den,z0,z1]
     rw[if_pos ⟨trivial,by omega⟩,if_pos d2,if_pos ⟨trivial,by omega⟩,if_pos d3,G387_eq]
     exact fin h rfl
    ·simp (decide:=true) only[h,↓reduceIte]
     change Sq false (((some 233:Option Nat).bind _).bind _) (TyV t)
     simp only[Option.bind_some,Tr.den,z0,z1]
     rw[if_pos ⟨trivial,by omega⟩,if_pos d2,if_pos ⟨trivial,by omega⟩,if_pos d3,G388_eq]
     exact fin h rfl
    ·simp (decide:=true) only[h,↓reduceIte]
     change Sq false (((some 234:Option Nat).bind _).bind _) (TyV t)
     simp only[Option.bind_some,Tr.den,z0,z1]
     rw[if_pos ⟨trivial,by omega⟩,if_pos d2,if_pos ⟨trivial,by omega⟩,if_pos d3,G389_eq]
     exact fin h rfl
    ·simp (decide:=true) only[h,↓reduceIte]
     change Sq false (((some 235:Option Nat).bind _).bind _) (TyV t)
     simp only[Option.bind_some,Tr.den,z0,z1]
     rw[if_pos ⟨trivial,by omega⟩,if_pos d2,if_pos ⟨trivial,by omega⟩,if_pos d3,G390_eq]
     exact fin h rfl
    ·simp (decide:=true) only[h,↓reduceIte]
     change Sq false (((some 236:Option Nat).bind _).bind _) (TyV t)
     simp only[Option.bind_some,Tr.den,z0,z1]
     rw[if_pos ⟨trivial,by omega⟩,if_pos d2,if_pos ⟨trivial,by omega⟩,if_pos d3]
     rw[ht,h]
     exact Sq.bind (fun v:Int×Int×ByteArray=>TyV 1 ⟨v.1,v.2.1,v.2.2⟩) (Sq.bind _ (G391_ty _) fun v hv=>aB.2 hv) fun v hv=>aB.2 hv
theorem G202_ty(l:List Int)(n:Int):Sp (G202 l n) (fun r=>r.2=true→(0≤n∧n<l.length)∧r.1=l.getD n.toNat default):=by
 unfold G202 T202
 simp only[Tr.den]
 by_cases h1:n<0
 ·rw[if_pos (bH h1)]
  exact aB.2 (fun h=>by cases h)
 ·rw[if_neg (bK h1)]
  by_cases h2:n≥(l.length:Int)
  ·simp only[Option.bind_some,decide_eq_true h2,if_true]
   exact aB.2 (fun h=>by cases h)
  ·simp only[Option.bind_some,decide_eq_false h2,Bool.false_eq_true,if_false]
   rw[if_pos (by omega),if_pos (by omega),G151_eq]
   exact aB.2 (fun _=>⟨by omega,rfl⟩)
theorem G200_ty(fs:List aF)(n:Int)(l:List Int)(hl:l.length≤1048576):Sp (G200 fs n l) (fun r=>r.2=true→(0≤n∧n<fs.length)∧l=(fs.getD n.toNat default).Params∧r.1=(fs.getD n.toNat default).Result):=by
 unfold G200 T200
 simp only[Tr.den]
 by_cases h1:n<0
 ·rw[if_pos (bH h1)]
  exact aB.2 (fun h=>by cases h)
 ·rw[if_neg (bK h1)]
  by_cases h2:n≥(fs.length:Int)
  ·simp only[Option.bind_some,decide_eq_true h2,if_true]
   exact aB.2 (fun h=>by cases h)
  ·simp only[Option.bind_some,decide_eq_false h2,Bool.false_eq_true,if_false]
   rw[if_pos (by omega)]
   by_cases h3:((fs.getD n.toNat default).Params.length:Int)=(l.length:Int)
   ·rw[if_neg (by simpa using h3)]
    refine bL.2 (gV (fun s:Int=>s) l.length (by omega) (fun s=>∀ i:Nat,(i:Int)<s→l.getD i default=(fs.getD n.toNat default).Params.getD i default) (fun s k hI hk hkN=>?_) (fun i hi=>absurd hi (by show ¬ ((i:Int)<0); omega)) rfl)
    subst hk
    unfold T200_L0
    simp only[Tr.den,Int.toNat_natCast]
    by_cases hc:k<l.length
    ·rw[if_pos (bH (by omega)),if_pos (by omega),if_pos (by omega)]
     split
     ·exact aB.2 (aB.2 (fun h=>by cases h))
     ·rename_i hne
      refine aB.2 ⟨rfl,hc,fun i hi=>?_⟩
      rw[aL (by omega)]at hi
      rcases Nat.lt_or_ge i k with h | h
      ·exact hI i (by omega)
      ·obtain rfl:i=k:=by omega
       exact Classical.byContradiction fun hh=>hne (bneT hh)
    ·rw[if_neg (bK (by omega))]
     exact aB.2 (aB.2 (fun _=>⟨by omega,ext_getD (by omega) fun i hi=>hI i (by omega),rfl⟩))
   ·rw[if_pos (by simpa using h3)]
    exact aB.2 (fun h=>by cases h)
set_option maxHeartbeats 1000000 in
theorem G185_ty(fs:List aF)(cs ps:List Int)(e:aW)(he:BndE e):Sp (G185 fs cs ps e) (fun r=>r.2=true→TyE fs cs ps e r.1):=by
 refine fixF_sq (C:=fun (a:(List aF)×(List Int)×(List Int)×aW) (x:Option (Int×Bool))=>Con Proofs.Tryz.prog 212 [.t (eL bA (a.1)),.t (eL bC (a.2.1)),.t (eL bC (a.2.2.1)),.t (cJ a.2.2.2)] x (fun (y:Int×Bool)=>.tup [.t (.int .i64 (y.1)),.t (.bool (y.2))])) (fun a=>⟨bJ Proofs.Tryz.func212 (by kernel_rfl),fun _ h=>nomatch h⟩) (fun rec a=>T185 rec a.1 a.2.1 a.2.2.1 a.2.2.2) (fun rec a=>T185_ok rec a.1 a.2.1 a.2.2.1 a.2.2.2)
  (fun a=>BndE a.2.2.2) (fun a=>SizeOf.sizeOf a.2.2.2) (fun a r=>r.2=true→TyE a.1 a.2.1 a.2.2.1 a.2.2.2 r.1) (fun b r a ha hrec=>?_) true (fs,cs,ps,e) he
 clear he fs cs ps e
 obtain⟨fs,cs,ps,e⟩:=a
 simp only at ha hrec ⊢
 cases ha with
 | mk hs hl hA=>
 have hr:∀ i,i<e.Args.length→Sq b (r.1 (fs,cs,ps,e.Args.getD i default)) (fun r=>r.2=true→TyE fs cs ps (e.Args.getD i default) r.1):=fun i hi=>hrec _ (hA i hi) (sizeOf_argE (aQ hi))
 unfold T185
 simp only[Tr.den]
 refine bL.2 (gV (fun s:List Int×Int=>s.2) e.Args.length (by omega) (fun s=>(s.1.length:Int)=s.2∧∀ i:Nat,(i:Int)<s.2→TyE fs cs ps (e.Args.getD i default) (s.1.getD i default)) (fun s k hI hk hkN=>?_) ⟨rfl,fun i hi=>absurd hi (by show ¬ ((i:Int)<0); omega)⟩ rfl)
 obtain⟨b3,v2⟩:=s
 obtain⟨hbl,hbs⟩:=hI
 simp only at hk hbl hbs
 subst hk
 unfold T185_L0
 simp only[Tr.den,Int.toNat_natCast]
 by_cases hc:k<e.Args.length
 ·rw[if_pos (bH (by omega)),if_pos (by omega)]
  refine Sq.bind _ (hr k hc) fun v hv=>?_
  by_cases hv2:v.2=true
  ·rw[if_neg (by rw[hv2]; decide),if_pos (by simp only[List.length_singleton]; omega)]
   refine aB.2 ⟨rfl,hc,?_,fun i hi=>?_⟩
   ·simp only[List.length_append,List.length_singleton]; rw[aL (by omega)]; omega
   ·simp only at hi ⊢
    rw[aL (by omega)]at hi
    rw[cB]
    rcases Nat.lt_or_ge i k with h | h
    ·rw[if_pos (by omega)]; exact hbs i (by omega)
    ·have:i=k:=by omega
     subst this
     rw[if_neg (by omega),show i-b3.length=0 by omega]; exact hv hv2
  ·rw[if_pos (by simp only[Bool.not_eq_true]at hv2; rw[hv2]; rfl)]
   exact aB.2 (aB.2 (fun h=>by cases h))
 ·rw[if_neg (bK (by omega))]
  refine aB.2 ?_
  have hbe:b3.length=e.Args.length:=by omega
  have hA':∀ i,i<e.Args.length→TyE fs cs ps (e.Args.getD i default) (b3.getD i default):=fun i hi=>hbs i (by omega)
  simp only[sel]
  refine Sq.bind (fun s:List Int×Bool=>s.1=b3) (by split <;> exact aB.2 rfl) (fun s hsb=>?_)
  obtain⟨j5,j6⟩:=s
  simp only at hsb
  subst hsb
  cases j6 with
  | true=>exact aB.2 (fun h=>by cases h)
  | false=>
   simp only[Bool.false_eq_true,if_false]
   by_cases h22:e.Op=22
   ·rw[if_pos (by rw[h22]; rfl)]
    refine Sq.bind _ (Sq.of (G200_ty fs e.N j5 (by omega))) fun r hr=>aB.2 (fun h=>?_)
    have h3:=hr h
    exact .mk j5 hbe (by omega) (by omega) hA' (fun h=>by omega) (fun h=>by omega) (fun h=>by omega) (fun h=>by omega) (fun h=>by omega) (fun h=>by omega) (fun h=>by omega) (fun _=>h3)
   ·rw[if_neg (by simpa using h22),G201_eq]
    simp only[Option.bind_some]
    by_cases hN:numE e.Op=(j5.length:Int)
    ·rw[if_neg (by simpa using hN)]
     have hh:(0≤e.Op∧e.Op≤21)∧(e.Op=6∨e.Op=7∨e.Op=20→1≤j5.length)∧(8≤e.Op∧e.Op≤19→2≤j5.length)∧(e.Op=21→3≤j5.length):=by
      unfold numE at hN
      repeat' split at hN
      all_goals omega
     obtain⟨ho,c1,c2,c21⟩:=hh
     clear hN
     by_cases h3:e.Op=3
     ·simp (decide:=true) only[h3,↓reduceIte]
      refine Sq.bind _ (Sq.of (G202_ty cs e.N)) fun r hr=>aB.2 (fun h=>.mk j5 hbe (by omega) (by omega) hA' (fun h=>by omega) (fun h=>by omega) (fun h=>by omega) (fun h=>by omega) (fun _=>hr h) (fun h=>by omega) (fun h=>by omega) (fun h=>by omega))
     by_cases h4:e.Op=4
     ·simp (decide:=true) only[h4,↓reduceIte]
      refine Sq.bind _ (Sq.of (G202_ty ps e.N)) fun r hr=>aB.2 (fun h=>.mk j5 hbe (by omega) (by omega) hA' (fun h=>by omega) (fun h=>by omega) (fun h=>by omega) (fun h=>by omega) (fun h=>by omega) (fun _=>hr h) (fun h=>by omega) (fun h=>by omega))
     have fin:∀ t:Int,e.Op≠21→(e.Op=0∨e.Op=5∨e.Op=7∨e.Op=20→t=0)→(e.Op=1→t=1)→(e.Op=2∨e.Op=6→t=2)→(8≤e.Op∧e.Op≤19→t=tyB e.Op)→TyE fs cs ps e t:=fun t q1 q2 q3 q4 q5=>
      .mk j5 hbe (by omega) (by omega) hA' q2 q3 q4 (fun h=>⟨by have:=c2 h; omega,q5 h⟩) (fun h=>absurd h h3) (fun h=>absurd h h4) (fun h=>absurd h q1) (fun h=>absurd h h22)
     by_cases hu:e.Op=0∨e.Op=1∨e.Op=2∨e.Op=5
     ·rcases hu with h | h | h | h
      ·simp (decide:=true) only[h,↓reduceIte]
       repeat' (first | exact aB.2 (fun _=>fin 0 (by omega) (fun _=>rfl) (fun _=>by omega) (fun _=>by omega) (fun _=>by omega)) | exact aB.2 (fun h=>by cases h) | split)
      ·simp (decide:=true) only[h,↓reduceIte]
       repeat' (first | exact aB.2 (fun _=>fin 1 (by omega) (fun _=>by omega) (fun _=>by omega) (fun _=>by omega) (fun _=>by omega)) | exact aB.2 (fun h=>by cases h) | split)
      ·simp (decide:=true) only[h,↓reduceIte]
       repeat' (first | exact aB.2 (fun _=>fin 2 (by omega) (fun _=>by omega) (fun _=>by omega) (fun _=>by omega) (fun _=>by omega)) | exact aB.2 (fun h=>by cases h) | split)
      ·simp (decide:=true) only[h,↓reduceIte]
       repeat' (first | exact aB.2 (fun _=>fin 0 (by omega) (fun _=>rfl) (fun _=>by omega) (fun _=>by omega) (fun _=>by omega)) | exact aB.2 (fun h=>by cases h) | split)
     by_cases hu1:e.Op=6∨e.Op=7∨e.Op=20
     ·have g0:(0:Int)<(j5.length:Int):=by have:=c1 hu1; omega
      have g0':Int.toNat 0<j5.length:=by show 0<j5.length; omega
      rcases hu1 with h | h | h
      ·simp (decide:=true) only[h,g0,g0',and_self,↓reduceIte]
       repeat' (first | exact aB.2 (fun _=>fin 2 (by omega) (fun _=>by omega) (fun _=>by omega) (fun _=>by omega) (fun _=>by omega)) | exact aB.2 (fun h=>by cases h) | split)
      ·simp (decide:=true) only[h,g0,g0',and_self,↓reduceIte]
       repeat' (first | exact aB.2 (fun _=>fin 0 (by omega) (fun _=>rfl) (fun _=>by omega) (fun _=>by omega) (fun _=>by omega)) | exact aB.2 (fun h=>by cases h) | split)
      ·simp (decide:=true) only[h,g0,g0',and_self,↓reduceIte]
       repeat' (first | exact aB.2 (fun _=>fin 0 (by omega) (fun _=>rfl) (fun _=>by omega) (fun _=>by omega) (fun _=>by omega)) | exact aB.2 (fun h=>by cases h) | split)
     have l2:2≤j5.length:=by
      by_cases h:e.Op=21
      ·have:=c21 h; omega
      ·exact c2 (by omega)
     have g0:(0:Int)<(j5.length:Int):=by omega
     have g0':Int.toNat 0<j5.length:=by show 0<j5.length; omega
     have g1:(1:Int)<(j5.length:Int):=by omega
     have g1':Int.toNat 1<j5.length:=by show 1<j5.length; omega
     have hop:e.Op=8∨e.Op=9∨e.Op=10∨e.Op=11∨e.Op=12∨e.Op=13∨e.Op=14∨e.Op=15∨e.Op=16∨e.Op=17∨e.Op=18∨e.Op=19∨e.Op=21:=by omega
     have fin2:∀ t:Int,(8≤e.Op∧e.Op≤19)→t=tyB e.Op→TyE fs cs ps e t:=fun t q1 q2=>fin t (by omega) (fun _=>by omega) (fun _=>by omega) (fun _=>by omega) fun _=>q2
     rcases hop with h | h | h | h | h | h | h | h | h | h | h | h | h
     iterate 5
      ·simp (decide:=true) only[h,g0,g0',g1,g1',and_self,↓reduceIte,Option.bind_some]
       repeat' (first | exact aB.2 (fun _=>fin2 0 (by omega) (by rw[h]; rfl)) | exact aB.2 (fun h=>by cases h) | split)
     iterate 6
      ·simp (decide:=true) only[h,g0,g0',g1,g1',and_self,↓reduceIte,Option.bind_some]
       repeat' (first | exact aB.2 (fun _=>fin2 2 (by omega) (by rw[h]; rfl)) | exact aB.2 (fun h=>by cases h) | split)
     ·simp (decide:=true) only[h,g0,g0',g1,g1',and_self,↓reduceIte,Option.bind_some]
      repeat' (first | exact aB.2 (fun _=>fin2 1 (by omega) (by rw[h]; rfl)) | exact aB.2 (fun h=>by cases h) | split)
     have l3:=c21 h
     have g2:(2:Int)<(j5.length:Int):=by omega
     have g2':Int.toNat 2<j5.length:=by show 2<j5.length; omega
     simp (decide:=true) only[h,g0,g0',g1,g1',g2,g2',and_self,↓reduceIte,Option.bind_some]
     split
     ·exact aB.2 (fun h=>by cases h)
     ·split
      ·refine aB.2 fun hq=>?_
       have hq:=beq_iff_eq.1 hq
       exact .mk j5 hbe (by omega) (by omega) hA' (fun h=>by omega) (fun h=>by omega) (fun h=>by omega) (fun h=>by omega) (fun h=>by omega) (fun h=>by omega) (fun _=>⟨by omega,rfl,hq.symm⟩) (fun h=>by omega)
      ·exact aB.2 (fun h=>by cases h)
    ·rw[if_pos (by simpa using hN)]
     exact aB.2 (fun h=>by cases h)
theorem G152_ty(fs:List aF)(cs ps:List Int)(e:aW)(he:BndE e):Sp (G152 fs cs ps e) (fun r=>r.2=true→TyE fs cs ps e r.1):=by
 unfold G152 T152
 simp only[Tr.den]
 refine Sq.bind _ (G80_spE e he) fun r _=>?_
 split
 ·exact aB.2 (fun h=>by cases h)
 ·refine Sq.bind _ (G185_ty fs cs ps e he) fun r2 h2=>?_
  split
  ·exact aB.2 (fun h=>by cases h)
  ·rename_i h3
   exact aB.2 (fun _=>h2 (by simpa using h3))
theorem TyE.mono{fs:List aF}{i:Nat}{cs ps:List Int}{e:aW}{t:Int}(h:TyE (fs.take i) cs ps e t):TyE fs cs ps e t:=by
 induction h with
 | @mk e t ts hl hb ho hA o0 o1 o2 ob o3 o4 o21 o22 ih=>
  refine .mk ts hl hb ho ih o0 o1 o2 ob o3 o4 o21 fun h=>?_
  obtain⟨g1,g2,g3⟩:=o22 h
  rw[List.length_take]at g1
  have e1:(fs.take i).getD e.N.toNat default=fs.getD e.N.toNat default:=by
   rw[List.getD_eq_getElem?_getD,List.getD_eq_getElem?_getD,List.getElem?_take,if_pos (by omega)]
  rw[e1]at g2 g3
  exact⟨by omega,g2,g3⟩
theorem G82_ty(fs:List aF)(hl:fs.length≤1048576)(hb:∀ i,i<fs.length→BndE (fs.getD i default).Body∧(fs.getD i default).Params.length≤1048576):
  Sp (G82 fs) (fun ok=>ok=true→TyFs fs):=by
 unfold G82 T82
 simp only[Tr.den]
 refine bL.2 (gV (fun s:Int=>s) fs.length (by omega) (fun s=>∀ i:Nat,(i:Int)<s→TyE (fs.take i) [] (fs.getD i default).Params (fs.getD i default).Body (fs.getD i default).Result) (fun s k hI hk hkN=>?_) (fun i hi=>absurd hi (by show ¬ ((i:Int)<0); omega)) rfl)
 subst hk
 unfold T82_L0
 simp only[Tr.den,Int.toNat_natCast]
 by_cases hc:k<fs.length
 ·rw[if_pos (bH (by omega))]
  by_cases h20:(k:Int)≤20
  ·simp only[Option.bind_some,decide_eq_true h20,if_true]
   rw[if_pos (by omega)]
   have hp:=(hb k hc).2
   refine bL.2 (gV (fun s:Int=>s) (fs.getD k default).Params.length (by omega) (fun _=>True) (fun s m _ hm hmN=>?_) trivial rfl)
   subst hm
   unfold T82_L1
   simp only[Tr.den,Int.toNat_natCast]
   by_cases hm:m<(fs.getD k default).Params.length
   ·rw[if_pos (bH (by omega)),if_pos (by omega),G151_eq]
    simp only[Option.bind_some]
    split
    ·exact aB.2 (aB.2 (aB.2 (fun h=>by cases h)))
    ·exact aB.2 ⟨rfl,hm,trivial⟩
   ·rw[if_neg (bK (by omega))]
    refine aB.2 ?_
    simp only[sel]
    rw[if_pos ⟨by omega,by omega,by omega⟩]
    have e1:(fs.drop (Int.toNat 0)).take ((k:Int)-0).toNat=fs.take k:=by
     rw[show ((k:Int)-0).toNat=k by omega]; rfl
    rw[e1,if_pos ⟨by omega,by omega,by omega⟩]
    refine Sq.bind _ (Sq.of (G152_ty (fs.take k) [] (fs.getD k default).Params (fs.getD k default).Body (hb k hc).1)) fun r5 h5=>?_
    by_cases ho:r5.2=true
    ·rw[if_neg (by rw[ho]; decide)]
     refine Sq.bind (fun j:Bool=>j=false→r5.1=(fs.getD k default).Result) ?_ fun j6 hj=>?_
     ·refine bX (fun _=>aB.2 fun h=>by cases h) fun h=>aB.2 fun _=>?_
      simpa using h
     cases j6 with
     | true=>exact aB.2 (aB.2 (fun h=>by cases h))
     | false=>
      refine aB.2 ⟨rfl,hc,fun i hi=>?_⟩
      rw[aL (by omega)]at hi
      rcases Nat.lt_or_ge i k with h | h
      ·exact hI i (by omega)
      ·have:i=k:=by omega
       subst this; rw[←hj rfl]; exact h5 ho
    ·rw[if_pos (by simp only[Bool.not_eq_true]at ho; rw[ho]; rfl)]
     exact aB.2 (aB.2 (fun h=>by cases h))
  ·simp only[Option.bind_some,decide_eq_false h20,Bool.false_eq_true,if_false]
   refine aB.2 (aB.2 (fun h=>?_))
   have:=of_decide_eq_true h
   omega
 ·rw[if_neg (bK (by omega))]
  simp only[Option.bind_some,Bool.false_eq_true,if_false]
  refine aB.2 (aB.2 (fun h i hi=>(hI i (by omega)).mono))
theorem G344_ty{fs:List aF}{n:Nat}(hf:okL n dT fs)(h:G82 fs=some true){cs:List Int}{e:aW}(he:cZ e){t:Int}(ht:G152 fs cs [] e=some (t,true))
  (tm:Int){row:List aC}(hr:TyR cs row){v:aC}(hv:G344 fs e tm row=some v):TyV t v:=by
 obtain⟨hl,hb⟩:=okFuncs hf
 have h1:=(G82_ty fs hl hb).1 _ h rfl
 have h2:=(G152_ty fs cs [] e he.bnd).1 _ ht rfl
 have h3:Sq false (G344 fs e tm row) (TyV t):=by
  unfold G344 T344
  simp only[Tr.den]
  exact Sq.bind _ (G362_ty _ e) fun v hv=>aB.2 (hv cs [] t hr (fun i hi=>absurd hi (Nat.not_lt_zero i)) h1 h2)
 exact h3.1 v hv
abbrev isCp (x:aK):Bool:=gC .i64 x.Do 1==1
def FitsP(ta:List Int):List aK→List aA→Int→Prop
 | [],_,_=>True
 | x::l,s0,c=>(isCp x=true→x.C≤2199023255552∧FitsP ta l s0 (if x.C>c then x.C else c)) ∧
  (isCp x=false→x.L.length≤8∧(∀ d,d∈x.L→c<d.Time∧0≤d.Time∧d.Time≤2199023255552∧d.Row.length=ta.length∧(-3≤d.N∧d.N≤3)∧TyR ta d.Row)∧(∀ d,d∈cons (s0++x.L)→1≤d.N∧d.N≤20) ∧
   FitsP ta l (cons (s0++x.L)) c)
theorem G184_ty(v:aC):Sp (G184 v) (fun r=>r=true→TyV v.Kind v):=by
 have fin:∀ r:Bool,(r=true→v.Kind≠1→v.S.toList=(⟨#[]⟩:ByteArray).toList)→(r=true→TyV v.Kind v):=fun r h hr=>⟨rfl,h hr⟩
 unfold G184 T184
 simp only[Tr.den]
 refine bX (fun _=>aB.2 (fin _ fun h _=>beq_iff_eq.1 h)) fun _=>bX (fun h1=>Sq.bind (fun _=>True) ?_ fun _ _=>aB.2 (fin _ fun _ h=>absurd (beq_iff_eq.1 h1) h)) fun _=>Sq.bind (fun r:Bool=>r=true→v.Kind≠1→v.S.toList=(⟨#[]⟩:ByteArray).toList) ?_ fun _ h=>aB.2 (fin _ h)
 ·exact bX (fun _=>aB.2 trivial) fun _=>aB.2 trivial
 ·exact bX (fun _=>bX (fun _=>aB.2 fun h _=>beq_iff_eq.1 h) fun _=>bX (fun _=>aB.2 fun h _=>beq_iff_eq.1 h) fun _=>aB.2 fun h=>by cases h) fun _=>aB.2 fun h=>by cases h
theorem G149_ty(r:List aC)(h:r.length≤1048576):Sp (G149 r) (fun q=>q=true→∀ i,i<r.length→TyV (r.getD i default).Kind (r.getD i default)):=by
 unfold G149 T149
 simp only[Tr.den,bL]
 refine cQ (fun s:Int=>s) r.length (by omega) (fun s=>∀ i:Nat,(i:Int)<s→TyV (r.getD i default).Kind (r.getD i default)) (fun s k hI hk hkN=>?_) (fun i hi=>absurd hi (by show ¬ ((i:Int)<0); omega)) rfl
 subst hk
 unfold T149_L0
 simp only[Tr.den,Int.toNat_natCast]
 by_cases hc:k<r.length
 ·rw[if_pos (bH (by omega)),if_pos (by omega)]
  refine Sq.bind _ (G184_ty _) fun q hq=>?_
  cases q with
  | false=>exact aB.2 (aB.2 fun h=>by cases h)
  | true=>
   refine aB.2 ⟨rfl,hc,fun i hi=>?_⟩
   rw[aL (by omega)]at hi
   rcases Nat.lt_or_ge i k with h | h
   ·exact hI i (by omega)
   ·have:i=k:=by omega
    subst this; exact hq rfl
 ·rw[if_neg (bK (by omega))]
  exact aB.2 (aB.2 fun _ i hi=>hI i (by omega))
theorem G78_ty(r:List aC)(h:r.length≤1048576):Sp (G78 r) (fun q=>q=true→∀ i,i<r.length→TyV (r.getD i default).Kind (r.getD i default)):=by
 unfold G78 T78
 simp only[Tr.den]
 refine Sq.bind (fun q:Bool=>q=true→∀ i,i<r.length→TyV (r.getD i default).Kind (r.getD i default)) ?_ fun _ h=>aB.2 h
 exact bX (fun _=>Sq.bind _ (G149_ty r h) fun _ h=>aB.2 h) fun _=>aB.2 fun h=>by cases h
theorem G30_ty(x:aA)(types:List Int)(h:x.Row.length≤1048576)(ht:types.length≤1048576):Sq false (G30 [x] types 1) (fun r=>r=true→TyR types x.Row):=by
 unfold G30 T30
 simp only[Tr.den,bL]
 refine cQ (fun s:Int=>s) 1 (by omega) (fun s=>1≤s.toNat→TyR types x.Row) (fun s k hI hk hkN=>?_) (by simp) rfl
 subst hk
 unfold T30_L0
 simp only[Tr.den,Int.toNat_natCast,dec_and,Option.bind_some]at hI ⊢
 by_cases hc:k<1
 ·obtain rfl:k=0:=by omega
  have e0:([x]:List aA).getD 0 default=x:=rfl
  have el:(([x]:List aA).length:Int)=1:=rfl
  rw[if_pos (bH (by omega)),if_pos (by omega)]
  refine Sq.bind (fun j:Bool=>j=false→x.Row.length=types.length∧∀ i,i<x.Row.length→TyV (x.Row.getD i default).Kind (x.Row.getD i default)) ?_ (fun j hj=>?_)
  ·refine bX (fun _=>aB.2 fun h=>by cases h) fun q1=>dL fun _=>(bX (fun _=>aB.2 fun h=>by cases h) fun q2=>dL fun _=>(bX (fun _=>aB.2 fun h=>by cases h) fun q3=>dL fun _=>(bX (fun _=>aB.2 fun h=>by cases h) fun q4=>dL fun _=>(bX (fun _=>aB.2 fun h=>by cases h) fun q5=>dL fun _=>(Sq.bind _ (Sq.of (G78_ty _ h)) fun r hr=>aB.2 fun hq=>?_)))))
   simp only[bne_eq_false_iff_eq]at q5
   rw[e0]at q5
   have hq:r=true:=by simpa using hq
   exact⟨by omega,hr hq⟩
  ·cases j with
   | true=>exact aB.2 (aB.2 fun h=>by cases h)
   | false=>
    obtain⟨hlen,hty⟩:=hj rfl
    simp only[Bool.false_eq_true,if_false]
    refine bL.2 ?_
    refine cQ (fun s:Int=>s) types.length (by omega) (fun s=>∀ i:Nat,(i:Int)<s→(x.Row.getD i default).Kind=types.getD i default) (fun s k hI hk hkN=>?_) (fun i hi=>absurd hi (by show ¬ ((i:Int)<0); omega)) rfl
    subst hk
    unfold T30_L1
    simp only[Tr.den,Int.toNat_natCast]
    by_cases hc:k<types.length
    ·rw[if_pos (bH (by omega))]
     refine dL fun _=>dL fun _=>dL fun _=>?_
     split
     ·exact aB.2 (aB.2 (aB.2 fun h=>by cases h))
     ·rename_i hne
      refine aB.2 ⟨rfl,hc,fun i hi=>?_⟩
      rw[aL (by omega)]at hi
      rcases Nat.lt_or_ge i k with h | h
      ·exact hI i (by omega)
      ·have:i=k:=by omega
       subst this
       exact Classical.byContradiction fun hh=>hne (bneT hh)
    ·rw[if_neg (bK (by omega))]
     refine aB.2 (aB.2 ⟨rfl,by omega,fun _ i hi=>?_⟩)
     have h1:=hty i (by omega)
     rwa [hI i (by omega)]at h1
 ·obtain rfl:k=1:=by omega
  rw[if_neg (by simp)]
  exact aB.2 (aB.2 fun _=>hI (by simp))
theorem fitsP1(ta:List Int)(acts:List aK)(s0:List aA)(k:Nat)(hk:k<acts.length)(c:Int)(hok:bT (acts.getD k default))(ha:ta.length≤1048576)(hL:(acts.getD k default).L.length≤8):
  Sp (cA (fun s=>(T338_L1 ta acts s0 c (k:Int) s).den) 0) (fun z=>z = .inr (.inr (.inr (.inr false)))∨(z = .inl ()∧∀ d,d∈(acts.getD k default).L→c<d.Time∧0≤d.Time∧d.Time≤2199023255552∧d.Row.length=ta.length∧(-3≤d.N∧d.N≤3)∧TyR ta d.Row)):=by
 have hd:=hok.2.2
 refine cQ (fun s:Int=>s) (acts.getD k default).L.length (by omega) (fun s=>∀ d,d∈(acts.getD k default).L.take s.toNat→c<d.Time∧0≤d.Time∧d.Time≤2199023255552∧d.Row.length=ta.length∧(-3≤d.N∧d.N≤3)∧TyR ta d.Row) (fun s q hI hq hqN=>?_) (by simp) rfl
 subst hq
 unfold T338_L1
 simp only[Tr.den,Int.toNat_natCast]at hI ⊢
 rw[if_pos (by omega)]
 by_cases hc:q<(acts.getD k default).L.length
 ·have hm:=aQ hc
  have hx:=hd.2 _ hm
  rw[if_pos (bH (by omega)),if_pos (by omega),if_pos (by omega)]
  refine Sq.bind (fun j:Bool=>j=false→c<((acts.getD k default).L.getD q default).Time ∧ -3≤((acts.getD k default).L.getD q default).N∧((acts.getD k default).L.getD q default).N≤3) ?_ (fun j hj=>?_)
  ·refine bX (fun _=>aB.2 fun h=>by cases h) fun q1=>bX (fun _=>aB.2 fun h=>by cases h) fun q2=>aB.2 fun q3=>?_
   have q1:=of_decide_eq_false q1
   have q2:=of_decide_eq_false q2
   have q3:=of_decide_eq_false q3
   omega
  ·cases j with
   | true=>exact aB.2 (.inl rfl)
   | false=>
    have hj2:=hj rfl
    simp only[Bool.false_eq_true,if_false]
    refine Sq.bind _ (Sq.of ((G30_sp _ _ (by exact hx.2.1.1) ha).and_part (G30_ty _ _ (by exact hx.2.1.1) ha))) (fun r hr=>?_)
    cases r with
    | false=>exact aB.2 (.inl rfl)
    | true=>
     have hr2:=hr.2 rfl
     have hr:=hr.1 rfl
     simp only at hr hr2
     refine aB.2 ⟨rfl,hc,fun d hdm=>?_⟩
     rw[aL (by omega),Int.toNat_natCast,aM hc,List.mem_append,List.mem_singleton]at hdm
     rcases hdm with hdm | rfl
     ·exact hI d hdm
     ·exact⟨hj2.1,hr.1,hr.2.1,hr.2.2,hj2.2,hr2⟩
 ·rw[if_neg (bK (by omega))]
  refine aB.2 (.inr ⟨rfl,?_⟩)
  rwa [List.take_of_length_le (by omega)]at hI
theorem fitsP2(ta:List Int)(acts:List aK)(c v3:Int)(r:List aA)(h0:r.length≤1000000):
  Sp (cA (fun s=>(T338_L2 ta acts c v3 r s).den) 0) (fun z=>z = .inr (.inr (.inr (.inr false)))∨(z = .inl ()∧∀ d,d∈r→1≤d.N∧d.N≤20)):=by
 refine cQ (fun s:Int=>s) r.length (by omega) (fun s=>∀ d,d∈r.take s.toNat→1≤d.N∧d.N≤20) (fun s q hI hq hqN=>?_) (by simp) rfl
 subst hq
 unfold T338_L2
 simp only[Tr.den,Int.toNat_natCast]at hI ⊢
 by_cases hc:q<r.length
 ·rw[if_pos (bH (by omega)),if_pos (by omega)]
  refine Sq.bind (fun j:Bool=>j=false→1≤(r.getD q default).N∧(r.getD q default).N≤20) ?_ (fun j hj=>?_)
  ·refine bX (fun _=>aB.2 fun h=>by cases h) fun q1=>?_
   rw[if_pos (by omega)]
   refine aB.2 fun q3=>?_
   have q1:=of_decide_eq_false q1
   have q3:=of_decide_eq_false q3
   omega
  ·cases j with
   | true=>exact aB.2 (.inl rfl)
   | false=>
    refine aB.2 ⟨rfl,hc,fun d hdm=>?_⟩
    rw[aL (by omega),Int.toNat_natCast,aM hc,List.mem_append,List.mem_singleton]at hdm
    rcases hdm with hdm | rfl
    ·exact hI d hdm
    ·exact hj rfl
 ·rw[if_neg (bK (by omega))]
  refine aB.2 (.inr ⟨rfl,?_⟩)
  rwa [List.take_of_length_le (by omega)]at hI
theorem G338_sp(n:aE)(ta:List Int)(acts:List aK)(most:Nat)(hm:most≤1000)(hok:okL 40 bT acts)(ha:ta.length≤1048576):
  Sp (G338 n ta acts (most:Int)) (fun r=>r=true→acts.length≤most∧FitsP ta acts [] (-1)):=by
 unfold G338 T338
 simp only[Tr.den]
 by_cases hlen:(acts.length:Int)>(most:Int)
 ·rw[if_pos (bH hlen)]
  exact aB.2 fun h=>by cases h
 ·rw[if_neg (bK hlen)]
  refine bL.2 (cQ (fun s:List aA×Int×Int=>s.2.2) acts.length (by omega) (fun s=>okD s.1∧s.1.length≤8*s.2.2.toNat∧(FitsP ta (acts.drop s.2.2.toNat) s.1 s.2.1→FitsP ta acts [] (-1))) (fun s k hI hk hkN=>?_)
   ⟨.nil,by simp,by simp⟩ rfl)
  obtain⟨v1,v2,v3⟩:=s
  obtain⟨o0,hl,hI⟩:=hI
  simp only at hk o0 hl hI
  subst hk
  simp only[Int.toNat_natCast]at hl hI
  unfold T338_L0
  simp only[Tr.den,Int.toNat_natCast]
  by_cases hc:k<acts.length
  ·have hok':=hok.2 _ (aQ hc)
   rw[bW hc]at hI
   rw[if_pos (bH (by omega))]
   refine Sq.bind (fun z=>z = .inr (.inr (.inr false))∨∃ t0 c,z = .inl (t0,c)∧okD t0∧t0.length≤8*(k+1)∧(FitsP ta (acts.drop (k+1)) t0 c→FitsP ta acts [] (-1))) ?_ (fun z hz=>?_)
   ·rw[if_pos (by omega)]
    refine bX (fun h3=>?_) (fun h3=>?_)
    ·rw[if_pos (by omega)]
     by_cases h4:(acts.getD k default).C>2199023255552
     ·rw[if_pos (bH h4)]; exact aB.2 (.inl rfl)
     ·rw[if_neg (bK h4),if_pos (by omega)]
      refine aB.2 (.inr ⟨v1,_,rfl,o0,by omega,fun hF=>hI ⟨fun _=>⟨by omega,hF⟩,fun h=>?_⟩⟩)
      rw[show isCp (acts.getD k default)=true from h3]at h; cases h
    ·rw[if_pos (by omega)]
     by_cases h4:((acts.getD k default).L.length:Int)>8
     ·rw[if_pos (bH h4)]; exact aB.2 (.inl rfl)
     ·rw[if_neg (bK h4)]
      refine Sq.bind _ (Sq.of (fitsP1 ta acts v1 k hc v2 hok' ha (by omega))) (fun z hz=>?_)
      rcases hz with rfl | ⟨rfl,hz⟩
      ·exact aB.2 (.inl rfl)
      ·simp only[sel]
       have okL':=fO.okd hok'.2.2
       have ok1:=o0.app okL'
       rw[if_pos (by omega),if_pos (by omega),if_pos (by omega),G114_eq _ ok1 (by rw[List.length_append]; omega)]
       simp only[Option.bind_some]
       have hcl:=dI (v1++(acts.getD k default).L)
       rw[List.length_append]at hcl
       refine Sq.bind _ (Sq.of (fitsP2 ta acts v2 (k:Int) (cons (v1++(acts.getD k default).L)) (by omega))) (fun z hz2=>?_)
       rcases hz2 with rfl | ⟨rfl,hz2⟩
       ·exact aB.2 (.inl rfl)
       ·refine aB.2 (.inr ⟨_,_,rfl,ok1.cons,by omega,fun hF=>hI ⟨fun h=>?_,fun _=>⟨by omega,hz,hz2,hF⟩⟩⟩)
        rw[show isCp (acts.getD k default)=false from h3]at h; cases h
   ·rcases hz with rfl | ⟨t0,c,rfl,p0,pl,hF⟩
    ·exact aB.2 (aB.2 fun h=>by cases h)
    ·refine aB.2 ⟨rfl,hc,p0,?_,?_⟩
     ·simp only; rw[aL (by omega),Int.toNat_natCast]; exact pl
     ·simp only; rw[aL (by omega),Int.toNat_natCast]; exact hF
  ·rw[if_neg (bK (by omega))]
   refine aB.2 (aB.2 fun _=>⟨by omega,hI ?_⟩)
   rw[List.drop_eq_nil_of_le (by omega)]; trivial
theorem G312_sp(fs:List aF)(n:aE)(ta:List Int)(acts:List aK)(most:Nat)(hm:most≤1000)(hl:okL 104 dT fs)(hn:iL n)(ht:okL 8 dH ta)(hok:okL 40 bT acts):
  Sp (G312 fs n ta acts (most:Int)) (fun r=>r=true→RightP fs n ta∧acts.length≤most∧FitsP ta acts [] (-1)):=by
 unfold G312 T312
 simp only[Tr.den]
 refine Sq.bind (fun j:Bool=>j=false→n.Op=8) ?_ (fun j hj=>?_)
 ·by_cases h8:n.Op=8
  ·rw[if_neg (bneF h8)]
   refine bX (fun _=>aB.2 fun h=>by cases h) fun _=>?_
   refine Sq.bind _ (Sq.of (G33_spF fs n hl hn)) fun r _=>aB.2 fun _=>h8
  ·rw[if_pos (bneT h8)]; exact aB.2 fun h=>by cases h
 ·cases j with
  | true=>exact aB.2 fun h=>by cases h
  | false=>
   have h8:=hj rfl
   simp only[Bool.false_eq_true,if_false]
   refine Sq.bind _ (Sq.of (G82_tot fs hl)) fun r _=>?_
   refine Sq.bind (fun r:Bool=>r=true→RightP fs n ta∧acts.length≤most∧FitsP ta acts [] (-1)) ?_ fun r hr=>aB.2 hr
   refine bX (fun _=>?_) fun _=>aB.2 fun h=>by cases h
   refine Sq.bind _ (Sq.of (G34_pat fs n ta hl hn h8 ht.1)) fun r hr=>?_
   refine bX (fun h=>?_) fun _=>aB.2 fun h=>by cases h
   refine Sq.bind _ (Sq.of (G338_sp n ta acts most hm hok ht.1)) fun r2 hr2=>aB.2 fun h2=>⟨hr h,hr2 h2⟩
structure AOk (n:aE)(ta:List Int)(a:List aA):Prop where
 can:Can a
 ok:okI n 0 a
 len:a.length≤900
 pos:∀ d,d∈a→1≤d.N∧d.N≤20
 row:∀ d,d∈a→d.Row.length=ta.length
theorem AOk.nil(n:aE)(ta:List Int):AOk n ta []:=⟨.nil,okI.nil,by simp,by simp,by simp⟩
theorem okI_pat{fs:List aF}{n:aE}{ta:List Int}(hR:RightP fs n ta){l:List aA}(h:okL 40 fO l)(hr:∀ d,d∈l→d.Row.length=ta.length)(ht:∀ d,d∈l→0≤d.Time∧d.Time≤2199023255552):okI n 0 l:=by
 refine⟨fun d hd v hv=>?_,fun d hd q hq=>?_,fun d hd=>?_,ht,(fO.okd h).n⟩
 ·have:=(h.2 d hd).2.1.2 v hv
  exact⟨this.1,this.2.1,Nat.le_trans this.2.2 (by omega)⟩
 ·rw[hr d hd]; exact hR.key q hq
 ·rw[hr d hd]; have:=hR.la; omega
theorem AOk.sm{n:aE}{ta:List Int}{a:List aA}(h:AOk n ta a):∀ d,d∈a→d.Row.length=ta.length∧∀ v,v∈d.Row→Sm v:=fun d hd=>⟨h.row d hd,fun v hv=>(h.ok.v d hd v hv).s⟩
theorem AOk.push{n:aE}{ta:List Int}{a l:List aA}(h:AOk n ta a)(hl:okI n 0 l)(hr:∀ d,d∈l→d.Row.length=ta.length)(hlen:a.length+l.length≤900)(hp:∀ d,d∈cons (a++l)→1≤d.N∧d.N≤20):AOk n ta (cons (a++l)):=by
 have ho:=h.ok.app hl
 have hc:=dI (a++l)
 rw[List.length_append]at hc
 refine⟨dB ho.n,ho.cons,by omega,hp,fun d hd=>?_⟩
 obtain⟨z,hz,e⟩:=gO hd
 have e2:d.Row=z.Row:=congrArg Prod.snd e
 rw[e2]
 exact(List.mem_append.1 hz).elim (h.row z) (hr z)
theorem AOk.mt{fs:List aF}{n:aE}{ta:List Int}{a:List aA}(h:AOk n ta a)(hev:okEv fs n a){r:List aA}(hs:∀ x,x∈r→x∈a)(hl:r.length≤a.length):okMt fs n r:=by
 have:=h.len
 exact⟨h.ok.sub hs,hev.sub hs,fun d hd=>by have:=(h.pos d (hs d hd)).2; omega,by omega⟩
theorem aft_low{n:aE}{a:List aA}{t:Int}(h:okI n 0 a)(ht:t<0):a.filter (aft t)=a:=List.filter_eq_self.2 fun d hd=>bH (by have:=(h.t d hd).1; omega)
theorem ofK_filter(n:aE)(k:ByteArray)(a:List aA)(t:Int):ofK n 0 k (a.filter (aft t))=(ofK n 0 k a).filter (aft t):=by
 unfold ofK
 exact filter_comm' _ _ _
theorem ofK_sub{n:aE}{k:ByteArray}{a:List aA}{t:Int}:∀ x,x∈ofK n 0 k (a.filter (aft t))→x∈a:=fun x hx=>(List.mem_filter.1 (dF.1 hx).1).1
theorem ofK_le(n:aE)(k:ByteArray)(a:List aA)(t:Int):(ofK n 0 k (a.filter (aft t))).length≤a.length:=Nat.le_trans (iM _ _ _ _) (List.length_filter_le _ _)
noncomputable def pushR (fs:List aF)(n:aE)(a l:List aA):List aA:=cons ((aZ (bS n 0 (cons l))).flatMap fun k=>chgK fs n (ofK n 0 k a) (ofK n 0 k (cons l)))
theorem chgK_cut{fs:List aF}{n:aE}{ta:List Int}{a l:List aA}{c:Int}{k:ByteArray}(hn:okPn n)(h:AOk n ta a)(hl:okI n 0 l)(hc:∀ d,d∈l→c<d.Time)(hc1:-1≤c)(hk:ofK n 0 k (cons l)≠[]):
  chgK fs n (ofK n 0 k (a.filter (aft (c-(n.Size-1))))) (ofK n 0 k (cons l))=chgK fs n (ofK n 0 k a) (ofK n 0 k (cons l)):=by
 have hz:=hn.size
 have hal:∀ t:Int,t≤c→∀ d,d∈l→aft t d=true:=fun t ht d hd=>bH (by have:=hc d hd; omega)
 have e1:=ofK_push (n:=n) (i:=0) (k:=k) h.can hl.n (hal (c-(n.Size-1)) (by omega))
 have e2:=ofK_push (n:=n) (i:=0) (k:=k) h.can hl.n (fun d hd=>show aft (-1) d=true from bH (by have:=(hl.t d hd).1; omega))
 have hA:=h.ok.app hl
 rw[aft_low h.ok (by omega),aft_low hA.cons (by omega)]at e2
 have hlo:c-(n.Size-1)≤loP (ofK n 0 k (cons l))-n.Size:=by
  have hm:=aQ (List.length_pos_iff.2 hk)
  obtain⟨z,hz',e⟩:=gO (dF.1 hm).1
  have e3:((ofK n 0 k (cons l)).getD 0 default).Time=z.Time:=congrArg Prod.fst e
  have:=hc z hz'
  unfold loP
  omega
 unfold chgK
 rw[e1,e2,ofK_filter,ofK_filter,matF_cut (ofK_one n k _) hlo,matF_cut (ofK_one n k _) hlo]
theorem flatMap_congr'{α β:Type}{f g:α→List β}:∀ {l:List α},(∀ x,x∈l→f x=g x)→l.flatMap f=l.flatMap g
 | [],_=>rfl
 | x::l,h=>by rw[List.flatMap_cons,List.flatMap_cons,h x List.mem_cons_self,flatMap_congr' fun y hy=>h y (List.mem_cons_of_mem _ hy)]
theorem push_eq{fs:List aF}{n:aE}{ta:List Int}{a l:List aA}{c:Int}{m:KP}(i cl:Int)(hn:okPn n)(h:AOk n ta a)(hev:okEv fs n a)(hl:okI n 0 l)(hlen:l.length≤1000)(hc:∀ d,d∈l→c<d.Time)(hc1:-1≤c)
  (h':AOk n ta (cons (a++l)))(hev':okEv fs n (cons (a++l)))(hQ:QInv n a (c-(n.Size-1)) m):G315s0 i l fs n cl m=some (pushR fs n a l,iY n (cons l) m):=by
 have hal:∀ d,d∈l→aft (c-(n.Size-1)) d=true:=fun d hd=>bH (by have:=hc d hd; have:=hn.size; omega)
 rw[G315s0_eq i l fs n cl m hn hl hlen hQ.mp (fun k=>by rw[hQ.val]; exact h.mt hev ofK_sub (ofK_le _ _ _ _))
  (fun k=>by rw[hQ.val,ofK_push h.can hl.n hal]; exact h'.mt hev' ofK_sub (ofK_le _ _ _ _)) (fun k=>by rw[hQ.val]; have:=ofK_le n k a (c-(n.Size-1)); have:=h.len; omega)]
 unfold pushR
 rw[flatMap_congr' (g:=fun k=>chgK fs n (ofK n 0 k a) (ofK n 0 k (cons l))) fun k hk=>?_]
 unfold chgP
 rw[hQ.val]
 exact chgK_cut hn h hl hc hc1 (eV.1 hk)
theorem pushR_ok{fs:List aF}{n:aE}{ta:List Int}{a l:List aA}(hn:okPn n)(h:AOk n ta a)(hl:okI n 0 l)(hlen:l.length≤1000)(h':AOk n ta (cons (a++l))):okD (pushR fs n a l)∧(pushR fs n a l).length≤3000000000:=by
 have hk:∀ k,okD (chgK fs n (ofK n 0 k a) (ofK n 0 k (cons l))):=fun k=>chgK_ok hn (ofK_okI h.ok).t (ofK_okI hl.cons).t
 have hkl:∀ k,(chgK fs n (ofK n 0 k a) (ofK n 0 k (cons l))).length≤3000000:=fun k=>by
  have e2:=ofK_push (n:=n) (i:=0) (k:=k) h.can hl.n (fun d hd=>show aft (-1) d=true from bH (by have:=(hl.t d hd).1; omega))
  rw[aft_low h.ok (by omega),aft_low (h.ok.app hl).cons (by omega)]at e2
  have h1:=chgK_len (fs:=fs) (n:=n) (before:=ofK n 0 k a) (part:=ofK n 0 k (cons l)) (fun d hd=>by have:=(h.pos d (dF.1 hd).1).2; omega) (fun d hd=>by rw[e2]at hd; have:=(h'.pos d (dF.1 hd).1).2; omega)
  have h2:=iM n 0 k a
  have h3:=iM n 0 k (cons l)
  have h4:=dI l
  have h5:=h.len
  omega
 have hd:okD ((aZ (bS n 0 (cons l))).flatMap fun k=>chgK fs n (ofK n 0 k a) (ofK n 0 k (cons l))):=⟨fun x hx=>by
   obtain⟨a,ha,hx⟩:=List.mem_flatMap.1 hx
   exact(hk a).r x hx,fun x hx=>by
   obtain⟨a,ha,hx⟩:=List.mem_flatMap.1 hx
   exact(hk a).n x hx⟩
 refine⟨hd.cons,?_⟩
 have h1:=dI ((aZ (bS n 0 (cons l))).flatMap fun k=>chgK fs n (ofK n 0 k a) (ofK n 0 k (cons l)))
 have h2:=flatMapK_len hkl (aZ (bS n 0 (cons l)))
 have h3:=iD n 0 (cons l)
 have h4:=dI l
 unfold pushR
 have h5:(aZ (bS n 0 (cons l))).length≤1000:=by rw[aZ,List.length_map]; omega
 have h6:=Nat.mul_le_mul h5 (Nat.le_refl 3000000)
 omega
def one(d:aA):aA:=⟨d.Time,d.Row,1⟩
theorem wt_one:∀ l:List aA,wt fZ (l.map one)=l.length
 | []=>rfl
 | d::l=>by
  rw[List.map_cons,show wt fZ (one d::l.map one)=1+wt fZ (l.map one) from rfl,wt_one l,List.length_cons]; omega
theorem ofK_map(n:aE)(k:ByteArray)(l:List aA):ofK n 0 k (l.map one)=(ofK n 0 k l).map one:=by
 unfold ofK
 rw[List.filter_map]
 rfl
theorem QInv.allLen{n:aE}{a:List aA}{t:Int}{m:KP}(h:QInv n a t m):(allP m).length≤a.length:=by
 have e:wt fZ ((allP m).map one)=wt fZ ((a.filter (aft t)).map one):=by
  unfold allP
  rw[List.map_flatMap,wt_flat,←sumK_map,←sumK_ofK fZ n 0 (aZ m) (h.mp.mc.nodup LO.bytes) ((a.filter (aft t)).map one) fun x hx=>h.mp.key.2 fun h0=>by
   obtain⟨y,hy,rfl⟩:=List.mem_map.1 hx
   rw[h.val]at h0
   have:y∈ofK n 0 (kd n 0 (one y)) (a.filter (aft t)):=dF.2 ⟨hy,rfl⟩
   rw[h0]at this; simp at this]
  exact gH fun k _=>by rw[h.val,ofK_map]
 rw[wt_one,wt_one]at e
 have:=List.length_filter_le (aft t) a
 omega
theorem rows_eq{n:aE}{ta:List Int}{a:List aA}{t:Int}{m:KP}(fs:List aF)(cl:Int)(h:QInv n a t m)(ha:AOk n ta a):G316s0 fs n cl m=some (W (wt fZ (a.filter (aft t))),m):=by
 have hl:=h.allLen
 have:=ha.len
 rw[G316s0_eq fs n cl m h.mp (fun k=>by rw[h.val]; exact ha.ok.okD.sub ofK_sub) (by omega),h.kept ha.can]
def exC(v:Int):aW:=aW.mk 0 v ⟨#[]⟩ []
def exCol:aW:=aW.mk 3 1 ⟨#[]⟩ []
def isE(v:Int):aW:=aW.mk 13 0 ⟨#[]⟩ [exCol,exC v]
theorem G362_is(f:dQ)(v:Int)(hf:f.row_.length=2):G362 f (isE v)=some (bop 13 (f.row_.getD 1 default) (vI v)):=by
 refine Sp.eq ?_
 have h0:=fixF_sqh (C:=fun (a:dQ×aW) (x:Option (aC))=>Con Proofs.Tryz.prog 171 [.t (fW a.1),.t (cJ a.2)] x (fun (y:aC)=>.t (cE y))) (fun a=>⟨bJ Proofs.Tryz.func171 (by kernel_rfl),fun _ h=>nomatch h⟩) (fun rec a=>T362 rec a.1 a.2) (fun rec a=>T362_ok rec a.1 a.2)
  (fun n a=>a.1.row_.length=2∧((n=0∧(a.2=exCol∨∃ v,a.2=exC v))∨(n=1∧∃ v,a.2=isE v)))
  (fun a y=>(a.2=exCol→y=a.1.row_.getD 1 default)∧(∀ v,a.2=exC v→y=vI v)∧(∀ v,a.2=isE v→y=bop 13 (a.1.row_.getD 1 default) (vI v))) (fun b r n a ha hrec=>?_) true 1 (f,isE v) ⟨hf,.inr ⟨rfl,v,rfl⟩⟩
 ·exact h0.imp fun y hy=>hy.2.2 v rfl
 ·obtain⟨f,e⟩:=a
  obtain⟨hrow,hk⟩:=ha
  simp only at hrow hk hrec ⊢
  rcases hk with⟨rfl,rfl | ⟨v,rfl⟩⟩ | ⟨rfl,v,rfl⟩
  ·unfold T362
   simp only[Tr.den]
   rw[if_neg (by show ¬ ((3:Int)==21)=true; decide),fR (r:=.inl []) (by unfold T362_L0; simp only[Tr.den]; exact if_neg (bK (by show ¬ (0:Int)<0; omega)))]
   simp only[Option.bind_some,sel]
   rw[if_neg (by show ¬ ((3:Int)==0)=true; decide),if_neg (by show ¬ ((3:Int)==1)=true; decide),if_neg (by show ¬ ((3:Int)==2)=true; decide),if_pos (by show ((3:Int)==3)=true; decide),if_pos (by show (0:Int)≤1∧(1:Int)<_; omega)]
   refine aB.2 ⟨fun _=>rfl,fun v h=>?_,fun v h=>?_⟩ <;> simp[exC,isE,exCol]at h
  ·unfold T362
   simp only[Tr.den]
   rw[if_neg (by show ¬ ((0:Int)==21)=true; decide),fR (r:=.inl []) (by unfold T362_L0; simp only[Tr.den]; exact if_neg (bK (by show ¬ (0:Int)<0; omega)))]
   simp only[Option.bind_some,sel]
   rw[if_pos (by rfl),eJ]
   refine aB.2 ⟨fun h=>?_,fun w h=>?_,fun w h=>?_⟩
   ·simp[exC,exCol]at h
   ·simp[exC]at h; rw[h]; rfl
   ·simp[exC,isE]at h
  ·unfold T362
   simp only[Tr.den]
   rw[if_neg (by show ¬ ((13:Int)==21)=true; decide)]
   refine bL.2 (gV (fun s:List aC×Int=>s.2) 2 (by omega) (fun s=>s.1=([f.row_.getD 1 default,vI v]:List aC).take s.2.toNat) (fun s k hI hk hkN=>?_) rfl rfl)
   obtain⟨b6,v5⟩:=s
   simp only at hk hI
   subst hk
   simp only[Int.toNat_natCast]at hI
   unfold T362_L0
   simp only[Tr.den,Int.toNat_natCast]
   have hargs:(isE v).Args=[exCol,exC v]:=rfl
   rw[hargs]
   match k,hkN with
   | 0,_=>
    rw[if_pos (bH (by show (0:Int)<2; omega)),if_pos (by show (0:Int)≤0∧(0:Int)<2; omega)]
    refine Sq.bind _ (hrec 0 (f,exCol) (by omega) ⟨hrow,.inl ⟨rfl,.inl rfl⟩⟩) fun w hw=>?_
    have hw:=hw.1 rfl
    subst hw
    subst hI
    rw[if_pos (by show (0+1)*32≤140737488355328; omega)]
    exact aB.2 ⟨rfl,by omega,rfl⟩
   | 1,_=>
    rw[if_pos (bH (by show (1:Int)<2; omega)),if_pos (by show (0:Int)≤1∧(1:Int)<2; omega)]
    refine Sq.bind _ (hrec 0 (f,exC v) (by omega) ⟨hrow,.inl ⟨rfl,.inr ⟨v,rfl⟩⟩⟩) fun w hw=>?_
    have hw:=hw.2.1 v rfl
    subst hw
    subst hI
    rw[if_pos (by show (1+1)*32≤140737488355328; omega)]
    exact aB.2 ⟨rfl,by omega,rfl⟩
   | 2,_=>
    rw[if_neg (bK (by show ¬ (2:Int)<2; omega))]
    refine aB.2 ?_
    simp only[sel]
    subst hI
    simp (decide:=true) only[isE]
    change Sq b (((some 230:Option Nat).bind _).bind _) _
    simp only[Option.bind_some,Tr.den,G385_eq]
    rw[if_pos (by show True∧(0:Int)<2; exact⟨trivial,by omega⟩),if_pos (by show 0<2; omega),if_pos (by show True∧(1:Int)<2; exact⟨trivial,by omega⟩),if_pos (by show 1<2; omega)]
    refine aB.2 ⟨fun h=>?_,fun w h=>?_,fun w h=>?_⟩
    ·simp[exCol]at h
    ·simp[exC]at h
    ·simp only[aW.mk.injEq,List.cons.injEq,exC]at h
     have:v=w:=by simpa using h
     subst this; rfl
theorem group1{n:aE}{i:Int}{l:List aA}{k:ByteArray}(h:∀ d,d∈l→kd n i d=k)(h0:l≠[]):bS n i l=[(k,l)]:=by
 refine(groupM_mc n i l).ext LO.bytes (List.pairwise_singleton _ _) fun k'=>?_
 rw[iR]
 by_cases hk:k=k'
 ·subst hk
  have:ofK n i k l=l:=List.filter_eq_self.2 fun d hd=>bH (h d hd)
  rw[this,if_neg h0]; simp[aY]
 ·have:ofK n i k' l=[]:=List.filter_eq_nil_iff.2 fun d hd=>bK (by rw[h d hd]; exact hk)
  rw[this,if_pos rfl]; simp[aY,hk]
theorem ofK1{n:aE}{i:Int}{l:List aA}{k:ByteArray}(h:∀ d,d∈l→kd n i d=k):ofK n i k l=l:=List.filter_eq_self.2 fun d hd=>bH (h d hd)
theorem G20_self(l:List aA)(ho:fJ l)(hn:l.length≤1000000000000):G20 l l=some true:=by
 unfold G20 T20
 simp only[Tr.den]
 rw[if_neg (bneF rfl)]
 have h1:=bO (bd:=fun s=>(T20_L0 l l s).den) (fun i=>(i:Int)) l.length (r:=.inl ()) (fun i hi=>?_) ?_
 ·refine(congrArg (fun x=>Option.bind x _) h1).trans ?_
  rfl
 ·unfold T20_L0
  simp only[Tr.den,Int.toNat_natCast]
  rw[if_pos (bH (by omega)),if_pos (by omega),if_pos (by omega),G49_eq _ _ (ho _ (aQ hi)) (ho _ (aQ hi))]
  simp only[Option.bind_some]
  rw[if_neg (bneF (eK.2 rfl)),if_pos (by omega),if_pos (by omega)]
  simp only[Option.bind_some]
  rw[if_neg (bneF rfl),aL (by omega)]
 ·unfold T20_L0
  simp only[Tr.den]
  rw[if_neg (bK (by omega))]
def vP:aE:=aE.mk 8 ([]:List Int) ⟨#[]⟩ 0 ([]:List aW) 0 10 0 [0] ([]:List Int) 0 0 0 ([]:List GAgg) [GPat.mk (isE 1) 0,GPat.mk (isE 2) 1] ([]:List GCol)
def dP(t b n:Int):aA:=⟨t,[vI 7,vI b],n⟩
theorem vP_ok:okPn vP:=⟨rfl,⟨by decide,by decide⟩,⟨by decide,by decide⟩,by decide⟩
def exL(l:List aA):Prop:=∀ d,d∈l→∃ t b n,d=dP t b n∧0≤t∧t≤100∧(b=1∨b=2) ∧ -10≤n∧n≤10
theorem exI{l:List aA}(h:exL l):okI vP 0 l:=by
 refine⟨fun d hd=>?_,fun d hd=>?_,fun d hd=>?_,fun d hd=>?_,fun d hd=>?_⟩ <;> obtain⟨t,b,n,rfl,h1,h2,h3,h4,h5⟩:=h d hd
 ·intro v hv
  rcases List.mem_cons.1 hv with rfl | hv
  ·exact⟨⟨by decide,by decide⟩,⟨by decide,by decide⟩,by decide⟩
  ·rw[List.mem_singleton.1 hv]
   rcases h3 with rfl | rfl <;> exact⟨⟨by decide,by decide⟩,⟨by decide,by decide⟩,by decide⟩
 ·intro c hc
  rw[List.mem_singleton.1 (show c∈[(0:Int)] from hc)]
  exact⟨by decide,by show (0:Int)<2; decide⟩
 ·show 2≤1000
  decide
 ·exact⟨h1,by show t≤_; omega⟩
 ·exact⟨by show _≤n; omega,by show n≤_; omega⟩
theorem exRow{l:List aA}(h:exL l):∀ d,d∈l→d.Row.length=([0,0]:List Int).length:=fun d hd=>by
 obtain⟨t,b,n,rfl,_⟩:=h d hd; rfl
theorem exKd{l:List aA}(h:exL l):∀ d,d∈l→kd vP 0 d=rowB [vI 7]:=fun d hd=>by
 obtain⟨t,b,n,rfl,_⟩:=h d hd; rfl
theorem G344_is(v t b:Int):G344 [] (isE v) t [vI 7,vI b]=some (vB (b==v)):=by
 unfold G344 T344
 simp only[Tr.den]
 rw[G362_is _ _ rfl]
 simp only[Option.bind_some]
 congr 1
 show bop 13 (vI b) (vI v)=_
 unfold bop
 rw[if_neg (by decide),if_neg (by decide),if_neg (by decide),if_neg (by decide),if_neg (by decide),if_pos rfl]
 simp[vI]
theorem exEv{l:List aA}(h:exL l):okEv [] vP l:=by
 intro d hd i hi
 obtain⟨t,b,n,rfl,_⟩:=h d hd
 match i,hi with
 | 0,_=>exact(show (G344 [] (isE 1) t [vI 7,vI b]).isSome=true by rw[G344_is]; rfl)
 | 1,_=>exact(show (G344 [] (isE 2) t [vI 7,vI b]).isSome=true by rw[G344_is]; rfl)
theorem exFit(t b n:Int)(hb:b=1∨b=2):fitU [] vP (dP t b n) vP.Seq.length=b:=by
 have e1:evV [] (vP.Seq.getD 0 default).Pred (dP t b n)=vB (b==1):=by
  unfold evV
  rw[show G344 [] (vP.Seq.getD 0 default).Pred (dP t b n).Time (dP t b n).Row=G344 [] (isE 1) t [vI 7,vI b] from rfl,G344_is]; rfl
 have e2:evV [] (vP.Seq.getD 1 default).Pred (dP t b n)=vB (b==2):=by
  unfold evV
  rw[show G344 [] (vP.Seq.getD 1 default).Pred (dP t b n).Time (dP t b n).Row=G344 [] (isE 2) t [vI 7,vI b] from rfl,G344_is]; rfl
 show fitU [] vP (dP t b n) 2=b
 rw[fitU,fitU,fitU,e1,e2]
 rcases hb with rfl | rfl
 ·rfl
 ·rfl
def plC(l:List aA)(lo hi:Int):List aN:=(l.filter (inW vP lo hi)).flatMap fun d=>List.replicate d.N.toNat ⟨d.Time,(d.Row.getD 1 default).N⟩
theorem plF_ex{l:List aA}(h:exL l)(lo hi:Int):plF [] vP l lo hi=plC l lo hi:=by
 unfold plF plC
 refine flatMap_congr' fun d hd=>?_
 obtain⟨t,b,n,rfl,_,_,hb,_⟩:=h d (List.mem_filter.1 hd).1
 unfold plD
 rw[exFit t b n hb]; rfl
def matC(l:List aA)(lo hi:Int):List aA:=
 if plC l lo hi=[] then [] else outsM aN.time_ [vI 7] lo (plC l lo hi) 0 (frF vP (plC l lo hi))
theorem matF_ex{l:List aA}(h:exL l)(lo hi:Int):matF [] vP l lo hi=matC l lo hi:=by
 unfold matF matC
 rw[plF_ex h]
 split
 ·rfl
 ·rename_i hne
  have hl:l≠[]:=by
   rintro rfl; exact hne rfl
  have hm:=aQ (List.length_pos_iff.2 hl)
  obtain⟨t,b,n,e,_⟩:=h _ hm
  rw[e]; rfl
theorem exPush{a l a':List aA}(ha:exL a)(hl:exL l)(h0:l≠[])(hc:cons l=l)(e:cons (a++l)=a')(ha':exL a'):pushR [] vP a l=cons (cons (matC a' (loP l) (hiP vP l)++(matC a (loP l) (hiP vP l)).map neg)):=by
 unfold pushR
 rw[hc,group1 (exKd hl) h0]
 show cons ([rowB [vI 7]].flatMap _)=_
 rw[List.flatMap_cons,List.flatMap_nil,List.append_nil]
 unfold chgK
 rw[ofK1 (exKd ha),ofK1 (exKd hl),e,matF_ex ha',matF_ex ha]
theorem exA{a:List aA}(h:exL a)(hc:cons a=a)(hp:∀ d,d∈a→1≤d.N∧d.N≤20)(hl:a.length≤900):AOk vP [0,0] a:=⟨by rw[←hc]; exact dB (exI h).n,exI h,hl,hp,exRow h⟩
def p3:aA:=dP 3 1 1
def p5:aA:=dP 5 2 1
def p8:aA:=dP 8 2 1
def p4:aA:=dP 4 1 1
theorem ex1:exL [p3]:=fun d hd=>by rw[List.mem_singleton.1 hd]; exact⟨3,1,1,rfl,by decide,by decide,.inl rfl,by decide,by decide⟩
theorem ex4:exL [p4]:=fun d hd=>by rw[List.mem_singleton.1 hd]; exact⟨4,1,1,rfl,by decide,by decide,.inl rfl,by decide,by decide⟩
theorem ex5:exL [p5]:=fun d hd=>by rw[List.mem_singleton.1 hd]; exact⟨5,2,1,rfl,by decide,by decide,.inr rfl,by decide,by decide⟩
theorem ex8:exL [p8]:=fun d hd=>by rw[List.mem_singleton.1 hd]; exact⟨8,2,1,rfl,by decide,by decide,.inr rfl,by decide,by decide⟩
theorem exApp{a b:List aA}(h:exL a)(h':exL b):exL (a++b):=fun d hd=>(List.mem_append.1 hd).elim (h d) (h' d)
theorem ex58:exL [p5,p8]:=exApp ex5 ex8
theorem exB:exL [p3,p5,p8]:=exApp ex1 ex58
theorem exC':exL [p3,p4,p5,p8]:=exApp ex1 (exApp ex4 ex58)
theorem exN{l:List aA}(h:∀ d,d∈l→d.N=1):∀ d,d∈l→1≤d.N∧d.N≤20:=fun d hd=>by rw[h d hd]; exact⟨by decide,by decide⟩
theorem nil_ex:exL []:=fun d hd=>by simp at hd
def rP(t i r n:Int):aA:=⟨t,[vI 7,vI i,vI r],n⟩
theorem res1:cons (cons (matC [p3] 3 12++(matC [] 3 12).map neg))=[]:=by kernel_rfl
theorem res2:cons (cons (matC [p3,p5,p8] 5 17++(matC [p3] 5 17).map neg))=[rP 5 3 2 1,rP 8 3 3 1]:=by kernel_rfl
theorem res3:cons (cons (matC [p3,p4,p5,p8] 4 13++(matC [p3,p5,p8] 4 13).map neg))=[rP 5 3 2 (-1),rP 5 4 2 1,rP 8 3 3 (-1),rP 8 4 3 1]:=by kernel_rfl
theorem exPq{a l a':List aA}(cl:Int)(m:KP)(h:exL a)(hc:cons a=a)(hp:∀ d,d∈a→d.N=1)(hla:a.length≤900)(hl:exL l)(hll:l.length≤1000)(e:cons (a++l)=a')(h':exL a')(hc':cons a'=a')(hp':∀ d,d∈a'→d.N=1)(hla':a'.length≤900)
  (hQ:QInv vP a (-1-(vP.Size-1)) m):G315s0 0 l [] vP cl m=some (pushR [] vP a l,iY vP (cons l) m)∧QInv vP a' (-1-(vP.Size-1)) (iY vP (cons l) m):=by
 have A:=exA h hc (exN hp) hla
 have A':=exA h' hc' (exN hp') hla'
 have hpos:∀ d,d∈l→(-1:Int)<d.Time:=fun d hd=>by
  have:=((exI hl).t d hd).1; omega
 subst e
 refine⟨push_eq 0 cl vP_ok A (exEv h) (exI hl) hll hpos (by omega) A' (exEv h') hQ,?_⟩
 exact hQ.push A.can (exI hl).n fun d hd=>bH (by have:=hpos d hd; show -1-(10-1)<d.Time; omega)
theorem QInv.empty{n:aE}{a:List aA}{t:Int}{m:KP}(h:QInv n a t m)(h0:a.filter (aft t)=[]):m=[]:=h.mp.ext .nil fun k=>by
 rw[h.val,h0]; rfl
theorem G311_eq:G311=some true:=by
 have one:∀ (l:List aA),(∀ d,d∈l→d=p3∨d=p4∨d=p5∨d=p8)→∀ d,d∈l→d.N=1:=fun l h d hd=>by
  rcases h d hd with rfl | rfl | rfl | rfl <;> rfl
 have n0:∀ d,d∈([]:List aA)→d.N=1:=fun d hd=>by simp at hd
 have n1:=one [p3] (by simp)
 have n2:=one [p3,p5,p8] (by simp)
 have n3:=one [p3,p4,p5,p8] (by simp)
 have c0:cons ([]:List aA)=[]:=rfl
 have c1:cons [p3]=[p3]:=by kernel_rfl
 have c58:cons [p5,p8]=[p5,p8]:=by kernel_rfl
 have c4:cons [p4]=[p4]:=by kernel_rfl
 have c2:cons [p3,p5,p8]=[p3,p5,p8]:=by kernel_rfl
 have c3:cons [p3,p4,p5,p8]=[p3,p4,p5,p8]:=by kernel_rfl
 have e2:cons ([p3]++[p5,p8])=[p3,p5,p8]:=c2
 have e3:cons ([p3,p5,p8]++[p4])=[p3,p4,p5,p8]:=by kernel_rfl
 obtain⟨g1,Q1⟩:=exPq (-1) [] nil_ex c0 n0 (by simp) ex1 (by simp) (by exact c1) ex1 c1 n1 (by simp) (.init vP _)
 obtain⟨g2,Q2⟩:=exPq (-1) (iY vP (cons [p3]) []) ex1 c1 n1 (by simp) ex58 (by simp) e2 exB c2 n2 (by simp) Q1
 obtain⟨g3,Q3⟩:=exPq (-1) (iY vP (cons [p5,p8]) (iY vP (cons [p3]) [])) exB c2 n2 (by simp) ex4 (by simp) e3 exC' c3 n3 (by simp) Q2
 rw[exPush nil_ex ex1 (by simp) c1 c1 ex1,show loP [p3]=3 from rfl,show hiP vP [p3]=12 from rfl,res1]at g1
 rw[exPush ex1 ex58 (by simp) c58 e2 exB,show loP [p5,p8]=5 from rfl,show hiP vP [p5,p8]=17 from rfl,res2]at g2
 rw[exPush exB ex4 (by simp) c4 e3 exC',show loP [p4]=4 from rfl,show hiP vP [p4]=13 from rfl,res3]at g3
 have A3:=exA exC' c3 (exN n3) (by simp)
 generalize iY vP (cons [p4]) (iY vP (cons [p5,p8]) (iY vP (cons [p3]) []))=m3 at g3 Q3
 generalize iY vP (cons [p5,p8]) (iY vP (cons [p3]) [])=m2 at g2 g3 Q2
 generalize iY vP (cons [p3]) []=m1 at g1 g2 Q1
 have r3:=rows_eq [] (-1) Q3 A3
 have Q4:=Q3.close (t':=17-(vP.Size-1)) (by decide)
 have k4:=G314s0_eq 17 [] vP (-1) m3 vP_ok Q3.mp (fun q=>by
  rw[Q3.val]
  exact⟨A3.ok.okD.sub ofK_sub,(A3.can.filter _).filter _,Nat.le_trans (ofK_le vP q [p3,p4,p5,p8] _) (by simp)⟩) (by omega) (by omega) (by omega)
 have r4:=rows_eq [] 17 Q4 A3
 have z4:[p3,p4,p5,p8].filter (aft (17-(vP.Size-1)))=[]:=by kernel_rfl
 have m4:=Q4.empty z4
 have z3:[p3,p4,p5,p8].filter (aft (-1-(vP.Size-1)))=[p3,p4,p5,p8]:=by kernel_rfl
 rw[z3,show W (wt fZ [p3,p4,p5,p8])=4 from rfl]at r3
 rw[z4,show W (wt fZ [])=0 from rfl]at r4
 have x1:G335 1=some (isE 1):=rfl
 have x2:G335 2=some (isE 2):=rfl
 have y3:G336 3 7 1=some p3:=rfl
 have y5:G336 5 7 2=some p5:=rfl
 have y8:G336 8 7 2=some p8:=rfl
 have y4:G336 4 7 1=some p4:=rfl
 have w1:G337 5 3 2 1=some (rP 5 3 2 1):=rfl
 have w2:G337 8 3 3 1=some (rP 8 3 3 1):=rfl
 have w3:G337 5 3 2 (-1)=some (rP 5 3 2 (-1)):=rfl
 have w4:G337 5 4 2 1=some (rP 5 4 2 1):=rfl
 have w5:G337 8 3 3 (-1)=some (rP 8 3 3 (-1)):=rfl
 have w6:G337 8 4 3 1=some (rP 8 4 3 1):=rfl
 have okr:∀ t i r n,okR (rP t i r n):=fun t i r n=>by show 3≤1073741824; omega
 have s2:=G20_self [rP 5 3 2 1,rP 8 3 3 1] (fun x hx=>by rcases List.mem_cons.1 hx with rfl | hx; · exact okr _ _ _ _
                                                         ·rw[List.mem_singleton.1 hx]; exact okr _ _ _ _) (by simp)
 have s3:=G20_self [rP 5 3 2 (-1),rP 5 4 2 1,rP 8 3 3 (-1),rP 8 4 3 1] (fun x hx=>by
  simp only[List.mem_cons,List.not_mem_nil,or_false]at hx
  rcases hx with rfl | rfl | rfl | rfl <;> exact okr _ _ _ _) (by simp)
 have hv:aE.mk 8 ([]:List Int) ⟨#[]⟩ 0 ([]:List aW) 0 10 0 [0] ([]:List Int) 0 0 0 ([]:List GAgg) [GPat.mk (isE 1) 0,GPat.mk (isE 2) 1] ([]:List GCol)=vP:=rfl
 have t4:=G321s0_eq [] vP 17 (closeP (17-(vP.Size-1)) m3)
 rw[m4]at t4 r4 k4
 unfold G311 T311
 simp only[Tr.den,x1,x2,Option.bind_some,hv,G313s0_eq,y3,y5,y8,y4,g1,g2,g3,r3,k4,r4,w1,w2,w3,w4,w5,w6,s2,s3,t4]
 rfl
theorem lastD_app{α:Type}{d:α}{u v:List α}(hv:v≠[]):(u++v).getLastD d=v.getLastD d:=by
 rcases List.eq_nil_or_concat v with rfl | ⟨w,z,rfl⟩
 ·exact absurd rfl hv
 ·rw[List.getLastD_eq_getLast?,List.getLastD_eq_getLast?,List.concat_eq_append,←List.append_assoc,List.getLast?_concat,List.getLast?_concat]
section
variable {α:Type} [Inhabited α] (tm:α→Int) (nx:Int→α→Int) (hit:Int→Bool) (sz bg:Int)
def bestM:List α→Option (Int×Int)
 | []=>none
 | q::qs=>if isM tm nx hit sz (tm q) bg (q::qs)=true then some (tm q,((q::qs).length:Int)) else bestM qs
theorem bestM_loc:∀ (u v:List α),v≠[]→(∀ x,x∈u→¬ tm (v.getLastD default)-tm x<sz)→bestM tm nx hit sz bg (u++v)=bestM tm nx hit sz bg v
 | [],v,_,_=>rfl
 | q::u,v,hv,h=>by
  rw[List.cons_append,bestM,if_neg,bestM_loc u v hv fun x hx=>h x (List.mem_cons_of_mem _ hx)]
  unfold isM
  have e:(q::(u++v)).getLastD default=v.getLastD default:=lastD_app (u:=q::u) hv
  rw[e,decide_eq_false (h q List.mem_cons_self),Bool.false_and]
  decide
theorem first_best:∀ (i:Int) (qs:List α) (k:Nat),k<qs.length→(bestM tm nx hit sz bg (qs.take (k+1))=none∧firstM tm nx hit sz bg i qs k = -1) ∨
  (∃ j:Nat,j≤k∧firstM tm nx hit sz bg i qs k=i+j∧bestM tm nx hit sz bg (qs.take (k+1))=some (tm (qs.getD j default),(k:Int)-j+1))
 | i,[],k,hk=>by simp at hk
 | i,q::qs,0,hk=>by
  rw[show (q::qs).take (0+1)=[q] from rfl,bestM]
  unfold firstM
  by_cases h:isM tm nx hit sz (tm q) bg [q]=true
  ·rw[if_pos h,if_pos h]
   exact .inr ⟨0,Nat.le_refl _,by simp,by simp⟩
  ·rw[if_neg h,if_neg h]
   exact .inl ⟨rfl,rfl⟩
 | i,q::qs,k+1,hk=>by
  have hk':k<qs.length:=by simpa using hk
  have ih:=first_best (i+1) qs k hk'
  rw[List.take_succ_cons,bestM]
  unfold firstM
  rw[List.take_succ_cons]
  by_cases h:isM tm nx hit sz (tm q) bg (q::qs.take (k+1))=true
  ·rw[if_pos h,if_pos h]
   refine .inr ⟨0,Nat.zero_le _,by simp,?_⟩
   rw[List.length_cons,List.length_take,Nat.min_eq_left (by omega)]
   simp
  ·rw[if_neg h,if_neg h]
   rcases ih with⟨h1,h2⟩ | ⟨j,h1,h2,h3⟩
   ·exact .inl ⟨h1,h2⟩
   ·refine .inr ⟨j+1,by omega,by rw[h2]; omega,?_⟩
    rw[h3,List.getD_cons_succ]
    congr 2
    omega
end
def resM(n:aE)(key:List aC)(L:List aN):List aA:=match bestM aN.time_ (nxF n) (gN n) n.Size (fL n 1) L with
 | some (t,m)=>[⟨(L.getLastD default).time_,key++[vI t,vI m],1⟩]
 | none=>[]
def eI(n:aE)(key:List aC)(lo:Int):List aN→List aN→List aA
 | _,[]=>[]
 | u,q::qs=>(if lo≤q.time_ then resM n key (u++[q]) else [])++eI n key lo (u++[q]) qs
theorem outP_app(n:aE)(key:List aC)(lo:Int):∀ (u a b:List aN),eI n key lo u (a++b)=eI n key lo u a++eI n key lo (u++a) b
 | u,[],b=>by rw[List.nil_append,List.append_nil]; rfl
 | u,q::a,b=>by
  rw[List.cons_append,eI,eI,outP_app n key lo (u++[q]) a b,List.append_assoc,List.append_assoc]
  rfl
theorem resM_loc{n:aE}{key:List aC}{u v:List aN}(hv:v≠[])(h:∀ x,x∈u→¬ (v.getLastD default).time_-x.time_<n.Size):resM n key (u++v)=resM n key v:=by
 unfold resM
 rw[bestM_loc aN.time_ (nxF n) (gN n) n.Size (fL n 1) u v hv h]
 rw[lastD_app hv]
theorem snoc_last(u:List aN)(q:aN):(u++[q]).getLastD default=q:=by
 rw[List.getLastD_eq_getLast?,List.getLast?_append]
 simp
theorem outP_loc{n:aE}{key:List aC}{lo:Int}:∀ {u0 u qs:List aN},(∀ x,x∈u0→∀ q,q∈qs→¬ q.time_-x.time_<n.Size)→eI n key lo (u0++u) qs=eI n key lo u qs
 | u0,u,[],h=>rfl
 | u0,u,q::qs,h=>by
  rw[eI,eI,List.append_assoc,outP_loc (u:=u++[q]) fun x hx y hy=>h x hx y (List.mem_cons_of_mem _ hy)]
  rw[resM_loc (by simp) (fun x hx=>by rw[snoc_last]; exact h x hx q List.mem_cons_self)]
theorem outP_low{n:aE}{key:List aC}{lo lo':Int}:∀ {u qs:List aN},(∀ q,q∈qs→lo≤q.time_∧lo'≤q.time_)→eI n key lo u qs=eI n key lo' u qs
 | u,[],h=>rfl
 | u,q::qs,h=>by
  have h1:=h q List.mem_cons_self
  rw[eI,eI,if_pos h1.1,if_pos h1.2,outP_low fun x hx=>h x (List.mem_cons_of_mem _ hx)]
theorem outP_none{n:aE}{key:List aC}{lo:Int}:∀ {u qs:List aN},(∀ q,q∈qs→q.time_<lo)→eI n key lo u qs=[]
 | u,[],h=>rfl
 | u,q::qs,h=>by
  have h1:=h q List.mem_cons_self
  rw[eI,if_neg (by omega),outP_none fun x hx=>h x (List.mem_cons_of_mem _ hx)]; rfl
theorem bitA_zero(x:Int):gC .i64 0 x=0:=by
 unfold gC
 have:(BitVec.ofInt IntKind.i64.bits 0 &&& BitVec.ofInt IntKind.i64.bits x)=0#_:=by
  rw[show BitVec.ofInt IntKind.i64.bits 0=0#_ from rfl,BitVec.zero_and]
 rw[this]; rfl
theorem skipU_zero(n:aE):∀ k,skipU n 0 k=0
 | 0=>rfl
 | k+1=>by
  rw[skipU,skipU_zero n k,if_neg]
  rintro⟨_,h⟩
  have:bF .i64 0 k=0:=by unfold bF; simp
  rw[this,bitA_zero]at h
  exact absurd h (by decide)
theorem nxF_zero(n:aE)(p:aN):nxF n 0 p=0:=by
 unfold nxF
 rw[bitA_zero,bitA_zero]
 exact skipU_zero n _
theorem hitF_zero(n:aE):gN n 0=false:=by
 unfold gN
 rw[bitA_zero]; rfl
theorem outs_outP{n:aE}{key:List aC}{lo:Int}{ps:List aN}(hs:ps.Pairwise fun x y=>x.time_≤y.time_):∀ (d k:Nat) (fr:List Int),ps.length-k=d→k≤ps.length→fr.length=ps.length-k→(∀ j,k≤j→j<ps.length→fr.getD (j-k) default=firstM aN.time_ (nxF n) (gN n) n.Size (fL n 1) 0 ps j) →
  outsM aN.time_ key lo ps k fr=eI n key lo (ps.take k) (ps.drop k)
 | 0,k,fr,hd,hk,hl,h=>by
  have e:fr=[]:=List.eq_nil_of_length_eq_zero (by omega)
  subst e
  rw[outsM_nil,List.drop_eq_nil_of_le (by omega)]; rfl
 | d+1,k,fr,hd,hk,hl,h=>by
  have hk':k<ps.length:=by omega
  obtain⟨f,fr',rfl⟩:=List.exists_cons_of_ne_nil (show fr≠[] by rintro rfl; simp at hl; omega)
  rw[outsM_cons,bW hk',eI]
  have h1:=h k (Nat.le_refl _) hk'
  rw[Nat.sub_self,List.getD_cons_zero]at h1
  have ih:=outs_outP (n:=n) (key:=key) (lo:=lo) hs d (k+1) fr' (by omega) (by omega) (by rw[List.length_cons]at hl; omega) (fun j hj hj'=>by
   have:=h j (by omega) hj'
   rw[show j-k=(j-(k+1))+1 by omega,List.getD_cons_succ]at this
   exact this)
  rw[ih,←aM hk']
  congr 1
  subst h1
  have ht:(ps.take (k+1)).getLastD default=ps.getD k default:=by rw[aM hk',snoc_last]
  rcases first_best aN.time_ (nxF n) (gN n) n.Size (fL n 1) 0 ps k hk' with⟨h2,h3⟩ | ⟨j,h2,h3,h4⟩
  ·rw[h3,if_neg (fun h=>by omega)]
   unfold resM
   rw[h2]; simp
  ·rw[h3]
   unfold resM
   rw[h4,ht]
   by_cases hlo:lo≤(ps.getD k default).time_
   ·rw[if_pos ⟨by omega,hlo⟩,if_pos hlo,show ((0:Int)+(j:Int)).toNat=j by omega,show (k:Int)-(0+(j:Int))+1=(k:Int)-j+1 by omega]
   ·rw[if_neg (fun h=>hlo h.2),if_neg hlo]
theorem frF_outP{n:aE}{key:List aC}{lo:Int}{ps:List aN}(hs:ps.Pairwise fun x y=>x.time_≤y.time_):outsM aN.time_ key lo ps 0 (frF n ps)=eI n key lo [] ps:=by
 have:=outs_outP (n:=n) (key:=key) (lo:=lo) hs ps.length 0 (frF n ps) (by omega) (by omega) (by rw[frF_len]; omega) (fun j _ hj=>by
  unfold frF
  rw[Nat.sub_zero,frmM_get aN.time_ (nxF n) (gN n) n.Size (fL n 1) (nxF_zero n) (hitF_zero n) 0 ps _ j (Int.le_refl _) List.length_replicate hj hs (fun h=>by
   rw[cH (by rw[List.length_replicate]; exact hj),List.getElem_replicate])]
  rw[cH (by rw[List.length_replicate]; exact hj),List.getElem_replicate,if_pos (by decide)])
 rw[this]; rfl
noncomputable def plA (fs:List aF)(n:aE)(l:List aA):List aN:=l.flatMap (plD fs n)
theorem plD_tm{fs:List aF}{n:aE}{d:aA}{q:aN}(h:q∈plD fs n d):q.time_=d.Time:=by
 rw[(List.mem_replicate.1 h).2]
theorem plA_mem{fs:List aF}{n:aE}{l:List aA}{q:aN}(h:q∈plA fs n l):∃ d,d∈l∧q.time_=d.Time:=by
 obtain⟨d,hd,hq⟩:=List.mem_flatMap.1 h
 exact⟨d,hd,plD_tm hq⟩
theorem plA_app(fs:List aF)(n:aE)(a b:List aA):plA fs n (a++b)=plA fs n a++plA fs n b:=List.flatMap_append ..
theorem plA_srt(fs:List aF)(n:aE):∀ {l:List aA},TS l→(plA fs n l).Pairwise fun x y=>x.time_≤y.time_
 | [],_=>List.Pairwise.nil
 | d::l,h=>by
  have h':=List.pairwise_cons.1 h
  unfold plA
  rw[List.flatMap_cons]
  refine List.pairwise_append.2 ⟨?_,plA_srt fs n h'.2,fun x hx y hy=>?_⟩
  ·unfold plD
   exact List.pairwise_replicate.2 (.inr (Int.le_refl _))
  ·obtain⟨e,he,hy⟩:=plA_mem hy
   rw[plD_tm hx,hy]
   exact h'.1 e he
theorem TS.filter{l:List aA}(h:TS l)(p:aA→Bool):TS (l.filter p):=List.Pairwise.filter p h
theorem matF_outP{fs:List aF}{n:aE}{l:List aA}{lo hi:Int}{key:List aC}(hs:TS l)(hk:∀ d,d∈l→fX n d.Row=key):matF fs n l lo hi=eI n key lo [] (plA fs n (l.filter (inW n lo hi))):=by
 unfold matF
 show (if plA fs n (l.filter (inW n lo hi))=[] then [] else _)=_
 by_cases h0:plA fs n (l.filter (inW n lo hi))=[]
 ·rw[if_pos h0,h0]; rfl
 ·rw[if_neg h0]
  have hl:l≠[]:=by rintro rfl; exact h0 rfl
  rw[hk _ (aQ (List.length_pos_iff.2 hl))]
  exact frF_outP (plA_srt fs n (hs.filter _))
theorem splitT(c:Int):∀ {l:List aA},TS l→l=l.filter (fun d=>decide (d.Time<c))++l.filter (fun d=>decide (c≤d.Time))
 | [],_=>rfl
 | d::l,h=>by
  have h':=List.pairwise_cons.1 h
  rw[List.filter_cons,List.filter_cons]
  by_cases hd:d.Time<c
  ·rw[if_pos (bH hd),if_neg (bK (by omega)),List.cons_append,←splitT c h'.2]
  ·rw[if_neg (bK hd),if_pos (bH (by omega))]
   have e1:l.filter (fun d=>decide (d.Time<c))=[]:=List.filter_eq_nil_iff.2 fun x hx=>bK (by have:=h'.1 x hx; omega)
   have e2:l.filter (fun d=>decide (c≤d.Time))=l:=List.filter_eq_self.2 fun x hx=>bH (by have:=h'.1 x hx; omega)
   rw[e1,e2]; rfl
def seg(a b:Int)(l:List aA):List aA:=l.filter fun d=>decide (a≤d.Time)&&decide (d.Time<b)
theorem seg_mem{a b:Int}{l:List aA}{d:aA}(h:d∈seg a b l):a≤d.Time∧d.Time<b:=by
 have:=(List.mem_filter.1 h).2
 rw[Bool.and_eq_true,decide_eq_true_eq,decide_eq_true_eq]at this
 exact this
theorem seg_seg{a b c:Int}{l:List aA}(hl:TS l)(h1:a≤b)(h2:b≤c):seg a c l=seg a b l++seg b c l:=by
 have h:=splitT b (hl.filter fun d=>decide (a≤d.Time)&&decide (d.Time<c))
 unfold seg
 rw[List.filter_filter,List.filter_filter]at h
 rw[h]
 congr 1
 ·congr 1; funext d
  rw[Bool.eq_iff_iff]
  simp only[Bool.and_eq_true,decide_eq_true_eq]
  omega
 ·congr 1; funext d
  rw[Bool.eq_iff_iff]
  simp only[Bool.and_eq_true,decide_eq_true_eq]
  omega
theorem seg_all{a b:Int}{l:List aA}(h:∀ d,d∈l→a≤d.Time∧d.Time<b):seg a b l=l:=List.filter_eq_self.2 fun d hd=>by
 have:=h d hd
 rw[decide_eq_true this.1,decide_eq_true this.2]; rfl
theorem inW_seg(n:aE)(lo hi:Int)(l:List aA):l.filter (inW n lo hi)=seg (lo-n.Size+1) (hi+1) l:=by
 unfold seg inW
 congr 1; funext d
 rw[Bool.eq_iff_iff]
 simp only[Bool.and_eq_true,decide_eq_true_eq]
 omega
theorem mat_split{fs:List aF}{n:aE}{key:List aC}{x:List aA}{lo last:Int}(hz:1≤n.Size∧n.Size≤10000)(hs:TS x)(ht:okTm x)(h0:0≤lo)(h1:lo≤last)(h2:last≤2199023255552):
  eI n key 0 [] (plA fs n x)=eI n key 0 [] (plA fs n (seg 0 lo x))++(eI n key lo [] (plA fs n (x.filter (inW n lo (last+n.Size-1)))) ++
   eI n key 0 (plA fs n (seg (last+1) (last+n.Size) x)) (plA fs n (seg (last+n.Size) 4398046611104 x))):=by
 by_cases hbig:last+n.Size≤4398046611104
 ·have hx:x=seg 0 4398046611104 x:=(seg_all fun d hd=>by have:=ht d hd; omega).symm
  have e1:seg 0 4398046611104 x=seg 0 lo x++(seg lo (last+n.Size) x++seg (last+n.Size) 4398046611104 x):=by
   rw[seg_seg hs (show (0:Int)≤lo by omega) (show lo≤4398046611104 by omega),seg_seg (a:=lo) hs (show lo≤last+n.Size by omega) hbig]
  have pos:∀ {a b:Int} {q:aN},q∈plA fs n (seg a b x)→a≤q.time_∧q.time_<b∧0≤q.time_:=fun {a b q} hq=>by
   obtain⟨d,hd,e⟩:=plA_mem hq
   have h3:=seg_mem hd
   have h4:=ht d (List.mem_filter.1 hd).1
   rw[e]; omega
  have e2:∃ A1 A2,seg 0 lo x=A1++A2∧(∀ q,q∈plA fs n A1→q.time_≤lo-n.Size)∧(∀ q,q∈plA fs n A2→q.time_<lo)∧x.filter (inW n lo (last+n.Size-1))=A2++seg lo (last+n.Size) x:=by
   by_cases hc:0≤lo-n.Size+1
   ·refine⟨seg 0 (lo-n.Size+1) x,seg (lo-n.Size+1) lo x,seg_seg hs hc (by omega),fun q hq=>by have:=pos hq; omega,fun q hq=>by have:=pos hq; omega,?_⟩
    rw[inW_seg,show last+n.Size-1+1=last+n.Size by omega]
    exact seg_seg hs (by omega) (by omega)
   ·refine⟨[],seg 0 lo x,rfl,fun q hq=>by simp[plA]at hq,fun q hq=>by have:=pos hq; omega,?_⟩
    rw[inW_seg,show last+n.Size-1+1=last+n.Size by omega,seg_seg hs (show lo-n.Size+1≤lo by omega) (show lo≤last+n.Size by omega)]
    congr 1
    unfold seg
    refine List.filter_congr fun d hd=>?_
    have:=ht d hd
    rw[Bool.eq_iff_iff]
    simp only[Bool.and_eq_true,decide_eq_true_eq]
    omega
  obtain⟨A1,A2,e3,q1,q2,e4⟩:=e2
  have e5:seg lo (last+n.Size) x=seg lo (last+1) x++seg (last+1) (last+n.Size) x:=seg_seg hs (by omega) (by omega)
  conv=>lhs; rw[hx,e1]
  rw[plA_app,plA_app,outP_app,outP_app,List.nil_append]
  congr 1
  congr 1
  ·rw[e4,plA_app,outP_app,List.nil_append,outP_none (qs:=plA fs n A2) q2,List.nil_append,e3,plA_app,
    outP_loc fun u hu q hq=>by have h3:=q1 u hu; have h4:=(pos hq).1; omega]
   exact outP_low fun q hq=>by have:=pos hq; omega
  ·rw[e5,plA_app,←List.append_assoc]
   refine outP_loc fun u hu q hq=>?_
   have h3:=(pos hq).1
   rcases List.mem_append.1 hu with hu | hu
   ·have:=pos hu; omega
   ·have:=pos hu; omega
 ·omega
def Rp(k:Nat)(s:Int)(S:Nat→Prop):Prop:=∃ a:Nat,s=(a:Int)∧a<2 ^ k∧∀ p,a.testBit p=true↔S p
theorem Rp.congr{k:Nat}{s:Int}{S T:Nat→Prop}(h:Rp k s S)(e:∀ p,S p↔T p):Rp k s T:=by
 obtain⟨a,h1,h2,h3⟩:=h
 exact⟨a,h1,h2,fun p=>(h3 p).trans (e p)⟩
theorem Rp.mono{k j:Nat}{s:Int}{S:Nat→Prop}(h:Rp k s S)(hj:k≤j):Rp j s S:=by
 obtain⟨a,h1,h2,h3⟩:=h
 exact⟨a,h1,Nat.lt_of_lt_of_le h2 (Nat.pow_le_pow_right (by decide) hj),h3⟩
theorem iB{k a:Nat}(hk:k≤20)(h:a<2 ^ k):a<1048576:=Nat.lt_of_lt_of_le h (Nat.pow_le_pow_right (n:=2) (by decide) hk)
theorem bitA_nat{a b:Nat}(ha:a<1048576)(hb:b<1048576):gC .i64 (a:Int) (b:Int)=((a &&& b:Nat):Int):=by
 unfold gC
 have e:(BitVec.ofInt IntKind.i64.bits (a:Int) &&& BitVec.ofInt IntKind.i64.bits (b:Int)).toNat=a &&& b:=by
  show (BitVec.ofInt 64 (a:Int) &&& BitVec.ofInt 64 (b:Int)).toNat=a &&& b
  rw[BitVec.toNat_and,BitVec.ofInt_natCast,BitVec.ofInt_natCast,BitVec.toNat_ofNat,BitVec.toNat_ofNat,Nat.mod_eq_of_lt (by omega),Nat.mod_eq_of_lt (by omega)]
 rw[e]
 exact wrap_nat (by have:a &&& b≤a:=Nat.and_le_left; omega)
theorem bitO_nat{k a b:Nat}(hk:k≤20)(ha:a<2 ^ k)(hb:b<2 ^ k):bitO .i64 (a:Int) (b:Int)=((a ||| b:Nat):Int):=by
 have ha':=iB hk ha
 have hb':=iB hk hb
 have hab:=iB hk (Nat.or_lt_two_pow ha hb)
 unfold bitO
 have e:(BitVec.ofInt IntKind.i64.bits (a:Int) ||| BitVec.ofInt IntKind.i64.bits (b:Int)).toNat=a ||| b:=by
  show (BitVec.ofInt 64 (a:Int) ||| BitVec.ofInt 64 (b:Int)).toNat=a ||| b
  rw[BitVec.toNat_or,BitVec.ofInt_natCast,BitVec.ofInt_natCast,BitVec.toNat_ofNat,BitVec.toNat_ofNat,Nat.mod_eq_of_lt (by omega),Nat.mod_eq_of_lt (by omega)]
 rw[e]
 exact wrap_nat (by omega)
theorem Rp.and{k j:Nat}{s t:Int}{S T:Nat→Prop}(h:Rp k s S)(h':Rp j t T)(hk:k≤20)(hj:j≤20):Rp j (gC .i64 s t) (fun p=>S p∧T p):=by
 obtain⟨a,rfl,h2,h3⟩:=h
 obtain⟨b,rfl,g2,g3⟩:=h'
 refine⟨a &&& b,bitA_nat (iB hk h2) (iB hj g2),Nat.lt_of_le_of_lt Nat.and_le_right g2,fun p=>?_⟩
 rw[Nat.testBit_and,Bool.and_eq_true,h3,g3]
theorem Rp.or{k:Nat}{s t:Int}{S T:Nat→Prop}(h:Rp k s S)(h':Rp k t T)(hk:k≤20):Rp k (bitO .i64 s t) (fun p=>S p∨T p):=by
 obtain⟨a,rfl,h2,h3⟩:=h
 obtain⟨b,rfl,g2,g3⟩:=h'
 refine⟨a ||| b,bitO_nat hk h2 g2,Nat.or_lt_two_pow h2 g2,fun p=>?_⟩
 rw[Nat.testBit_or,Bool.or_eq_true,h3,g3]
theorem shl_nat{a j:Nat}(hj:j≤20)(ha:a<1048576):iG .i64 (a:Int) (j:Int)=((a*2 ^ j:Nat):Int):=by
 unfold iG
 have hm:min ((j:Int)).toNat IntKind.i64.bits=j:=by rw[Int.toNat_natCast]; exact Nat.min_eq_left (by show j≤64; omega)
 rw[hm]
 have hp:(2:Nat) ^ j≤1048576:=Nat.pow_le_pow_right (n:=2) (by decide) hj
 have e:(a:Int)*2 ^ j=((a*2 ^ j:Nat):Int):=by rw[Int.natCast_mul,Int.natCast_pow]; rfl
 rw[e]
 refine wrap_nat ?_
 have:=Nat.mul_le_mul (Nat.le_of_lt ha) hp
 omega
theorem Rp.one{k j:Nat}(h:j<k)(hk:k≤20):Rp k (iG .i64 1 (j:Int)) (fun p=>p=j):=by
 refine⟨2 ^ j,?_,Nat.pow_lt_pow_right (by decide) h,fun p=>?_⟩
 ·have:=shl_nat (a:=1) (j:=j) (by omega) (by omega)
  rwa [Nat.one_mul]at this
 ·rw[Nat.testBit_two_pow,decide_eq_true_eq]; exact eq_comm
theorem Rp.one0{k:Nat}(h:0<k)(hk:k≤20):Rp k 1 (fun p=>p=0):=(Rp.one h hk)
theorem Rp.zero(k:Nat):Rp k 0 (fun _=>False):=⟨0,rfl,Nat.two_pow_pos k,fun p=>by simp⟩
theorem Rp.shl{k:Nat}{s:Int}{S:Nat→Prop}(h:Rp k s S)(hk:k<20):Rp (k+1) (iG .i64 s 1) (fun p=>∃ q,S q∧p=q+1):=by
 obtain⟨a,rfl,h2,h3⟩:=h
 refine⟨a*2 ^ 1,shl_nat (j:=1) (by omega) (iB (by omega) h2),?_,fun p=>?_⟩
 ·rw[Nat.pow_succ]; omega
 ·rw[Nat.testBit_mul_two_pow,Bool.and_eq_true,decide_eq_true_eq,h3]
  constructor
  ·rintro⟨h1,h4⟩; exact⟨p-1,h4,by omega⟩
  ·rintro⟨q,hq,rfl⟩; exact⟨by omega,hq⟩
theorem Rp.test{k j:Nat}{s:Int}{S:Nat→Prop}(h:Rp k s S)(hk:k≤20)(hj:j≤20):((gC .i64 (bF .i64 s (j:Int)) 1==1)=true)↔S j:=by
 obtain⟨a,rfl,h2,h3⟩:=h
 have ha:=iB hk h2
 have e:bF .i64 (a:Int) (j:Int)=((a / 2 ^ j:Nat):Int):=by
  unfold bF
  have hm:min ((j:Int)).toNat IntKind.i64.bits=j:=by rw[Int.toNat_natCast]; exact Nat.min_eq_left (by show j≤64; omega)
  rw[hm]
  have e2:(2:Int) ^ j=((2 ^ j:Nat):Int):=by rw[Int.natCast_pow]; rfl
  rw[e2]; exact(Int.ofNat_fdiv a (2 ^ j)).symm
 have hd:a / 2 ^ j≤a:=Nat.div_le_self _ _
 rw[e,show (1:Int)=((1:Nat):Int) from rfl,bitA_nat (by omega) (by omega),←h3,beq_iff_eq]
 rw[Nat.testBit,Nat.shiftRight_eq_div_pow,Nat.and_comm]
 rw[show (1 &&& a / 2 ^ j)=(a / 2 ^ j) % 2 by rw[Nat.and_comm,Nat.and_one_is_mod]]
 have:=Nat.mod_lt (a / 2 ^ j) (show 0<2 by decide)
 constructor
 ·intro h; have:a / 2 ^ j % 2=1:=by omega
  rw[this]; rfl
 ·intro h
  have h:a / 2 ^ j % 2≠0:=by simpa using h
  omega
theorem Rp.hit{k:Nat}{s:Int}{S:Nat→Prop}{j:Nat}(h:Rp k s S)(hj:j<k)(hk:k≤20):((gC .i64 s (iG .i64 1 (j:Int)) != 0)=true)↔S j:=by
 obtain⟨a,e1,e2,e3⟩:=h.and (Rp.one hj hk) hk hk
 rw[e1,bne_iff_ne]
 constructor
 ·intro hne
  have:a≠0:=fun h0=>hne (by rw[h0]; rfl)
  obtain⟨p,hp⟩:=Nat.exists_testBit_of_ne_zero this
  obtain⟨hs,rfl⟩:=(e3 p).1 hp
  exact hs
 ·intro hs h0
  have:a=0:=by omega
  have hb:=(e3 j).2 ⟨hs,rfl⟩
  rw[this,Nat.zero_testBit]at hb
  cases hb
section
variable {α:Type} (K:Nat) (rep:Nat→Int) (ok:α→Nat→Prop)
def Skp(p q:Nat):Prop:=p≤q∧∀ r,p≤r→r<q→r<K∧rep r=2
def AccS:List α→Nat→Prop
 | [],p=>Skp K rep p K
 | x::s,p=>∃ q,Skp K rep p q∧q<K∧ok x q∧(AccS s (q+1)∨(rep q=1∧AccS s q))
def Bwd:List α→Nat→Prop
 | [],p=>p=K
 | x::s,p=>p<K∧ok x p∧(AccS K rep ok s (p+1)∨(rep p=1∧AccS K rep ok s p))
theorem acc_bwd(s:List α)(p:Nat):AccS K rep ok s p↔∃ q,Skp K rep p q∧Bwd K rep ok s q:=by
 cases s with
 | nil=>
  constructor
  ·intro h; exact⟨K,h,rfl⟩
  ·rintro⟨q,h,rfl⟩; exact h
 | cons x s=>exact Iff.rfl
variable {K rep ok}
theorem Skp.refl(p:Nat):Skp K rep p p:=⟨Nat.le_refl p,fun r h h'=>by omega⟩
theorem Skp.trans{p q r:Nat}(h:Skp K rep p q)(h':Skp K rep q r):Skp K rep p r:=⟨Nat.le_trans h.1 h'.1,fun t h1 h2=>by
 rcases Nat.lt_or_ge t q with h3 | h3
 ·exact h.2 t h1 h3
 ·exact h'.2 t h3 h2⟩
theorem AccS.pre{s:List α}{p q:Nat}(h:Skp K rep p q)(ha:AccS K rep ok s q):AccS K rep ok s p:=by
 cases s with
 | nil=>exact h.trans ha
 | cons x s=>
  obtain⟨r,h1,h2⟩:=ha
  exact⟨r,h.trans h1,h2⟩
variable (K rep ok)
def Nxt(S:Nat→Prop)(x:α):Nat→Prop:=fun p=>∃ q,(∃ b,S b∧b<K∧ok x b∧(q=b+1∨(rep b=1∧q=b)))∧Skp K rep q p
def Fwd:(Nat→Prop)→List α→Prop
 | S,[]=>S K
 | S,x::s=>Fwd (Nxt K rep ok S x) s
theorem fwd_acc:∀ (s:List α) (S:Nat→Prop),(∀ p q,S p→Skp K rep p q→S q)→(Fwd K rep ok S s↔∃ p,S p∧AccS K rep ok s p)
 | [],S,hc=>⟨fun h=>⟨K,h,.refl K⟩,fun⟨p,h1,h2⟩=>hc p K h1 h2⟩
 | x::s,S,hc=>by
  rw[Fwd,fwd_acc s _ fun p q ⟨r,h1,h2⟩ h3=>⟨r,h1,h2.trans h3⟩]
  constructor
  ·rintro⟨p,⟨q,⟨b,hb,hK,ho,hq⟩,hs⟩,ha⟩
   refine⟨b,hb,b,.refl b,hK,ho,?_⟩
   have ha':=ha.pre hs
   rcases hq with rfl | ⟨h1,rfl⟩
   ·exact .inl ha'
   ·exact .inr ⟨h1,ha'⟩
  ·rintro⟨p,hp,q,hs,hK,ho,ha⟩
   have hq:=hc p q hp hs
   rcases ha with ha | ⟨h1,ha⟩
   ·exact⟨q+1,⟨q+1,⟨q,hq,hK,ho,.inl rfl⟩,.refl _⟩,ha⟩
   ·exact⟨q,⟨q,⟨q,hq,hK,ho,.inr ⟨h1,rfl⟩⟩,.refl _⟩,ha⟩
theorem fwd_start(s:List α):Fwd K rep ok (fun p=>Skp K rep 0 p) s↔AccS K rep ok s 0:=by
 rw[fwd_acc K rep ok s _ fun p q h h'=>h.trans h']
 exact⟨fun⟨p,h1,h2⟩=>h2.pre h1,fun h=>⟨0,.refl 0,h⟩⟩
theorem AccS_congr{β:Type}{okβ:β→Nat→Prop}(f:β→α)(h:∀ b q,q<K→(okβ b q↔ok (f b) q)):∀ (s:List β) (p:Nat),AccS K rep okβ s p↔AccS K rep ok (s.map f) p
 | [],p=>Iff.rfl
 | b::s,p=>by
  rw[List.map_cons,AccS,AccS]
  constructor
  ·rintro⟨q,h1,h2,h3,h4⟩
   exact⟨q,h1,h2,(h b q h2).1 h3,h4.imp (AccS_congr f h s _).1 fun h5=>⟨h5.1,(AccS_congr f h s _).1 h5.2⟩⟩
  ·rintro⟨q,h1,h2,h3,h4⟩
   exact⟨q,h1,h2,(h b q h2).2 h3,h4.imp (AccS_congr f h s _).2 fun h5=>⟨h5.1,(AccS_congr f h s _).2 h5.2⟩⟩
end
abbrev eU (n:aE)(r:Nat):Int:=(n.Seq.getD r default).Rep
theorem skipU_rp{n:aE}{K:Nat}(hK:K≤8){s:Int}{S:Nat→Prop}(h:Rp (K+1) s S):∀ k,k≤K→Rp (K+1) (skipU n s k) (fun p=>∃ q,S q∧Skp k (eU n) q p)
 | 0,_=>by
  refine h.congr fun p=>⟨fun hp=>⟨p,hp,.refl p⟩,fun⟨q,hq,h1,h2⟩=>?_⟩
  rcases Nat.eq_or_lt_of_le h1 with e | e
  ·rw[←e]; exact hq
  ·exact absurd (h2 q (Nat.le_refl q) e).1 (by omega)
 | k+1,hk=>by
  have ih:=skipU_rp (n:=n) hK h k (by omega)
  have ht:=ih.test (j:=k) (by omega) (by omega)
  have up:∀ q p,Skp k (eU n) q p→Skp (k+1) (eU n) q p:=fun q p hs=>⟨hs.1,fun r h1 h2=>⟨by have:=(hs.2 r h1 h2).1; omega,(hs.2 r h1 h2).2⟩⟩
  have dn:∀ q p,Skp (k+1) (eU n) q p→(p≤k∨q=p)→Skp k (eU n) q p:=fun q p hs hp=>⟨hs.1,fun r h1 h2=>⟨by rcases hp with hp | hp <;> omega,(hs.2 r h1 h2).2⟩⟩
  rw[skipU]
  by_cases hc:((n.Seq.getD k default).Rep==2)=true∧(gC .i64 (bF .i64 (skipU n s k) k) 1==1)=true
  ·rw[if_pos hc]
   have h2:eU n k=2:=beq_iff_eq.1 hc.1
   obtain⟨b,hb,hbs⟩:=ht.1 hc.2
   refine(ih.or (Rp.one (j:=k+1) (by omega) (by omega)) (by omega)).congr fun p=>⟨?_,?_⟩
   ·rintro (⟨q,hq,hs⟩ | rfl)
    ·exact⟨q,hq,up q p hs⟩
    ·refine⟨b,hb,(up b k hbs).trans ⟨by omega,fun r h1 h2'=>?_⟩⟩
     have:r=k:=by omega
     rw[this]; exact⟨by omega,h2⟩
   ·rintro⟨q,hq,hs⟩
    by_cases hp:p≤k∨q=p
    ·exact .inl ⟨q,hq,dn q p hs hp⟩
    ·have:=hs.1
     have h3:=(hs.2 (p-1) (by omega) (by omega)).1
     exact .inr (by omega)
  ·rw[if_neg hc]
   refine ih.congr fun p=>⟨fun⟨q,hq,hs⟩=>⟨q,hq,up q p hs⟩,fun⟨q,hq,hs⟩=>?_⟩
   by_cases hp:p≤k∨q=p
   ·exact⟨q,hq,dn q p hs hp⟩
   ·have h1:=hs.1
    have h3:=(hs.2 (p-1) (by omega) (by omega)).1
    have h4:=(hs.2 k (by omega) (by omega)).2
    refine absurd ⟨beq_iff_eq.2 h4,ht.2 ⟨q,hq,⟨by omega,fun r h5 h6=>⟨h6,(hs.2 r h5 (by omega)).2⟩⟩⟩⟩ hc
theorem manyU_rp{n:aE}{K:Nat}(hK:K≤8):∀ k,k≤K→Rp K (manyU n k) (fun p=>p<k∧eU n p=1)
 | 0,_=>(Rp.zero K).congr fun p=>by simp
 | k+1,hk=>by
  have ih:=manyU_rp (n:=n) hK k (by omega)
  rw[manyU]
  by_cases hc:((n.Seq.getD k default).Rep==1)=true
  ·rw[if_pos hc]
   have h1:eU n k=1:=beq_iff_eq.1 hc
   refine(ih.or (Rp.one (j:=k) (by omega) (by omega)) (by omega)).congr fun p=>⟨?_,?_⟩
   ·rintro (⟨h2,h3⟩ | rfl)
    ·exact⟨by omega,h3⟩
    ·exact⟨by omega,h1⟩
   ·rintro⟨h2,h3⟩
    by_cases hp:p=k
    ·exact .inr hp
    ·exact .inl ⟨by omega,h3⟩
  ·rw[if_neg hc]
   have h1:¬ eU n k=1:=fun e=>hc (beq_iff_eq.2 e)
   refine ih.congr fun p=>⟨fun⟨h2,h3⟩=>⟨by omega,h3⟩,fun⟨h2,h3⟩=>⟨?_,h3⟩⟩
   have:p≠k:=fun e=>h1 (by rw[←e]; exact h3)
   omega
theorem nxF_rp{n:aE}(hn:n.Seq.length≤8){s:Int}{S:Nat→Prop}{x:aN}{T:Nat→Prop}(h:Rp (n.Seq.length+1) s S)(hx:Rp n.Seq.length x.fits_ T):
  Rp (n.Seq.length+1) (nxF n s x) (fun p=>∃ q,(∃ b,S b∧b<n.Seq.length∧T b∧(q=b+1∨(eU n b=1∧q=b)))∧Skp n.Seq.length (eU n) q p):=by
 have h1:=h.and hx (by omega) (by omega)
 have h2:=(h1.shl (by omega)).or ((h1.and (manyU_rp (n:=n) hn n.Seq.length (Nat.le_refl _)) (by omega) (by omega)).mono (Nat.le_succ _)) (by omega)
 have hT:∀ b,T b→b<n.Seq.length:=fun b hb=>by
  obtain⟨a,_,ha,hp⟩:=hx
  refine Classical.byContradiction fun hge=>?_
  have:=(hp b).2 hb
  rw[Nat.testBit_lt_two_pow (Nat.lt_of_lt_of_le ha (Nat.pow_le_pow_right (by decide) (by omega)))]at this
  cases this
 refine(skipU_rp hn h2 n.Seq.length (Nat.le_refl _)).congr fun p=>⟨?_,?_⟩
 ·rintro⟨q,(⟨b,⟨hb,ht⟩,rfl⟩ | ⟨⟨hb,ht⟩,hl,hr⟩),hs⟩
  ·exact⟨b+1,⟨b,hb,hT b ht,ht,.inl rfl⟩,hs⟩
  ·exact⟨q,⟨q,hb,hl,ht,.inr ⟨hr,rfl⟩⟩,hs⟩
 ·rintro⟨q,⟨b,hb,hl,ht,(rfl | ⟨hr,rfl⟩)⟩,hs⟩
  ·exact⟨b+1,.inl ⟨b,⟨hb,ht⟩,rfl⟩,hs⟩
  ·exact⟨q,.inr ⟨⟨hb,ht⟩,hl,hr⟩,hs⟩
theorem hit_acc{n:aE}(hn:n.Seq.length≤8)(ok:aN→Nat→Prop):∀ (l:List aN) (s:Int) (S:Nat→Prop),(∀ x,x∈l→Rp n.Seq.length x.fits_ (ok x))→Rp (n.Seq.length+1) s S →
  ((gN n (l.foldl (nxF n) s)=true)↔Fwd n.Seq.length (eU n) ok S l)
 | [],s,S,_,h=>by
  show ((gC .i64 s (iG .i64 1 (n.Seq.length:Int)) != 0)=true)↔S n.Seq.length
  exact h.hit (by omega) (by omega)
 | x::l,s,S,hx,h=>by
  rw[List.foldl_cons]
  exact hit_acc hn ok l (nxF n s x) (Nxt n.Seq.length (eU n) ok S x) (fun y hy=>hx y (List.mem_cons_of_mem _ hy)) (nxF_rp hn h (hx x List.mem_cons_self))
theorem isM_acc{n:aE}(hn:n.Seq.length≤8)(ok:aN→Nat→Prop){l:List aN}(hx:∀ x,x∈l→Rp n.Seq.length x.fits_ (ok x))(t0:Int):
  (isM aN.time_ (nxF n) (gN n) n.Size t0 (fL n 1) l=true)↔((l.getLastD default).time_-t0<n.Size∧AccS n.Seq.length (eU n) ok l 0):=by
 unfold isM
 rw[Bool.and_eq_true,decide_eq_true_eq]
 refine and_congr Iff.rfl ?_
 rw[hit_acc hn ok l (fL n 1) (fun p=>Skp n.Seq.length (eU n) 0 p) hx]
 ·exact fwd_start _ _ _ l
 ·refine(skipU_rp hn (Rp.one0 (by omega) (by omega)) n.Seq.length (Nat.le_refl _)).congr fun p=>⟨?_,fun h=>⟨0,rfl,h⟩⟩
  rintro⟨q,rfl,h⟩
  exact h
theorem fitU_rp(fs:List aF){n:aE}(hn:n.Seq.length≤8)(d:aA):∀ k,k≤n.Seq.length→Rp n.Seq.length (fitU fs n d k) (fun p=>p<k∧(evV fs (n.Seq.getD p default).Pred d).N=1)
 | 0,_=>(Rp.zero _).congr fun p=>by simp
 | k+1,hk=>by
  have ih:=fitU_rp fs hn d k (by omega)
  rw[fitU]
  by_cases hc:((evV fs (n.Seq.getD k default).Pred d).N==1)=true
  ·rw[if_pos hc]
   have h1:(evV fs (n.Seq.getD k default).Pred d).N=1:=by simpa using hc
   refine(ih.or (Rp.one (j:=k) (by omega) (by omega)) (by omega)).congr fun p=>⟨?_,?_⟩
   ·rintro (⟨h2,h3⟩ | rfl)
    ·exact⟨by omega,h3⟩
    ·exact⟨by omega,h1⟩
   ·rintro⟨h2,h3⟩
    by_cases hp:p=k
    ·exact .inr hp
    ·exact .inl ⟨by omega,h3⟩
  ·rw[if_neg hc]
   have h1:¬ (evV fs (n.Seq.getD k default).Pred d).N=1:=by simpa using hc
   refine ih.congr fun p=>⟨fun⟨h2,h3⟩=>⟨by omega,h3⟩,fun⟨h2,h3⟩=>⟨?_,h3⟩⟩
   have:p≠k:=fun e=>h1 (by rw[←e]; exact h3)
   omega
theorem openL(n:aE)(a1:List aA)(a2:List (List Bool))(a3 v2 v3:Int)(hK:n.Seq.length≤8)(p:Nat)(hp:p<n.Seq.length)(now next:List Bool)(hl:now.length=n.Seq.length+1)(o0:Bool):
  Sp (cA (fun s=>(T372_L2 n a1 a2 a3 v2 v3 (p:Int) s).den) (now,next,o0,IntKind.i64.wrap ((p:Int)+1)))
   (fun z=>∃ o,z = .inl (now,next,o)∧(o=true↔(o0=true∨∃ q,p+1≤q∧(∀ r,p+1≤r→r≤q→r<n.Seq.length∧eU n r=2)∧now.getD (q+1) default=true))):=by
 refine Sq.while (fun s:List Bool×List Bool×Bool×Int=>s.1=now∧s.2.1=next∧∃ q:Nat,s.2.2.2=(q:Int)∧p+1≤q∧q≤n.Seq.length∧(∀ r,p+1≤r→r<q→r<n.Seq.length∧eU n r=2) ∧
   (s.2.2.1=true↔(o0=true∨∃ q',p+1≤q'∧q' < q∧now.getD (q'+1) default=true))) (fun s=>n.Seq.length+1-s.2.2.2.toNat) (fun s hI=>?_) ⟨rfl,rfl,p+1,aL (by omega),Nat.le_refl _,hp,fun r h1 h2=>by omega,⟨fun h=>.inl h,fun h=>h.elim id fun⟨q',h1,h2,_⟩=>by omega⟩⟩
 obtain⟨v14,v15,v16,v17⟩:=s
 obtain⟨rfl,rfl,q,hq,hq1,hq2,hch,ho⟩:=hI
 simp only at hq ho hl
 subst hq
 unfold T372_L2
 simp only[Tr.den,Int.toNat_natCast]
 have ex:(∀ q',q≤q'→¬ (q<n.Seq.length∧eU n q=2))→(v16=true↔(o0=true∨∃ q',p+1≤q'∧(∀ r,p+1≤r→r≤q'→r<n.Seq.length∧eU n r=2)∧v14.getD (q'+1) default=true)):=fun hno=>by
  rw[ho]
  refine or_congr Iff.rfl ⟨fun⟨q',h1,h2,h3⟩=>⟨q',h1,fun r h4 h5=>hch r h4 (by omega),h3⟩,fun⟨q',h1,h2,h3⟩=>⟨q',h1,?_,h3⟩⟩
  exact Classical.byContradiction fun hge=>hno q' (by omega) (h2 q (by omega) (by omega))
 cases v16 with
 | true=>
  simp only[Bool.not_true,Bool.false_eq_true,if_false,Option.bind_some]
  refine aB.2 ⟨true,rfl,⟨fun h=>?_,fun _=>rfl⟩⟩
  rcases ho.1 rfl with h | ⟨q',h1,h2,h3⟩
  ·exact .inl h
  ·exact .inr ⟨q',h1,fun r h4 h5=>hch r h4 (by omega),h3⟩
 | false=>
  simp only[Bool.not_false,if_true]
  by_cases hc:q<n.Seq.length
  ·rw[if_pos (bH (by omega)),if_pos (by omega)]
   simp only[Option.bind_some]
   by_cases hr:eU n q=2
   ·rw[if_pos (beq_iff_eq.2 hr),aL (by omega),if_pos (by omega),Int.toNat_natCast,if_pos (by omega)]
    refine aB.2 ⟨⟨rfl,rfl,q+1,rfl,by omega,by omega,fun r h1 h2=>?_,?_⟩,by simp only[Int.toNat_natCast]; omega⟩
    ·by_cases h:r=q
     ·rw[h]; exact⟨hc,hr⟩
     ·exact hch r h1 (by omega)
    ·simp only
     constructor
     ·intro h; exact .inr ⟨q,hq1,by omega,h⟩
     ·rintro (h | ⟨q',h1,h2,h3⟩)
      ·exact absurd (ho.2 (.inl h)) (by decide)
      ·by_cases h:q'=q
       ·rw[←h]; exact h3
       ·exact absurd (ho.2 (.inr ⟨q',h1,by omega,h3⟩)) (by decide)
   ·rw[if_neg (fun h=>hr (beq_iff_eq.1 h))]
    exact aB.2 ⟨false,rfl,ex fun q' _ h=>hr h.2⟩
  ·rw[if_neg (bK (by omega))]
   simp only[Option.bind_some,Bool.false_eq_true,if_false]
   exact aB.2 ⟨false,rfl,ex fun q' _ h=>hc h.1⟩
def opP(n:aE)(now:List Bool)(p:Nat):Prop:=(now.getD (p+1) default=true∨(eU n p=1∧now.getD p default=true))∨∃ q,p+1≤q∧(∀ r,p+1≤r→r≤q→r<n.Seq.length∧eU n r=2)∧now.getD (q+1) default=true
theorem nextL(n:aE)(a1:List aA)(a2:List (List Bool))(a3 v2:Int)(i:Nat)(hi:i<a2.length)(hK:n.Seq.length≤8)(now:List Bool)(hl:now.length=n.Seq.length+1)(hg:(a2.getD i default).length=n.Seq.length):
  Sp (cA (fun s=>(T372_L1 n a1 a2 a3 v2 (i:Int) s).den) (now,List.replicate (n.Seq.length+1) (default:Bool),IntKind.i64.wrap ((n.Seq.length:Int)-1)))
   (fun z=>∃ nx:List Bool,z = .inl nx∧nx.length=n.Seq.length+1∧∀ p,p≤n.Seq.length→(nx.getD p default=true↔(p<n.Seq.length∧opP n now p∧(a2.getD i default).getD p default=true))):=by
 refine Sq.while (fun s:List Bool×List Bool×Int=>s.1=now∧∃ q:Nat,s.2.2=(q:Int)-1∧q≤n.Seq.length∧s.2.1.length=n.Seq.length+1∧∀ p,p≤n.Seq.length→(s.2.1.getD p default=true↔(q≤p∧p<n.Seq.length∧opP n now p∧(a2.getD i default).getD p default=true)))
  (fun s=>(s.2.2+1).toNat) (fun s hI=>?_) ⟨rfl,n.Seq.length,bR (by omega) (by omega),Nat.le_refl _,List.length_replicate,fun p hp=>⟨fun h=>?_,fun h=>by omega⟩⟩
 ·obtain⟨v7,v8,v9⟩:=s
  obtain⟨rfl,q,hq,hq1,hnl,hn⟩:=hI
  simp only at hq hnl hn hl
  subst hq
  unfold T372_L1
  simp only[Tr.den]
  cases q with
  | zero=>
   rw[if_neg (bK (by omega))]
   exact aB.2 ⟨v8,rfl,hnl,fun p hp=>(hn p hp).trans ⟨fun h=>h.2,fun h=>⟨Nat.zero_le _,h⟩⟩⟩
  | succ q=>
   have e1:((q+1:Nat):Int)-1=(q:Int):=by omega
   rw[e1,if_pos (bH (by omega)),aL (by omega)]
   simp only[Int.toNat_natCast]
   rw[if_pos (by omega),if_pos (by omega)]
   refine Sq.bind (fun z:List Bool×List Bool×Bool=>z.1=v7∧z.2.1=v8∧(z.2.2=true↔(v7.getD (q+1) default=true∨(eU n q=1∧v7.getD q default=true)))) ?_ (fun z hz=>?_)
   ·refine bX (fun h=>aB.2 ⟨rfl,rfl,fun _=>.inl h,fun _=>rfl⟩) fun h=>?_
    have hno:¬ v7.getD (q+1) default=true:=by rw[h]; decide
    rw[if_pos (by omega)]
    by_cases hr:eU n q=1
    ·rw[if_pos (beq_iff_eq.2 hr),if_pos (by omega),if_pos (by omega)]
     exact aB.2 ⟨rfl,rfl,fun h=>.inr ⟨hr,h⟩,fun h=>h.elim (fun h=>absurd h hno) fun h=>h.2⟩
    ·rw[if_neg (fun h=>hr (beq_iff_eq.1 h))]
     exact aB.2 ⟨rfl,rfl,fun h=>(by cases h),fun h=>h.elim (fun h=>absurd h hno) fun h=>absurd h.1 hr⟩
   ·obtain⟨j11,j12,j13⟩:=z
    obtain⟨rfl,rfl,hj⟩:=hz
    simp only at hj hl hn hnl
    refine Sq.bind _ (Sq.of (aL (n:=q) (by omega)▸openL n a1 a2 a3 v2 (i:Int) hK q (by omega) j11 j12 hl j13)) (fun z hz=>?_)
    obtain⟨o,rfl,ho⟩:=hz
    simp only[sel]
    have ho':o=true↔opP n j11 q:=ho.trans (or_congr hj Iff.rfl)
    have step:∀ b:Bool,(b=true↔(opP n j11 q∧(a2.getD i default).getD q default=true)) →
      (∀ p,p≤n.Seq.length→((j12.set q b).getD p default=true↔(q≤p∧p<n.Seq.length∧opP n j11 p∧(a2.getD i default).getD p default=true))):=fun b hb p hp=>by
     rw[getD_set]
     by_cases h:p=q
     ·rw[if_pos ⟨h,by omega⟩,h,hb]
      exact⟨fun h=>⟨Nat.le_refl _,by omega,h⟩,fun h=>h.2.2⟩
     ·rw[if_neg (fun h'=>h h'.1),hn p hp]
      exact⟨fun h=>⟨by omega,h.2⟩,fun h'=>⟨by omega,h'.2⟩⟩
    have fin:∀ b:Bool,(b=true↔(opP n j11 q∧(a2.getD i default).getD q default=true))→Sq true ((some (j11,j12.set q b):Option (List Bool×List Bool)).bind fun x=>some (Sum.inl (x.1,x.2,IntKind.i64.wrap ((q:Int)-1)):(List Bool×List Bool×Int)⊕(List Bool⊕(List Bool×Int×Int)⊕Int⊕Int)))
      (sel (fun s':List Bool×List Bool×Int=>(s'.1=j11∧∃ q:Nat,s'.2.2=(q:Int)-1∧q≤n.Seq.length∧s'.2.1.length=n.Seq.length+1∧∀ p,p≤n.Seq.length→(s'.2.1.getD p default=true↔(q≤p∧p<n.Seq.length∧opP n j11 p∧(a2.getD i default).getD p default=true)))∧(s'.2.2+1).toNat<((q:Int)+1).toNat) (fun z=>∃ nx:List Bool,z = .inl nx∧nx.length=n.Seq.length+1∧∀ p,p≤n.Seq.length→(nx.getD p default=true↔(p<n.Seq.length∧opP n j11 p∧(a2.getD i default).getD p default=true)))):=fun b hb=>by
     refine aB.2 ⟨⟨rfl,q,?_,by omega,by rw[List.length_set]; exact hnl,step b hb⟩,?_⟩
     ·simp only; rw[bR (by omega) (by omega)]
     ·simp only; rw[bR (by omega) (by omega)]; omega
    cases o with
    | true=>
     simp only[if_true]
     rw[if_pos (by omega),if_pos (by omega),if_pos (by omega),if_pos (by omega),if_pos (by simp; omega)]
     exact fin _ ⟨fun h=>⟨ho'.1 rfl,h⟩,fun h=>h.2⟩
    | false=>
     simp only[Bool.false_eq_true,if_false]
     rw[if_pos (by omega),if_pos (by omega),if_pos (by simp; omega)]
     exact fin false ⟨fun h=>(by cases h),fun h=>absurd (ho'.2 h.1) (by decide)⟩
 ·rw[List.getD_eq_getElem?_getD,List.getElem?_replicate]at h
  split at h <;> cases h
end Go.PL
