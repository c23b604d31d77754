/-
  Parts: From the reading of arguments to plain data; the frame of a law's row. Own work. What reads as data of the argument types reads as plain data of ours. Printed by a program of our own. The kept part of a plain-law text (strip.py). Own work. The kept part of a plain-law text (strip.py). Own work. The kept part of a plain-law text (strip.py). Own work. The kept part of a plain-law text (strip.py). Own work. The kept part of a plain-law text (strip.py). Own work. The kept part of a plain-law text (strip.py). Own work. Plain facts: numerals are read as they were written. Own work. The kept part of a plain-law text (strip.py). Own work. Plain law: what was written is read. Own work. Plain law of patterns: the rows of each key. Own work. Plain law of patterns: places, states, matches. Own work. Plain law of expressions: what is handed in is bounded. Own work. Plain law of expressions: a typed expression has a value at every row. Own work. Plain law of patterns: the matches of the rows of one key. Own work. Plain law of patterns: what a push yields. Own work. Plain law of patterns: closing, and what is kept. Own work. The kept part of a plain-law text (strip.py). Own work. The kept part of a plain-law text (strip.py). Own work. The kept part of a plain-law text (strip.py). Own work. Plain law of patterns: what is small, right and fits. Own work. Plain law of expressions: the value of a typed expression has its type. Own work. Plain law of expressions: what is accepted as typed is typed. Own work. Plain law of patterns: acts that fit. Own work. Plain law of patterns: what an operator yields and keeps, by the sum of what it got. Own work. Plain law: lists of deltas are read as they were written. Own work. Plain law of patterns: the second operator's copies compute the same. Own work. Plain law: an operator is read as it was. Own work. Plain law of patterns: the examples. Own work. Plain law of patterns: the examples come out. Own work.
-/
import Derived.Test.YtjefblkdnolgaaaGreatDoorMg
import Derived.Test.YtjefblkdnolgaaaGreatDoorRows
import Derived.JoinedCond
import Derived.ProofKit
import Derived.OpenShut
import Derived.Carry
import Derived.DataReads
import Derived.ChangeAnyMap
import Derived.Lib.AtoiAll
import Derived.Lib.Bytealg
import Derived.KernelRfl
namespace Go.PL
open Go Go.RowKit
open Go.Proofs.YtjefblkdnolgaaaGreatDoor.Rows (uptoBulk uptoBulkAll)
def RdL(F:Nat→Prop)(W:World)(l:List T)(cs:List Value):Prop:=cs.length=l.length∧∀ (j:Nat) x v,l[j]? = some x→cs[j]? = some v→Rd F W x v
theorem RdL.append{F:Nat→Prop}{W:World}{l l':List T}{cs cs':List Value}(h:RdL F W l cs)(h':RdL F W l' cs'):RdL F W (l++l') (cs++cs'):=by
 refine⟨by simp[h.1,h'.1],fun j x v hx hv=>?_⟩
 by_cases hj:j<l.length
 ·rw[List.getElem?_append_left hj]at hx
  rw[List.getElem?_append_left (by rw[h.1]; exact hj)]at hv
  exact h.2 j x v hx hv
 ·rw[List.getElem?_append_right (by omega)]at hx
  rw[List.getElem?_append_right (by rw[h.1]; omega),h.1]at hv
  exact h'.2 _ x v hx hv
def inI64(n:Int):Prop:=-9223372036854775808≤n∧n≤9223372036854775807
section
variable {H:Type} {enc:TypeId×Value→H} {P:Program} {W:World}
def Opens(enc:TypeId×Value→H)(P:Program)(W:World)(t:TypeId){X:Type}(c:X→List T)(ok:X→Prop)(fuel:Nat):Prop:=
 ∀ cs d ps,DataW.trod enc P W 0 (fun _=>true) true fuel t cs=some (d,ps)→uptoBulk d≤1048576→∃ x,RdL (fun b=>b<W.heap.size) W (c x) cs∧ok x
theorem opens_zero{t:TypeId}{X:Type}{c:X→List T}{ok:X→Prop}:Opens enc P W t c ok 0:=fun cs d ps h=>by simp[DataW.trod]at h
theorem RdL.one{F:Nat→Prop}{W:World}{x:T}{v:Value}(h:Rd F W x v):RdL F W [x] [v]:=by
 refine⟨rfl,fun j y u hy hu=>?_⟩
 cases j with
 | zero=>simp at hy hu; subst hy; subst hu; exact h
 | succ j=>simp at hy
theorem opens_int{t:TypeId}(ht:P.underlying t=some (.int .i64))(fuel:Nat):Opens enc P W t cInt inI64 fuel:=by
 cases fuel with
 | zero=>exact opens_zero
 | succ fuel=>
  intro cs d ps h _
  unfold DataW.trod at h
  rw[ht]at h
  split at h <;> try (simp_all; done)
  rename_i k k' n hk
  split at h
  ·rename_i hk2
   cases hk
   obtain⟨rfl,hwf⟩:=hk2
   refine⟨n,RdL.one (.int _ _),?_⟩
   simp[Lit.wf,IntKind.min,IntKind.max,IntKind.signed,IntKind.bits]at hwf
   exact⟨by omega,by omega⟩
  ·cases h
def okStr(s:ByteArray):Prop:=s.size≤1048576
theorem opens_string{t:TypeId}(ht:P.underlying t=some .string)(fuel:Nat):Opens enc P W t cStr okStr fuel:=by
 cases fuel with
 | zero=>exact opens_zero
 | succ fuel=>
  intro cs d ps h hw
  unfold DataW.trod at h
  rw[ht]at h
  split at h <;> try (simp_all; done)
  rename_i s hk
  split at h
  ·cases h
   refine⟨s,RdL.one (.str _),?_⟩
   have:s.data.toList.length+1≤1048576:=hw
   have:s.size=s.data.toList.length:=rfl
   unfold okStr
   omega
  ·cases h
theorem mapM_get{α β:Type}{f:α→Option β}:∀ {l:List α} {r:List β},l.mapM f=some r→r.length=l.length∧∀ (i:Nat) a b,l[i]? = some a→r[i]? = some b→f a=some b
 | [],r,h=>by simp at h; subst h; simp
 | x::l,r,h=>by
  rw[List.mapM_cons]at h
  simp only[Option.bind_eq_bind,Option.bind_eq_some_iff]at h
  obtain⟨y,hy,ys,hys,hr⟩:=h
  simp at hr; subst hr
  obtain⟨h1,h2⟩:=mapM_get hys
  refine⟨by simp[h1],fun i a b ha hb=>?_⟩
  cases i with
  | zero=>simp at ha hb; subst ha; subst hb; exact hy
  | succ i=>exact h2 i a b (by simpa using ha) (by simpa using hb)
theorem uptoBulk_pos:∀ d:DataW H,1≤uptoBulk d
 | .lit l=>by unfold uptoBulk; split <;> omega
 | .nil=>by simp[uptoBulk]
 | .ptr d=>by simp[uptoBulk]
 | .slice e s=>by simp[uptoBulk]
 | .agg p=>by simp[uptoBulk]
 | .iface t d=>by simp[uptoBulk]
 | .map e=>by simp[uptoBulk]
 | .held h=>by simp[uptoBulk]
theorem bulkAll_len:∀ l:List (DataW H),l.length≤uptoBulkAll l
 | []=>by simp
 | d::l=>by simp only[uptoBulkAll,List.length_cons]; have:=uptoBulk_pos d; have:=bulkAll_len l; omega
theorem bulkAll_mem:∀ {l:List (DataW H)} {d:DataW H},d∈l→uptoBulk d≤uptoBulkAll l
 | x::l,d,h=>by
  simp only[uptoBulkAll]
  rcases List.mem_cons.1 h with rfl | h
  ·omega
  ·have:=bulkAll_mem h; omega
def okL{X:Type}(_b:Nat)(ok:X→Prop)(xs:List X):Prop:=xs.length≤1048576∧∀ x,x∈xs→ok x
theorem opens_slice{t e b:Nat}(ht:P.underlying t=some (.slice e))(hn:Nat.blt 0 (P.cellsOf e)=true)(hb:P.bytesOf e=b){X:Type}[Inhabited X]{c:X→List T}{ok:X→Prop}{fuel:Nat}(he:Opens enc P W e c ok fuel)(mk:List X→T)
  (hmk:∀ xs,(mk xs).view=some (xs.length,fun i=>c (xs.getD i default))):Opens enc P W t (fun xs=>[mk xs]) (okL b ok) (fuel+1):=by
 have hz:0<P.cellsOf e:=by simpa[Nat.blt_eq] using hn
 clear hn
 subst hb
 intro cs d ps h hw
 unfold DataW.trod at h
 rw[ht]at h
 split at h <;> try (simp_all; done)
 ·
  rename_i hk
  cases hk
  refine⟨[],RdL.one (.nil (hmk [])),by simp,by simp⟩
 ·rename_i e' a len cap hk
  cases hk
  simp only at h
  split at h
  ·rename_i hcap
   simp only[Option.bind_eq_some_iff,Option.map_eq_some_iff]at h
   obtain⟨elems,hel,rest,hrest,hd⟩:=h
   simp only[Prod.mk.injEq]at hd
   obtain⟨rfl,rfl⟩:=hd
   obtain⟨hlen,hget⟩:=mapM_get hel
   simp only[List.length_range]at hlen
   have hwt:uptoBulkAll (elems.map (·.1))≤1048576:=by
    have hw2:uptoBulkAll (elems.map (·.1))+uptoBulkAll (rest.map (·.1))+1≤1048576:=hw
    omega
   have hl:len≤1048576:=by
    have:=bulkAll_len (elems.map (·.1))
    simp only[List.length_map,hlen]at this
    omega
   have each:∀ i,i<len→∃ x vs,W.cells? 0 (a.add (i*P.cellsOf e)) (P.cellsOf e)=some vs∧RdL (fun b=>b<W.heap.size) W (c x) vs∧ok x:=by
    intro i hi
    have hi':i<elems.length:=by omega
    have:=hget i i elems[i] (by simp[hi]) (by simp[hi'])
    simp only[Option.bind_eq_some_iff]at this
    obtain⟨vs,hvs,htr⟩:=this
    obtain⟨x,h1,h2⟩:=he vs elems[i].1 elems[i].2 htr (Nat.le_trans (bulkAll_mem (List.mem_map_of_mem (List.getElem_mem hi'))) hwt)
    exact⟨x,vs,hvs,h1,h2⟩
   have all:∃ xs:List X,xs.length=len∧∀ i,i<len→∃ vs,W.cells? 0 (a.add (i*P.cellsOf e)) (P.cellsOf e)=some vs∧RdL (fun b=>b<W.heap.size) W (c (xs.getD i default)) vs∧ok (xs.getD i default):=by
    clear hel hrest hget hw hwt hl hlen hcap
    induction len with
    | zero=>exact⟨[],rfl,fun i hi=>absurd hi (Nat.not_lt_zero _)⟩
    | succ len ih=>
     obtain⟨xs,h1,h2⟩:=ih fun i hi=>each i (by omega)
     obtain⟨x,vs,h3,h4,h5⟩:=each len (by omega)
     refine⟨xs++[x],by simp[h1],fun i hi=>?_⟩
     by_cases hil:i<len
     ·have:(xs++[x]).getD i default=xs.getD i default:=by simp[List.getD_eq_getElem?_getD,List.getElem?_append_left (show i<xs.length by omega)]
      rw[this]; exact h2 i hil
     ·have hil:i=len:=by omega
      subst hil
      have:(xs++[x]).getD i default=x:=by simp[List.getD_eq_getElem?_getD,←h1]
      rw[this]; exact⟨vs,h3,h4,h5⟩
   obtain⟨xs,hxl,hxs⟩:=all
   refine⟨xs,RdL.one ?_,by rw[hxl]; exact hl,fun x hx=>?_⟩
   ·have hsz:∀ i,i<len→(c (xs.getD i default)).length=P.cellsOf e:=by
     intro i hi
     obtain⟨vs,h1,h2,_⟩:=hxs i hi
     rw[←h2.1]
     unfold World.cells? at h1
     rw[if_pos (Nat.zero_le _)]at h1
     have:=(mapM_get h1).1; simpa using this
    have hcell:∀ i j,i<len→j<P.cellsOf e→∃ u,W.cell? (a.add (i*P.cellsOf e+j))=some u∧∀ x,(c (xs.getD i default))[j]? = some x→Rd (fun b=>b<W.heap.size) W x u:=by
     intro i j hi hj
     obtain⟨vs,h1,h2,_⟩:=hxs i hi
     unfold World.cells? at h1
     rw[if_pos (Nat.zero_le _)]at h1
     obtain⟨h3,h4⟩:=mapM_get h1
     simp only[List.length_range]at h3
     have:=h4 j j vs[j] (by simp[hj]) (by simp[h3,hj])
     rw[Addr.add_add]at this
     exact⟨vs[j],this,fun x hx=>h2.2 j x vs[j] hx (by simp[h3,hj])⟩
    let vsf:Nat→Nat→Value:=fun i j=>(W.cell? (a.add (i*P.cellsOf e+j))).getD undef
    refine .sl a cap (P.cellsOf e) vsf (n:=len) (f:=fun i=>c (xs.getD i default)) (by rw[hmk,hxl]) hcap.2.1 (fun hn=>?_) hsz (fun i j hi hj=>?_) (fun i j x hi hx=>?_)
    ·obtain⟨u,hu,_⟩:=hcell 0 0 hn hz
     have hb:=World.block_lt_of_cell? W _ hu
     have:(a.add (0*P.cellsOf e+0)).block=a.block:=by unfold Addr.add; split <;> rfl
     rw[this]at hb
     exact hb
    ·obtain⟨u,hu,_⟩:=hcell i j hi hj
     simp[vsf,hu]
    ·have hj:j<P.cellsOf e:=by rw[←hsz i hi]; exact(List.getElem?_eq_some_iff.1 hx).1
     obtain⟨u,hu,hr⟩:=hcell i j hi hj
     simp only[vsf,hu,Option.getD_some]
     exact hr x hx
   ·obtain⟨i,hi,rfl⟩:=List.getElem_of_mem hx
    obtain⟨_,_,_,h⟩:=hxs i (by omega)
    simpa[List.getD_eq_getElem?_getD,hi] using h
  ·cases h
def OpensF(enc:TypeId×Value→H)(P:Program)(W:World)(off:Nat)(fs:List Field){X:Type}(c:X→List T)(ok:X→Prop)(fuel:Nat):Prop:=
 ∀ (cs:List Value) xs,fs.mapM (fun f=>DataW.trod enc P W 0 (fun _=>true) true fuel f.type ((cs.drop f.offset).take (P.cellsOf f.type)))=some xs →
  uptoBulkAll (xs.map (·.1))≤1048576→cs.length=off+(fs.map fun f=>P.cellsOf f.type).sum→∃ x,RdL (fun b=>b<W.heap.size) W (c x) (cs.drop off)∧ok x
theorem opensF_nil{off fuel:Nat}:OpensF enc P W off [] (fun (_:Unit)=>[]) (fun _=>True) fuel:=by
 intro cs xs _ _ hl
 simp at hl
 exact⟨(),⟨by simp[hl],by simp⟩,trivial⟩
theorem opensF_cons{off fuel:Nat}{f:Field}{fs:List Field}{X Y:Type}{c:X→List T}{c':Y→List T}{ok:X→Prop}{ok':Y→Prop}(ho:f.offset=off)(h:Opens enc P W f.type c ok fuel)
  (h':OpensF enc P W (off+P.cellsOf f.type) fs c' ok' fuel):OpensF enc P W off (f::fs) (fun (x:X×Y)=>c x.1++c' x.2) (fun x=>ok x.1∧ok' x.2) fuel:=by
 intro cs xs hx hw hl
 rw[List.mapM_cons]at hx
 simp only[Option.bind_eq_bind,Option.bind_eq_some_iff]at hx
 obtain⟨y,hy,ys,hys,hr⟩:=hx
 simp at hr; subst hr
 simp only[List.map_cons,uptoBulkAll]at hw
 obtain⟨x,h1,h2⟩:=h _ _ _ hy (by omega)
 simp only[List.map_cons,List.sum_cons]at hl
 obtain⟨x',h3,h4⟩:=h' cs ys hys (by omega) (by omega)
 refine⟨(x,x'),?_,h2,h4⟩
 have:cs.drop off=(cs.drop f.offset).take (P.cellsOf f.type)++cs.drop (off+P.cellsOf f.type):=by
  rw[ho,←List.drop_drop,List.take_append_drop]
 rw[this]
 exact h1.append h3
theorem opens_struct{t:TypeId}{fs:Array Field}(ht:P.underlying t=some (.struct fs)){X:Type}{c:X→List T}{ok:X→Prop}{fuel:Nat}(h:OpensF enc P W 0 fs.toList c ok fuel)
  (hs:P.cellsOf t=(fs.toList.map fun f=>P.cellsOf f.type).sum):Opens enc P W t c ok (fuel+1):=by
 intro cs d ps hd hw
 unfold DataW.trod at hd
 rw[ht]at hd
 split at hd <;> try (simp_all; done)
 rename_i cs0 _ _ fs' hk
 cases hk
 split at hd
 ·rename_i hl
  simp only[Option.map_eq_some_iff]at hd
  obtain⟨xs,hxs,hd⟩:=hd
  simp only[Prod.mk.injEq]at hd
  obtain⟨rfl,_⟩:=hd
  have hw2:uptoBulkAll (xs.map (·.1))+1≤1048576:=hw
  have:=h _ xs hxs (by omega) (by rw[hl,hs]; simp)
  simpa using this
 ·cases hd
theorem Opens.map{t:TypeId}{X Y:Type}{c:X→List T}{ok:X→Prop}{c':Y→List T}{ok':Y→Prop}{fuel:Nat}(h:Opens enc P W t c ok fuel)(g:X→Y)(hc:∀ x,c' (g x)=c x)(ho:∀ x,ok x→ok' (g x)):
  Opens enc P W t c' ok' fuel:=by
 intro cs d ps hd hw
 obtain⟨x,h1,h2⟩:=h cs d ps hd hw
 exact⟨g x,by rw[hc]; exact h1,ho x h2⟩
end
theorem RdL.agg{F:Nat→Prop}{W:World}{l:List T}{v:Value}(h:RdL F W l v.cells.toList)(hv:∃ vs,v = .agg vs):Rd F W (.agg l) v:=by
 obtain⟨vs,rfl⟩:=hv
 simp only[Value.cells]at h
 exact .agg (by simpa using h.1) fun j x v hx hv=>h.2 j x v hx (by simpa using hv)
section
variable {H:Type} {enc:TypeId×Value→H} {P:Program} {W:World} {r:Reach} {base:Nat}
theorem arg_struct{t:TypeId}{fs:Array Field}(ht:P.underlying t=some (.struct fs)){X:Type}{c:X→List T}{ok:X→Prop}(hO:∀ fuel,Opens enc P W t c ok fuel){v:Value}{d:DataW H}{ps:List MemPlace}
  (hv:Value.okWide P W r base t v)(h:DataW.Trod enc P W 0 (fun _=>true) true t v d ps)(hw:uptoBulk d≤1048576):∃ x,Rd (fun b=>b<W.heap.size) W (.agg (c x)) v∧ok x:=by
 obtain⟨cs,rfl,_⟩:=Go.WideShapes.okWide_struct ht hv
 obtain⟨fuel,hf⟩:=h
 obtain⟨x,h1,h2⟩:=hO fuel _ _ _ hf hw
 exact⟨x,h1.agg ⟨cs,rfl⟩,h2⟩
theorem arg_one{t:TypeId}{X:Type}{c:X→T}{ok:X→Prop}(hO:∀ fuel,Opens enc P W t (fun x=>[c x]) ok fuel){v:Value}{d:DataW H}{ps:List MemPlace}
  (hv:v.cells=#[v])(h:DataW.Trod enc P W 0 (fun _=>true) true t v d ps)(hw:uptoBulk d≤1048576):∃ x,Rd (fun b=>b<W.heap.size) W (c x) v∧ok x:=by
 obtain⟨fuel,hf⟩:=h
 obtain⟨x,h1,h2⟩:=hO fuel _ _ _ hf hw
 exact⟨x,h1.2 0 _ _ (by simp) (by simp[hv]),h2⟩
theorem arg_int{t:TypeId}(ht:P.underlying t=some (.int .i64)){v:Value}{d:DataW H}{ps:List MemPlace}
  (hv:Value.okWide P W r base t v)(h:DataW.Trod enc P W 0 (fun _=>true) true t v d ps)(hw:uptoBulk d≤1048576):∃ x,Rd (fun b=>b<W.heap.size) W (.int .i64 x) v∧inI64 x:=by
 obtain⟨n,rfl⟩:=Go.WideShapes.okWide_int ht hv
 exact arg_one (c:=fun x=>.int .i64 x) (opens_int ht) rfl h hw
theorem arg_slice{t e:TypeId}(ht:P.underlying t=some (.slice e)){X:Type}{c:X→T}{ok:X→Prop}(hO:∀ fuel,Opens enc P W t (fun x=>[c x]) ok fuel){v:Value}{d:DataW H}{ps:List MemPlace}
  (hv:Value.okWide P W r base t v)(h:DataW.Trod enc P W 0 (fun _=>true) true t v d ps)(hw:uptoBulk d≤1048576):∃ x,Rd (fun b=>b<W.heap.size) W (c x) v∧ok x:=by
 obtain⟨a,l,q,rfl⟩:=Go.WideShapes.okWide_slice ht hv
 exact arg_one hO rfl h hw
end
theorem kept_of_below{W W':World}(h:Below W.heap.size W W')(may:MemPlace→Prop):W.keptBut W' may:=by
 refine⟨h.os,h.output,fun i hi=>?_⟩
 rw[h.block i hi]
 cases W.heap[i]? with
 | none=>trivial
 | some o=>cases o <;> simp
section
variable {H:Type} {enc:TypeId×Value→H} {P:Program}
theorem trodAll_below(hl:laidOutB P=true){W W':World}(hb:Below W.heap.size W W'):∀ {ts:List TypeId} {vs:List Value} {ds:List (DataW H)} {ps:List MemPlace},
  (∀ t,t∈ts→P.readableRec t=true∧t<P.types.size)→DataW.TrodAll enc P W 0 (fun _=>true) true ts vs ds ps→(∀ x,x∈ps→x.block<W.heap.size) →
  DataW.TrodAll enc P W' 0 (fun b=>decide (b<W.heap.size)) true ts vs ds ps
 | [],[],[],ps,_,h,_=>h
 | t::ts,v::vs,d::ds,ps,hr,h,hp=>by
  obtain⟨p,q,h1,h2,rfl⟩:=h
  obtain⟨r1,r2⟩:=hr t (by simp)
  exact⟨p,q,Go.RowKit.Below.trod hl r1 r2 h1 hb (fun x hx=>hp x (List.mem_append_left _ hx)),trodAll_below hl hb (fun t ht=>hr t (List.mem_cons_of_mem _ ht)) h2 (fun x hx=>hp x (List.mem_append_right _ hx)),rfl⟩
 | [],_::_,_,_,_,h,_=>by simp[DataW.TrodAll]at h
 | [],[],_::_,_,_,h,_=>by simp[DataW.TrodAll]at h
 | _::_,[],_,_,_,h,_=>by simp[DataW.TrodAll]at h
 | _::_,_::_,[],_,_,h,_=>by simp[DataW.TrodAll]at h
theorem law_post(hlay:laidOutB P=true){f:Func}{s:ChangeSpec}{W W':World}{args:Array Value}{ds gs:List (DataW H)}{before:List MemPlace}{tb:TypeId}(hvars:s.vars=[])
  (hW:DataW.Whole enc P f.params.toList s.vars false W args.toList ds gs before)(hb:Below W.heap.size W W')(hres:f.resultTypes=#[tb])(htb:P.underlying tb=some .bool)
  (hread:∀ t,t∈f.params.toList→P.readableRec t=true∧t<P.types.size)(hfn:s.fn H (ds++gs)={ results:=[.lit (.bool true)],args:=ds }):
  s.post enc P f false true false false W args (.bool true) W':=by
 have hW':=hW
 obtain⟨p,q,hA,hV,rfl,_⟩:=hW
 rw[hvars]at hV
 cases gs with
 | cons g gs=>simp[DataW.TrodVars]at hV
 | nil=>
  simp only[DataW.TrodVars]at hV
  subst hV
  have hlt:∀ x,x∈p→x.block<W.heap.size:=fun x hx=>by simpa using hW'.lt x (by simp[hx])
  refine⟨ds,[],p++[],[],p,[],hW',?_,?_,?_,kept_of_below hb _,fun h=>by cases h⟩
  ·rw[hfn,hres]
   exact⟨[],[],⟨1,by simp[DataW.trod,htb,Value.cells]⟩,rfl,rfl⟩
  ·rw[hfn]
   exact trodAll_below hlay hb hread hA hlt
  ·rw[hvars,hfn]; exact rfl
theorem PCall.law{P:Program}{k:FuncId}{args:List PV}(h:PCall P k args [] [] (Ret (.t (.bool true)))){W:World}{vs:Array Value}(hs:vs.size=args.length)
  (hv:∀ (j:Nat) x v,args[j]? = some x→vs[j]? = some v→VR (fun b=>b<W.heap.size) (fun _=>undef) W x v)(hg:GLP P (fun b=>b<W.heap.size) W):
  Calls P k vs W fun e W'=>e = .returned (.bool true)∧Below W.heap.size W W':=by
 refine(h (fun b=>b<W.heap.size) (fun _=>undef) W vs hs hv ⟨by simp,by simp,by simp⟩ (fun _ h=>h) hg).mono ?_
 rintro e w' ⟨v,r,H',F',g',rfl,hr,hvr,hW⟩
 unfold Ret at hr
 subst hr
 have:=hvr.inv_bool
 subst this
 exact⟨rfl,⟨hW.ext.os,hW.ext.tape,hW.ext.output,hW.ext.size,fun b hb=>hW.ext.block b hb (by rintro⟨o,x,hx,_⟩; simp at hx)⟩⟩
end
set_option maxRecDepth 20000
theorem o23{H:Type}{enc:TypeId×Value→H}{W:World}(fuel:Nat):Opens enc Proofs.Tryz.prog W 23 (fun xs=>[eL cInt (xs)]) (okL 8 inI64) fuel:=by
 cases fuel with
 | zero=>exact opens_zero
 | succ fuel=>exact opens_slice Proofs.Tryz.underlying23 (by kernel_rfl) (by kernel_rfl) (opens_int Proofs.Tryz.underlying3 fuel) (fun xs=>eL cInt (xs)) (fun _=>rfl)
inductive okExpr:Expr→Prop
 | mk0 {a b:Int} {s:ByteArray} {l:List Expr} (ha:inI64 a) (hb:inI64 b) (hs:okStr s) (hn:l.length≤1048576) (hl:∀ x,x∈l→okExpr x):okExpr (.mk a b s l)
theorem okExpr.mk{a b:Int}{s:ByteArray}{l:List Expr}(ha:inI64 a)(hb:inI64 b)(hs:okStr s)(hl:okL 56 okExpr l):okExpr (.mk a b s l):=.mk0 ha hb hs hl.1 hl.2
theorem oExpr{H:Type}{enc:TypeId×Value→H}{W:World}:∀ fuel,Opens enc Proofs.Tryz.prog W 90 exprCells okExpr fuel∧Opens enc Proofs.Tryz.prog W 24 (fun xs=>[.lz (.exprs xs)]) (okL 56 okExpr) fuel
 | 0=>⟨opens_zero,opens_zero⟩
 | fuel+1=>by
  have ih:=oExpr (enc:=enc) (W:=W) fuel
  exact⟨(opens_struct Proofs.Tryz.underlying90 (opensF_cons (by kernel_rfl) (opens_int Proofs.Tryz.underlying3 fuel) (opensF_cons (by kernel_rfl) (opens_int Proofs.Tryz.underlying3 fuel) (opensF_cons (by kernel_rfl) (opens_string Proofs.Tryz.underlying9 fuel) (opensF_cons (by kernel_rfl) ih.2 opensF_nil)))) (by kernel_rfl)).map (fun x=>Expr.mk x.1 x.2.1 x.2.2.1 x.2.2.2.1) (fun _=>rfl) (fun x h=>.mk h.1 h.2.1 h.2.2.1 h.2.2.2.1),opens_slice Proofs.Tryz.underlying24 (by kernel_rfl) (by kernel_rfl) ih.1 (fun xs=>.lz (.exprs xs)) (fun _=>rfl)⟩
def okGAgg(x:GAgg):Prop:=inI64 x.Kind∧inI64 x.Col∧okStr x.Name
theorem o122{H:Type}{enc:TypeId×Value→H}{W:World}(fuel:Nat):Opens enc Proofs.Tryz.prog W 122 cGAgg okGAgg fuel:=by
 cases fuel with
 | zero=>exact opens_zero
 | succ fuel=>exact(opens_struct Proofs.Tryz.underlying122 (opensF_cons (by kernel_rfl) (opens_int Proofs.Tryz.underlying3 fuel) (opensF_cons (by kernel_rfl) (opens_int Proofs.Tryz.underlying3 fuel) (opensF_cons (by kernel_rfl) (opens_string Proofs.Tryz.underlying9 fuel) opensF_nil))) (by kernel_rfl)).map (fun x=>GAgg.mk x.1 x.2.1 x.2.2.1) (fun _=>rfl) (fun x h=>⟨h.1,h.2.1,h.2.2.1⟩)
theorem o25{H:Type}{enc:TypeId×Value→H}{W:World}(fuel:Nat):Opens enc Proofs.Tryz.prog W 25 (fun xs=>[eL cGAgg (xs)]) (okL 32 okGAgg) fuel:=by
 cases fuel with
 | zero=>exact opens_zero
 | succ fuel=>exact opens_slice Proofs.Tryz.underlying25 (by kernel_rfl) (by kernel_rfl) (o122 fuel) (fun xs=>eL cGAgg (xs)) (fun _=>rfl)
def okGPat(x:GPat):Prop:=okExpr x.Pred∧inI64 x.Rep
theorem o93{H:Type}{enc:TypeId×Value→H}{W:World}(fuel:Nat):Opens enc Proofs.Tryz.prog W 93 cGPat okGPat fuel:=by
 cases fuel with
 | zero=>exact opens_zero
 | succ fuel=>exact(opens_struct Proofs.Tryz.underlying93 (opensF_cons (by kernel_rfl) (oExpr fuel).1 (opensF_cons (by kernel_rfl) (opens_int Proofs.Tryz.underlying3 fuel) opensF_nil)) (by kernel_rfl)).map (fun x=>GPat.mk x.1 x.2.1) (fun _=>rfl) (fun x h=>⟨h.1,h.2.1⟩)
theorem o26{H:Type}{enc:TypeId×Value→H}{W:World}(fuel:Nat):Opens enc Proofs.Tryz.prog W 26 (fun xs=>[eL cGPat (xs)]) (okL 64 okGPat) fuel:=by
 cases fuel with
 | zero=>exact opens_zero
 | succ fuel=>exact opens_slice Proofs.Tryz.underlying26 (by kernel_rfl) (by kernel_rfl) (o93 fuel) (fun xs=>eL cGPat (xs)) (fun _=>rfl)
def okGCol(x:GCol):Prop:=okStr x.Name∧inI64 x.Type_∧okStr x.Unit
theorem o354{H:Type}{enc:TypeId×Value→H}{W:World}(fuel:Nat):Opens enc Proofs.Tryz.prog W 354 cGCol okGCol fuel:=by
 cases fuel with
 | zero=>exact opens_zero
 | succ fuel=>exact(opens_struct Proofs.Tryz.underlying354 (opensF_cons (by kernel_rfl) (opens_string Proofs.Tryz.underlying9 fuel) (opensF_cons (by kernel_rfl) (opens_int Proofs.Tryz.underlying3 fuel) (opensF_cons (by kernel_rfl) (opens_string Proofs.Tryz.underlying9 fuel) opensF_nil))) (by kernel_rfl)).map (fun x=>GCol.mk x.1 x.2.1 x.2.2.1) (fun _=>rfl) (fun x h=>⟨h.1,h.2.1,h.2.2.1⟩)
theorem o27{H:Type}{enc:TypeId×Value→H}{W:World}(fuel:Nat):Opens enc Proofs.Tryz.prog W 27 (fun xs=>[eL cGCol (xs)]) (okL 40 okGCol) fuel:=by
 cases fuel with
 | zero=>exact opens_zero
 | succ fuel=>exact opens_slice Proofs.Tryz.underlying27 (by kernel_rfl) (by kernel_rfl) (o354 fuel) (fun xs=>eL cGCol (xs)) (fun _=>rfl)
def okGNode(x:GNode):Prop:=inI64 x.Op∧okL 8 inI64 x.In∧okStr x.Source∧inI64 x.Schema∧okL 56 okExpr x.Exprs∧inI64 x.Kind∧inI64 x.Size∧inI64 x.Step∧okL 8 inI64 x.Key∧okL 8 inI64 x.Key2∧inI64 x.Before∧inI64 x.After∧inI64 x.Keep∧okL 32 okGAgg x.Aggs∧okL 64 okGPat x.Seq∧okL 40 okGCol x.Cols
theorem o29{H:Type}{enc:TypeId×Value→H}{W:World}(fuel:Nat):Opens enc Proofs.Tryz.prog W 29 cGNode okGNode fuel:=by
 cases fuel with
 | zero=>exact opens_zero
 | succ fuel=>exact(opens_struct Proofs.Tryz.underlying29 (opensF_cons (by kernel_rfl) (opens_int Proofs.Tryz.underlying3 fuel) (opensF_cons (by kernel_rfl) (o23 fuel) (opensF_cons (by kernel_rfl) (opens_string Proofs.Tryz.underlying9 fuel) (opensF_cons (by kernel_rfl) (opens_int Proofs.Tryz.underlying3 fuel) (opensF_cons (by kernel_rfl) (oExpr fuel).2 (opensF_cons (by kernel_rfl) (opens_int Proofs.Tryz.underlying3 fuel) (opensF_cons (by kernel_rfl) (opens_int Proofs.Tryz.underlying3 fuel) (opensF_cons (by kernel_rfl) (opens_int Proofs.Tryz.underlying3 fuel) (opensF_cons (by kernel_rfl) (o23 fuel) (opensF_cons (by kernel_rfl) (o23 fuel) (opensF_cons (by kernel_rfl) (opens_int Proofs.Tryz.underlying3 fuel) (opensF_cons (by kernel_rfl) (opens_int Proofs.Tryz.underlying3 fuel) (opensF_cons (by kernel_rfl) (opens_int Proofs.Tryz.underlying3 fuel) (opensF_cons (by kernel_rfl) (o25 fuel) (opensF_cons (by kernel_rfl) (o26 fuel) (opensF_cons (by kernel_rfl) (o27 fuel) opensF_nil)))))))))))))))) (by kernel_rfl)).map (fun x=>GNode.mk x.1 x.2.1 x.2.2.1 x.2.2.2.1 x.2.2.2.2.1 x.2.2.2.2.2.1 x.2.2.2.2.2.2.1 x.2.2.2.2.2.2.2.1 x.2.2.2.2.2.2.2.2.1 x.2.2.2.2.2.2.2.2.2.1 x.2.2.2.2.2.2.2.2.2.2.1 x.2.2.2.2.2.2.2.2.2.2.2.1 x.2.2.2.2.2.2.2.2.2.2.2.2.1 x.2.2.2.2.2.2.2.2.2.2.2.2.2.1 x.2.2.2.2.2.2.2.2.2.2.2.2.2.2.1 x.2.2.2.2.2.2.2.2.2.2.2.2.2.2.2.1) (fun _=>rfl) (fun x h=>⟨h.1,h.2.1,h.2.2.1,h.2.2.2.1,h.2.2.2.2.1,h.2.2.2.2.2.1,h.2.2.2.2.2.2.1,h.2.2.2.2.2.2.2.1,h.2.2.2.2.2.2.2.2.1,h.2.2.2.2.2.2.2.2.2.1,h.2.2.2.2.2.2.2.2.2.2.1,h.2.2.2.2.2.2.2.2.2.2.2.1,h.2.2.2.2.2.2.2.2.2.2.2.2.1,h.2.2.2.2.2.2.2.2.2.2.2.2.2.1,h.2.2.2.2.2.2.2.2.2.2.2.2.2.2.1,h.2.2.2.2.2.2.2.2.2.2.2.2.2.2.2.1⟩)
def okGValue(x:GValue):Prop:=inI64 x.Kind∧inI64 x.N∧okStr x.S
theorem o67{H:Type}{enc:TypeId×Value→H}{W:World}(fuel:Nat):Opens enc Proofs.Tryz.prog W 67 cGValue okGValue fuel:=by
 cases fuel with
 | zero=>exact opens_zero
 | succ fuel=>exact(opens_struct Proofs.Tryz.underlying67 (opensF_cons (by kernel_rfl) (opens_int Proofs.Tryz.underlying3 fuel) (opensF_cons (by kernel_rfl) (opens_int Proofs.Tryz.underlying3 fuel) (opensF_cons (by kernel_rfl) (opens_string Proofs.Tryz.underlying9 fuel) opensF_nil))) (by kernel_rfl)).map (fun x=>GValue.mk x.1 x.2.1 x.2.2.1) (fun _=>rfl) (fun x h=>⟨h.1,h.2.1,h.2.2.1⟩)
theorem o48{H:Type}{enc:TypeId×Value→H}{W:World}(fuel:Nat):Opens enc Proofs.Tryz.prog W 48 (fun xs=>[eL cGValue (xs)]) (okL 32 okGValue) fuel:=by
 cases fuel with
 | zero=>exact opens_zero
 | succ fuel=>exact opens_slice Proofs.Tryz.underlying48 (by kernel_rfl) (by kernel_rfl) (o67 fuel) (fun xs=>eL cGValue (xs)) (fun _=>rfl)
def okGDelta(x:GDelta):Prop:=inI64 x.Time∧okL 32 okGValue x.Row∧inI64 x.N
theorem o50{H:Type}{enc:TypeId×Value→H}{W:World}(fuel:Nat):Opens enc Proofs.Tryz.prog W 50 cGDelta okGDelta fuel:=by
 cases fuel with
 | zero=>exact opens_zero
 | succ fuel=>exact(opens_struct Proofs.Tryz.underlying50 (opensF_cons (by kernel_rfl) (opens_int Proofs.Tryz.underlying3 fuel) (opensF_cons (by kernel_rfl) (o48 fuel) (opensF_cons (by kernel_rfl) (opens_int Proofs.Tryz.underlying3 fuel) opensF_nil))) (by kernel_rfl)).map (fun x=>GDelta.mk x.1 x.2.1 x.2.2.1) (fun _=>rfl) (fun x h=>⟨h.1,h.2.1,h.2.2.1⟩)
theorem o37{H:Type}{enc:TypeId×Value→H}{W:World}(fuel:Nat):Opens enc Proofs.Tryz.prog W 37 (fun xs=>[eL cGDelta (xs)]) (okL 40 okGDelta) fuel:=by
 cases fuel with
 | zero=>exact opens_zero
 | succ fuel=>exact opens_slice Proofs.Tryz.underlying37 (by kernel_rfl) (by kernel_rfl) (o50 fuel) (fun xs=>eL cGDelta (xs)) (fun _=>rfl)
def okGFunc(x:GFunc):Prop:=okStr x.Name∧okL 8 inI64 x.Params∧inI64 x.Result∧okExpr x.Body
theorem o150{H:Type}{enc:TypeId×Value→H}{W:World}(fuel:Nat):Opens enc Proofs.Tryz.prog W 150 cGFunc okGFunc fuel:=by
 cases fuel with
 | zero=>exact opens_zero
 | succ fuel=>exact(opens_struct Proofs.Tryz.underlying150 (opensF_cons (by kernel_rfl) (opens_string Proofs.Tryz.underlying9 fuel) (opensF_cons (by kernel_rfl) (o23 fuel) (opensF_cons (by kernel_rfl) (opens_int Proofs.Tryz.underlying3 fuel) (opensF_cons (by kernel_rfl) (oExpr fuel).1 opensF_nil)))) (by kernel_rfl)).map (fun x=>GFunc.mk x.1 x.2.1 x.2.2.1 x.2.2.2.1) (fun _=>rfl) (fun x h=>⟨h.1,h.2.1,h.2.2.1,h.2.2.2.1⟩)
theorem o22{H:Type}{enc:TypeId×Value→H}{W:World}(fuel:Nat):Opens enc Proofs.Tryz.prog W 22 (fun xs=>[eL cGFunc (xs)]) (okL 104 okGFunc) fuel:=by
 cases fuel with
 | zero=>exact opens_zero
 | succ fuel=>exact opens_slice Proofs.Tryz.underlying22 (by kernel_rfl) (by kernel_rfl) (o150 fuel) (fun xs=>eL cGFunc (xs)) (fun _=>rfl)
def okGAct_errataref31(x:GAct_errataref31):Prop:=inI64 x.Do∧inI64 x.C∧okL 40 okGDelta x.L
theorem o39{H:Type}{enc:TypeId×Value→H}{W:World}(fuel:Nat):Opens enc Proofs.Tryz.prog W 39 cGAct_errataref31 okGAct_errataref31 fuel:=by
 cases fuel with
 | zero=>exact opens_zero
 | succ fuel=>exact(opens_struct Proofs.Tryz.underlying39 (opensF_cons (by kernel_rfl) (opens_int Proofs.Tryz.underlying3 fuel) (opensF_cons (by kernel_rfl) (opens_int Proofs.Tryz.underlying3 fuel) (opensF_cons (by kernel_rfl) (o37 fuel) opensF_nil))) (by kernel_rfl)).map (fun x=>GAct_errataref31.mk x.1 x.2.1 x.2.2.1) (fun _=>rfl) (fun x h=>⟨h.1,h.2.1,h.2.2.1⟩)
theorem o30{H:Type}{enc:TypeId×Value→H}{W:World}(fuel:Nat):Opens enc Proofs.Tryz.prog W 30 (fun xs=>[eL cGAct_errataref31 (xs)]) (okL 40 okGAct_errataref31) fuel:=by
 cases fuel with
 | zero=>exact opens_zero
 | succ fuel=>exact opens_slice Proofs.Tryz.underlying30 (by kernel_rfl) (by kernel_rfl) (o39 fuel) (fun xs=>eL cGAct_errataref31 (xs)) (fun _=>rfl)
end Go.PL
namespace Go.PL
open Go
set_option linter.unusedVariables false
set_option maxRecDepth 20000
theorem sq_count{S R:Type}{b:Bool}{bd:S→Option (S⊕R)}(idx:S→Int)(N:Nat)(hN:N≤1000000000000000)(I:S→Prop){Q:R→Prop}
  (h:∀ s (k:Nat),I s→idx s=k→k≤N→Sq b (bd s) (sel (fun s'=>idx s'=IntKind.i64.wrap ((k:Int)+1)∧k<N∧I s') Q)){s:S}(hs:I s)(h0:idx s=0):Sq b (whileM bd s) Q:=by
 refine Sq.while (fun s=>I s∧∃ k:Nat,idx s=k∧k≤N) (fun s=>N-(idx s).toNat) (fun s hs=>?_) ⟨hs,0,h0,by omega⟩
 obtain⟨hI,k,hk,hkN⟩:=hs
 refine(h s k hI hk hkN).imp fun z hz=>?_
 cases z with
 | inr r=>exact hz
 | inl s'=>
  obtain⟨q1,q2,q3⟩:=hz
  rw[wrap_inc (by omega)]at q1
  exact⟨⟨q3,k+1,q1,by omega⟩,by rw[q1,hk]; omega⟩
theorem okExpr.len{e:Expr}(h:okExpr e):e.Args.length≤1048576:=by cases h; assumption
theorem okExpr.arg{e:Expr}(h:okExpr e):∀ x,x∈e.Args→okExpr x:=by cases h; assumption
theorem sizeOf_arg{e x:Expr}(h:x∈e.Args):SizeOf.sizeOf x<SizeOf.sizeOf e:=by
 cases e with
 | mk a b s l=>
  have:=List.sizeOf_lt_of_mem h
  simp only[Expr.Args]at this
  simp only[Expr.mk.sizeOf_spec]
  omega
theorem G79_sp(e:Expr)(h:okExpr e):Sp (G79 e) (fun _=>True):=by
 refine fixF_sq (C:=fun (a:Expr) (x:Option Int)=>Con Proofs.Tryz.prog 129 [.t (eExpr a)] x (fun (y:Int)=>.t (.int .i64 (y)))) (fun a=>⟨callable_of Proofs.Tryz.func129 (by kernel_rfl),fun _ h=>nomatch h⟩) (fun rec a=>T79 rec a) (fun rec a=>T79_ok rec a)
  okExpr (fun e=>SizeOf.sizeOf e) (fun _ _=>True) (fun b f e he hrec=>?_) true e h
 have hl:=he.len
 unfold T79
 simp only[Tr.den,sq_bind]
 refine sq_count (fun s:Int×Int=>s.2) e.Args.length (by omega) (fun _=>True) (fun s k _ hk hkN=>?_) trivial rfl
 obtain⟨v1,v2⟩:=s
 simp only at hk
 subst hk
 unfold T79_L0
 simp only[Tr.den,Int.toNat_natCast]
 by_cases hc:k<e.Args.length
 ·rw[if_pos (decT (by omega)),if_pos (by omega)]
  refine Sq.bind _ (hrec _ (he.arg _ (getD_mem hc)) (sizeOf_arg (getD_mem hc))) fun r _=>sq_some.2 ⟨rfl,hc,trivial⟩
 ·rw[if_neg (decF (by omega))]
  exact sq_some.2 (sq_some.2 trivial)
theorem G80_sp(e:Expr)(h:okExpr e):Sp (G80 e) (fun _=>True):=by
 refine fixF_sq (C:=fun (a:Expr) (x:Option Int)=>Con Proofs.Tryz.prog 130 [.t (eExpr a)] x (fun (y:Int)=>.t (.int .i64 (y)))) (fun a=>⟨callable_of Proofs.Tryz.func130 (by kernel_rfl),fun _ h=>nomatch h⟩) (fun rec a=>T80 rec a) (fun rec a=>T80_ok rec a)
  okExpr (fun e=>SizeOf.sizeOf e) (fun _ _=>True) (fun b f e he hrec=>?_) true e h
 have hl:=he.len
 unfold T80
 simp only[Tr.den,sq_bind]
 refine sq_count (fun s:Int×Int=>s.2) e.Args.length (by omega) (fun _=>True) (fun s k _ hk hkN=>?_) trivial rfl
 obtain⟨v1,v2⟩:=s
 simp only at hk
 subst hk
 unfold T80_L0
 simp only[Tr.den,Int.toNat_natCast]
 by_cases hc:k<e.Args.length
 ·rw[if_pos (decT (by omega)),if_pos (by omega)]
  refine Sq.bind _ (hrec _ (he.arg _ (getD_mem hc)) (sizeOf_arg (getD_mem hc))) fun r _=>sq_some.2 ⟨rfl,hc,trivial⟩
 ·rw[if_neg (decF (by omega))]
  exact sq_some.2 (sq_some.2 trivial)
theorem G150_sp(fs:List Int)(e:Expr)(hf:fs.length≤1100000)(h:okExpr e):Sp (G150 fs e) (fun _=>True):=by
 refine fixF_sq (C:=fun (a:(List Int)×Expr) (x:Option Int)=>Con Proofs.Tryz.prog 211 [.t (eL cInt (a.1)),.t (eExpr a.2)] x (fun (y:Int)=>.t (.int .i64 (y)))) (fun a=>⟨callable_of Proofs.Tryz.func211 (by kernel_rfl),fun _ h=>nomatch h⟩) (fun rec a=>T150 rec a.1 a.2) (fun rec a=>T150_ok rec a.1 a.2)
  (fun a=>a.1.length≤1100000∧okExpr a.2) (fun a=>SizeOf.sizeOf a.2) (fun _ _=>True) (fun b f a ha hrec=>?_) true (fs,e) ⟨hf,h⟩
 obtain⟨fs,e⟩:=a
 obtain⟨hf,he⟩:=ha
 simp only at hf he hrec ⊢
 have hl:=he.len
 unfold T150
 simp only[Tr.den,sq_bind]
 refine sq_count (fun s:List Int×Int=>s.2) e.Args.length (by omega) (fun s=>s.1.length=s.2.toNat) (fun s k hI hk hkN=>?_) rfl rfl
 obtain⟨v1,v2⟩:=s
 simp only at hk hI
 subst hk
 unfold T150_L0
 simp only[Tr.den,Int.toNat_natCast]at hI ⊢
 by_cases hc:k<e.Args.length
 ·rw[if_pos (decT (by omega)),if_pos (by omega)]
  refine Sq.bind _ (hrec (fs,e.Args.getD k default) ⟨hf,he.arg _ (getD_mem hc)⟩ (sizeOf_arg (getD_mem hc))) fun r _=>?_
  rw[if_pos (by simp only[List.length_cons,List.length_nil]; omega)]
  refine sq_some.2 ⟨rfl,hc,?_⟩
  rw[wrap_inc (by omega)]; simp; omega
 ·rw[if_neg (decF (by omega))]
  refine sq_some.2 ?_
  simp only[sel]
  have hv:v1.length=e.Args.length:=by omega
  have rest:Sq b ((whileM (fun s=>(T150_L1 s).den) (1,v1,0)).bind (sel (fun b10=>((if (e.Op==22)=true then (if decide (e.N≥0)=true then some (decide (e.N<(fs.length:Int))) else some false) else some false)).bind fun j11=>
    ((if j11=true then (if 0≤e.N∧e.N<(fs.length:Int) then some (if (1099511627776:Int)<IntKind.i64.wrap (b10+fs.getD e.N.toNat default) then (1099511627776:Int) else IntKind.i64.wrap (b10+fs.getD e.N.toNat default)) else none) else some b10)).bind fun j12=>some j12) some)) (fun _=>True):=by
   rw[sq_bind]
   refine sq_count (fun s:Int×List Int×Int=>s.2.2) v1.length (by omega) (fun s=>s.2.1=v1) (fun s k hI hk hkN=>?_) rfl rfl
   obtain⟨w1,w2,w3⟩:=s
   simp only at hk hI
   subst hk hI
   unfold T150_L1
   simp only[Tr.den,Int.toNat_natCast]
   by_cases hc:k<w2.length
   ·rw[if_pos (decT (by omega)),if_pos (by omega),if_pos hc]
    exact sq_some.2 ⟨rfl,hc,rfl⟩
   ·rw[if_neg (decF (by omega))]
    refine sq_some.2 ?_
    simp only[sel,dec_and]
    by_cases h22:(e.Op==22)=true
    ·rw[if_pos h22]
     simp only[Option.bind_some]
     by_cases hr:e.N≥0∧e.N<(fs.length:Int)
     ·rw[if_pos (decT hr),if_pos hr]; exact sq_some.2 trivial
     ·rw[if_neg (decF hr)]; exact sq_some.2 trivial
    ·rw[if_neg h22]; exact sq_some.2 trivial
  by_cases h21:(e.Op==21)=true
  ·rw[if_pos h21]
   simp only[Option.bind_some]
   by_cases h3:((v1.length:Int)==3)=true
   ·rw[if_pos h3]
    have h3':v1.length=3:=by have:=beq_iff_eq.1 h3; omega
    rw[if_pos (by omega),if_pos (by simp; omega),if_pos (by omega),if_pos (by simp; omega),if_pos (by omega),if_pos (by simp; omega)]
    exact sq_some.2 trivial
   ·rw[if_neg h3]; exact rest
  ·rw[if_neg h21]
   simp only[Option.bind_some,Bool.false_eq_true,if_false]
   exact rest
theorem okEs.get{l:List Expr}(h:okL 56 okExpr l){k:Nat}(hk:k<l.length):okExpr (l.getD k default):=h.2 _ (getD_mem hk)
theorem G153_eq(a b c:Int):G153 a b c=some (decide (b≤a∧a≤c)):=by
 unfold G153 T153
 simp only[Tr.den,dec_and,Option.bind_some]
theorem G88_sp(l types:List Int)(h:l.length≤1048576):Sp (G88 l types) (fun r=>r=true→∀ c,c∈l→0≤c∧c<types.length):=by
 unfold G88 T88
 simp only[Tr.den,sq_bind]
 refine sq_count (fun s:Int=>s) l.length (by omega) (fun s=>∀ c,c∈l.take s.toNat→0≤c∧c<types.length) (fun s k hI hk hkN=>?_) (by simp) rfl
 subst hk
 unfold T88_L0
 simp only[Tr.den,Int.toNat_natCast]at hI ⊢
 by_cases hc:k<l.length
 ·rw[if_pos (decT (by omega)),if_pos (by omega)]
  by_cases h1:l.getD k default<0
  ·rw[if_pos (decT h1)]
   exact sq_some.2 (sq_some.2 fun h=>by cases h)
  ·rw[if_neg (decF h1),if_pos (by omega)]
   simp only[Option.bind_some]
   by_cases h2:l.getD k default≥types.length
   ·rw[if_pos (decT h2)]
    exact sq_some.2 (sq_some.2 fun h=>by cases h)
   ·rw[if_neg (decF h2)]
    refine sq_some.2 ⟨rfl,hc,fun c hcm=>?_⟩
    rw[wrap_inc (by omega),Int.toNat_natCast,take_succ_getD hc,List.mem_append,List.mem_singleton]at hcm
    rcases hcm with hcm | rfl
    ·exact hI c hcm
    ·omega
 ·rw[if_neg (decF (by omega))]
  refine sq_some.2 (sq_some.2 fun _=>?_)
  rwa [List.take_of_length_le (by omega)]at hI
theorem G184_sp(v:GValue):Sp (G184 v) (fun _=>True):=by
 unfold G184 T184
 simp only[Tr.den]
 refine sq_iteB (fun _=>sq_some.2 trivial) fun _=>sq_iteB (fun _=>Sq.bind (fun _=>True) ?_ fun _ _=>sq_some.2 trivial) fun _=>Sq.bind (fun _=>True) ?_ fun _ _=>sq_some.2 trivial
 ·exact sq_iteB (fun _=>sq_some.2 trivial) fun _=>sq_some.2 trivial
 ·exact sq_iteB (fun _=>sq_iteB (fun _=>sq_some.2 trivial) fun _=>sq_iteB (fun _=>sq_some.2 trivial) fun _=>sq_some.2 trivial) fun _=>sq_some.2 trivial
theorem G149_sp(r:List GValue)(h:r.length≤1048576):Sp (G149 r) (fun _=>True):=by
 unfold G149 T149
 simp only[Tr.den,sq_bind]
 refine sq_count (fun s:Int=>s) r.length (by omega) (fun s=>True) (fun s k hI hk hkN=>?_) trivial rfl
 subst hk
 unfold T149_L0
 simp only[Tr.den,Int.toNat_natCast]
 by_cases hc:k<r.length
 ·rw[if_pos (decT (by omega)),if_pos (by omega)]
  refine Sq.bind _ (G184_sp _) fun q _=>?_
  cases q with
  | false=>exact sq_some.2 (sq_some.2 trivial)
  | true=>exact sq_some.2 ⟨rfl,hc,trivial⟩
 ·rw[if_neg (decF (by omega))]
  exact sq_some.2 (sq_some.2 trivial)
theorem G78_sp(r:List GValue)(h:r.length≤1048576):Sp (G78 r) (fun _=>True):=by
 unfold G78 T78
 simp only[Tr.den]
 refine Sq.bind (fun _=>True) ?_ fun _ _=>sq_some.2 trivial
 exact sq_iteB (fun _=>Sq.bind _ (G149_sp r h) fun _ _=>sq_some.2 trivial) fun _=>sq_some.2 trivial
theorem G30_sp(x:GDelta)(types:List Int)(h:x.Row.length≤1048576)(ht:types.length≤1048576):Sp (G30 [x] types 1) (fun r=>r=true→0≤x.Time∧x.Time≤2199023255552∧x.Row.length=types.length):=by
 unfold G30 T30
 simp only[Tr.den,sq_bind]
 refine sq_count (fun s:Int=>s) 1 (by omega) (fun s=>1≤s.toNat→0≤x.Time∧x.Time≤2199023255552∧x.Row.length=types.length) (fun s k hI hk hkN=>?_) (by simp) rfl
 subst hk
 unfold T30_L0
 simp only[Tr.den,Int.toNat_natCast,dec_and,Option.bind_some]at hI ⊢
 by_cases hc:k<1
 ·obtain rfl:k=0:=by omega
  have e0:([x]:List GDelta).getD 0 default=x:=rfl
  have el:(([x]:List GDelta).length:Int)=1:=rfl
  rw[if_pos (decT (by omega)),if_pos (by omega)]
  have rest:0≤x.Time∧x.Time≤2199023255552∧x.Row.length=types.length →
    Sp ((whileM (fun s=>(T30_L1 [x] types ((0:Nat):Int) s).den) 0).bind (sel (fun _=>some (Sum.inl (IntKind.i64.wrap (((0:Nat):Int)+1)))) some)) (sel (fun s':Int=>s'=IntKind.i64.wrap (((0:Nat):Int)+1)∧0<1∧(1≤s'.toNat→0≤x.Time∧x.Time≤2199023255552∧x.Row.length=types.length)) (fun r:Unit⊕Bool=>Sp (sel (fun _=>some (decide ((1:Int)≤1))) some r) (fun r=>r=true→0≤x.Time∧x.Time≤2199023255552∧x.Row.length=types.length))):=by
   intro hx
   have e2:(([x]:List GDelta).getD 0 default).Row.length=types.length:=hx.2.2
   refine sq_bind.2 ?_
   refine sq_count (fun s:Int=>s) types.length (by omega) (fun s=>True) (fun s k hI hk hkN=>?_) trivial rfl
   subst hk
   unfold T30_L1
   simp only[Tr.den,Int.toNat_natCast]
   by_cases hc:k<types.length
   ·rw[if_pos (decT (by omega)),if_pos (by omega),if_pos (by omega),if_pos (by omega)]
    split
    ·exact sq_some.2 (sq_some.2 (sq_some.2 fun h=>by cases h))
    ·exact sq_some.2 ⟨rfl,hc,trivial⟩
   ·rw[if_neg (decF (by omega))]
    exact sq_some.2 (sq_some.2 ⟨rfl,by omega,fun _=>hx⟩)
  refine Sq.bind (fun j:Bool=>j=false→0≤x.Time∧x.Time≤2199023255552∧x.Row.length=types.length) ?_ (fun j hj=>?_)
  ·refine sq_iteB (fun _=>sq_some.2 fun h=>by cases h) fun q1=>sq_grd (by omega) (sq_iteB (fun _=>sq_some.2 fun h=>by cases h) fun q2=>sq_grd (by omega) (sq_iteB (fun _=>sq_some.2 fun h=>by cases h) fun q3=>sq_grd (by omega) (sq_iteB (fun _=>sq_some.2 fun h=>by cases h) fun q4=>sq_grd (by omega) (sq_iteB (fun _=>sq_some.2 fun h=>by cases h) fun q5=>sq_grd (by omega) (Sq.bind _ (G78_sp _ h) fun r _=>sq_some.2 fun _=>?_)))))
   have q1:=of_decide_eq_false q1
   have q2:=of_decide_eq_false q2
   simp only[bne_eq_false_iff_eq]at q5
   rw[e0]at q1 q2 q5
   omega
  ·cases j with
   | true=>exact sq_some.2 (sq_some.2 fun h=>by cases h)
   | false=>exact rest (hj rfl)
 ·obtain rfl:k=1:=by omega
  rw[if_neg (decF (by simp))]
  exact sq_some.2 (sq_some.2 fun _=>hI (by omega))
theorem okGDelta.okd{l:List GDelta}(h:okL 40 okGDelta l):okD l:=⟨fun d hd=>by
 have:=(h.2 d hd).2.1.1
 unfold okR; omega,fun d hd=>(h.2 d hd).2.2⟩
theorem ofK_app(n:GNode)(i:Int)(k:ByteArray)(l r:List GDelta):ofK n i k (l++r)=ofK n i k l++ofK n i k r:=List.filter_append ..
theorem Same.ofK{l r:List GDelta}(h:Same l r)(n:GNode)(i:Int)(k:ByteArray):Same (ofK n i k l) (ofK n i k r):=h.filter (fun p=>decide (keyB n i p.2=k))
theorem Same.aft{l r:List GDelta}(h:Same l r)(t:Int):Same (l.filter (PL.aft t)) (r.filter (PL.aft t)):=h.filter (fun p=>decide (t<p.1))
theorem okN.sub{l r:List GDelta}(h:okN l)(hs:∀ x,x∈r→x∈l):okN r:=fun x hx=>h x (hs x hx)
theorem ofK_mem{n:GNode}{i:Int}{k:ByteArray}{l:List GDelta}{x:GDelta}:x∈ofK n i k l↔x∈l∧kd n i x=k:=by
 unfold ofK
 rw[List.mem_filter,decide_eq_true_eq]
theorem ofK_push{n:GNode}{i:Int}{k:ByteArray}{a l:List GDelta}{t:Int}(ha:Can a)(hl:okN l)(hal:∀ d,d∈l→aft t d=true):
  cons (ofK n i k (a.filter (aft t))++ofK n i k (cons l))=ofK n i k ((cons (a++l)).filter (aft t)):=by
 have hal':okN (a++l):=fun x hx=>(List.mem_append.1 hx).elim (ha.n64 x) (hl x)
 have hcl:=cons_can hl
 refine cons_eq ((((cons_can hal').filter _)).filter _) (fun x hx=>?_) ?_
 ·rcases List.mem_append.1 hx with hx | hx
  ·exact ha.n64 x (List.mem_filter.1 (ofK_mem.1 hx).1).1
  ·exact hcl.n64 x (ofK_mem.1 hx).1
 ·have h1:Same (ofK n i k ((cons (a++l)).filter (aft t))) (ofK n i k ((a++l).filter (aft t))):=((cons_same (a++l)).aft t).ofK n i k
  have h2:ofK n i k ((a++l).filter (aft t))=ofK n i k (a.filter (aft t))++ofK n i k l:=by
   rw[List.filter_append,List.filter_eq_self.2 hal,ofK_app]
  rw[h2]at h1
  exact h1.trans (Same.app (.refl _) ((cons_same l).ofK n i k).symm)
theorem aft_aft{t t':Int}(h:t≤t')(l:List GDelta):(l.filter (aft t)).filter (aft t')=l.filter (aft t'):=by
 rw[List.filter_filter]
 congr 1
 funext d
 unfold aft
 rw[Bool.eq_iff_iff,Bool.and_eq_true,decide_eq_true_eq,decide_eq_true_eq]
 omega
theorem filter_comm'(p q:GDelta→Bool)(l:List GDelta):(l.filter p).filter q=(l.filter q).filter p:=by
 rw[List.filter_filter,List.filter_filter]
 congr 1
 funext d
 exact Bool.and_comm _ _
theorem sumK_congr{f g:ByteArray→Int}{ks:List ByteArray}(h:∀ k,k∈ks→f k=g k):sumK f ks=sumK g ks:=by
 induction ks with
 | nil=>rfl
 | cons k ks ih=>simp only[sumK,h k List.mem_cons_self,ih fun k' hk=>h k' (List.mem_cons_of_mem _ hk)]
theorem sumK_add(f g:ByteArray→Int)(ks:List ByteArray):sumK (fun k=>f k+g k) ks=sumK f ks+sumK g ks:=by
 induction ks with
 | nil=>rfl
 | cons k ks ih=>simp only[sumK,ih]; omega
theorem sumK_zero(ks:List ByteArray):sumK (fun _=>0) ks=0:=by
 induction ks with
 | nil=>rfl
 | cons k ks ih=>simp only[sumK,ih]; rfl
theorem sumK_one(q:ByteArray)(v:Int):∀ (ks:List ByteArray),ks.Nodup→q∈ks→sumK (fun k=>if q=k then v else 0) ks=v
 | [],_,h=>by simp at h
 | k::ks,hn,h=>by
  have h1:=List.nodup_cons.1 hn
  simp only[sumK]
  by_cases hq:q=k
  ·subst hq
   rw[if_pos rfl,sumK_congr (f:=fun k=>if q=k then v else 0) (g:=fun _=>0) (fun k' hk'=>if_neg (fun he:q=k'=>h1.1 (he▸hk'))),sumK_zero]; omega
  ·rw[if_neg hq,sumK_one q v ks h1.2 ((List.mem_cons.1 h).resolve_left hq)]; omega
theorem sumK_ofK(p:Pl→Bool)(n:GNode)(i:Int)(ks:List ByteArray)(hn:ks.Nodup):∀ (l:List GDelta),(∀ x,x∈l→kd n i x∈ks)→sumK (fun k=>wt p (ofK n i k l)) ks=wt p l
 | [],_=>by
  refine Eq.trans (sumK_congr (g:=fun _=>0) fun k _=>rfl) (sumK_zero ks)
 | x::l,h=>by
  have ih:=sumK_ofK p n i ks hn l fun y hy=>h y (List.mem_cons_of_mem _ hy)
  have e:∀ k,wt p (ofK n i k (x::l))=(if kd n i x=k then (if p (pl x)=true then x.N else 0) else 0)+wt p (ofK n i k l):=by
   intro k
   unfold ofK
   by_cases hk:kd n i x=k
   ·rw[List.filter_cons_of_pos (p:=fun d=>decide (kd n i d=k)) (decT hk),if_pos hk]; rfl
   ·rw[List.filter_cons_of_neg (p:=fun d=>decide (kd n i d=k)) (decF hk),if_neg hk]; omega
  rw[sumK_congr fun k _=>e k,sumK_add,ih,sumK_one _ _ ks hn (h x List.mem_cons_self)]
  rfl
theorem txtB_size2{s:ByteArray}(h:s.size≤1000000000000):(txtB s).size≤s.size+23:=by
 have:=itoaB_size (n:=(s.size:Int)) ⟨by omega,by omega⟩
 unfold txtB
 rw[ByteArray.size_append,ByteArray.size_append,ByteArray.size_append,sz1,sz1]
 omega
theorem G52_eq2{s:ByteArray}(h:s.size≤1000000000000):G52 s=some (txtB s):=by
 have h1:=itoaB_size (n:=(s.size:Int)) ⟨by omega,by omega⟩
 have h2:G117 (s.size:Int)=some (itoaB s.size):=G117_eq ⟨by omega,by omega⟩
 generalize hi:itoaB (s.size:Int)=z at h1 h2
 have e1:(z++(⟨#[58]⟩:ByteArray)).size=z.size+1:=ByteArray.size_append
 have e2:((z++(⟨#[58]⟩:ByteArray))++s).size=z.size+1+s.size:=by rw[ByteArray.size_append,e1]
 unfold G52 T52
 refine(den_ca h2).trans ?_
 refine(den_grd ?_).trans ((den_grd ?_).trans ((den_grd ?_).trans ?_))
 ·rw[sz1]; omega
 ·rw[e1]; omega
 ·rw[e2,sz1]; omega
 ·unfold txtB
  rw[hi]
  rfl
structure okZr (r:List GValue):Prop where
 l:r.length≤12
 v:okVs r
 s:∀ v,v∈r→v.S.size≤1048576
def okZ(l:List GDelta):Prop:=∀ d,d∈l→okZr d.Row
theorem okZ.sub{l r:List GDelta}(h:okZ l)(hs:∀ x,x∈r→x∈l):okZ r:=fun x hx=>h x (hs x hx)
theorem okZ.cons{l:List GDelta}(h:okZ l):okZ (PL.cons l):=fun x hx=>by
 obtain⟨z,hz,e⟩:=cons_mem hx
 have:x.Row=z.Row:=congrArg Prod.snd e
 rw[this]; exact h z hz
theorem okZ.app{l r:List GDelta}(h:okZ l)(h':okZ r):okZ (l++r):=fun x hx=>(List.mem_append.1 hx).elim (h x) (h' x)
theorem okZ.get{l:List GDelta}(h:okZ l)(k:Nat):okZr (l.getD k default).Row:=by
 by_cases hk:k<l.length
 ·exact h _ (getD_mem hk)
 ·rw[List.getD_eq_getElem?_getD,List.getElem?_eq_none (by omega)]
  exact⟨Nat.zero_le _,fun v hv=>(by cases hv),fun v hv=>(by cases hv)⟩
theorem foldB_size2(b:ByteArray):∀ (r:List GValue),okVs r→(∀ v,v∈r→v.S.size≤1048576)→(r.foldl (fun b v=>b++valB v) b).size≤b.size+r.length*1048700
 | [],_,_=>by simp
 | v::r,h,hs=>by
  have h1:=foldB_size2 (b++valB v) r (fun x hx=>h x (List.mem_cons_of_mem _ hx)) fun x hx=>hs x (List.mem_cons_of_mem _ hx)
  have hv:=h v List.mem_cons_self
  have q1:=numB_size hv.k
  have q2:=numB_size hv.n
  have q3:=txtB_size hv.s
  have q4:=hs v List.mem_cons_self
  have h2:(valB v).size≤1048700:=by
   unfold valB
   rw[ByteArray.size_append,ByteArray.size_append]
   omega
  rw[ByteArray.size_append]at h1
  simp only[List.foldl_cons,List.length_cons]
  omega
theorem rowB_size2{r:List GValue}(h:okZr r):(rowB r).size≤12600000:=by
 have h1:=foldB_size2 ((⟨#[]⟩:ByteArray)++numB (r.length:Int)) r h.v h.s
 have h2:=numB_size (n:=(r.length:Int)) ⟨by omega,by have:=h.l; omega⟩
 have h3:=h.l
 rw[ByteArray.size_append,show (⟨#[]⟩:ByteArray).size=0 from rfl]at h1
 have:r.length*1048700≤12*1048700:=Nat.mul_le_mul h3 (Nat.le_refl _)
 unfold rowB
 omega
def bl(b:ByteArray):List UInt8:=b.data.toList
theorem bl_app(a b:ByteArray):bl (a++b)=bl a++bl b:=by
 unfold bl; rw[ByteArray.data_append,Array.toList_append]
theorem bl_inj{a b:ByteArray}(h:bl a=bl b):a=b:=by
 cases a; cases b; simp[bl]at h; simp[h]
theorem dig_toNat{d:Nat}(h:d<10):(UInt8.ofNat (48+d)).toNat=48+d:=by
 rw[UInt8.toNat_ofNat']; omega
def decV(l:List UInt8):Nat:=l.foldl (fun a b=>a*10+(b.toNat-48)) 0
theorem decV_dig(u:Nat):decV (Lib.decDigits u)=u:=by
 induction u using Nat.strongRecOn with
 | _ u ih=>
  by_cases h:u<10
  ·rw[Lib.decDigits,dif_pos h]
   simp only[decV,List.foldl_cons,List.foldl_nil]
   rw[dig_toNat h]; omega
  ·rw[Lib.decDigits,dif_neg h]
   have:=ih (u / 10) (by omega)
   unfold decV at this ⊢
   rw[List.foldl_append,this]
   simp only[List.foldl_cons,List.foldl_nil]
   rw[dig_toNat (by omega)]; omega
theorem dig_mem(u:Nat):∀ b,b∈Lib.decDigits u→48≤b.toNat∧b.toNat≤57:=by
 induction u using Nat.strongRecOn with
 | _ u ih=>
  intro b hb
  by_cases h:u<10
  ·rw[Lib.decDigits,dif_pos h,List.mem_singleton]at hb
   rw[hb,dig_toNat h]; omega
  ·rw[Lib.decDigits,dif_neg h,List.mem_append,List.mem_singleton]at hb
   rcases hb with hb | rfl
   ·exact ih (u / 10) (by omega) b hb
   ·rw[dig_toNat (by omega)]; omega
theorem itoa_mem(n:Int):∀ b,b∈Lib.itoa n→b.toNat=45∨(48≤b.toNat∧b.toNat≤57):=by
 intro b hb
 unfold Lib.itoa at hb
 split at hb
 ·rcases List.mem_cons.1 hb with rfl | hb
  ·exact .inl rfl
  ·exact .inr (dig_mem _ b hb)
 ·exact .inr (dig_mem _ b hb)
theorem no45(u:Nat)(l:List UInt8):Lib.decDigits u≠45::l:=by
 intro h
 have:=dig_mem u 45 (by rw[h]; exact List.mem_cons_self)
 have e:(45:UInt8).toNat=45:=rfl
 omega
theorem itoa_inj{n m:Int}(h:Lib.itoa n=Lib.itoa m):n=m:=by
 unfold Lib.itoa at h
 split at h <;> split at h
 ·have:=congrArg decV (List.cons.inj h).2
  rw[decV_dig,decV_dig]at this; omega
 ·exact absurd h.symm (no45 _ _)
 ·exact absurd h (no45 _ _)
 ·have:=congrArg decV h
  rw[decV_dig,decV_dig]at this; omega
theorem split_mark{c:UInt8}:∀ {l l' x y:List UInt8},(∀ b,b∈l→b≠c)→(∀ b,b∈l'→b≠c)→l++c::x=l'++c::y→l=l'∧x=y
 | [],[],x,y,_,_,h=>⟨rfl,(List.cons.inj h).2⟩
 | [],b::l',x,y,_,h',h=>absurd (List.cons.inj h).1.symm (h' b List.mem_cons_self)
 | b::l,[],x,y,h',_,h=>absurd (List.cons.inj h).1 (h' b List.mem_cons_self)
 | b::l,b'::l',x,y,h1,h2,h=>by
  obtain⟨e1,e2⟩:=List.cons.inj h
  obtain⟨q1,q2⟩:=split_mark (fun b hb=>h1 b (List.mem_cons_of_mem _ hb)) (fun b hb=>h2 b (List.mem_cons_of_mem _ hb)) e2
  exact⟨by rw[e1,q1],q2⟩
theorem itoa_no(n:Int){c:UInt8}(h:58≤c.toNat):∀ b,b∈Lib.itoa n→b≠c:=by
 rintro b hb rfl
 have:=itoa_mem n b hb
 omega
theorem bl_itoa(n:Int):bl (itoaB n)=Lib.itoa n:=rfl
theorem bl_num(n:Int):bl (numB n)=Lib.itoa n++[59]:=by unfold numB; rw[bl_app,bl_itoa]; rfl
theorem num_inj{n m:Int}{x y:List UInt8}(h:bl (numB n)++x=bl (numB m)++y):n=m∧x=y:=by
 rw[bl_num,bl_num,List.append_assoc,List.append_assoc]at h
 obtain⟨q1,q2⟩:=split_mark (itoa_no n (by decide)) (itoa_no m (by decide)) h
 exact⟨itoa_inj q1,q2⟩
theorem bl_txt(s:ByteArray):bl (txtB s)=Lib.itoa s.size++58::(bl s++[44]):=by
 unfold txtB
 rw[bl_app,bl_app,bl_app,bl_itoa]
 simp[bl]
theorem txt_inj{s t:ByteArray}{x y:List UInt8}(h:bl (txtB s)++x=bl (txtB t)++y):s=t∧x=y:=by
 rw[bl_txt,bl_txt,List.append_assoc,List.append_assoc]at h
 obtain⟨q1,q2⟩:=split_mark (itoa_no _ (by decide)) (itoa_no _ (by decide)) h
 have hs:=itoa_inj q1
 have hl:(bl s).length=(bl t).length:=by
  have e:∀ z:ByteArray,(bl z).length=z.size:=fun z=>by unfold bl; rw[Array.length_toList]; rfl
  rw[e,e]; omega
 have q2':(bl s++[44])++x=(bl t++[44])++y:=q2
 rw[List.append_assoc,List.append_assoc]at q2'
 obtain⟨q3,q4⟩:=List.append_inj q2' hl
 exact⟨bl_inj q3,(List.cons.inj q4).2⟩
theorem val_inj{v w:GValue}{x y:List UInt8}(h:bl (valB v)++x=bl (valB w)++y):v=w∧x=y:=by
 unfold valB at h
 rw[bl_app,bl_app,bl_app,bl_app]at h
 simp only[List.append_assoc]at h
 obtain⟨q1,h⟩:=num_inj h
 obtain⟨q2,h⟩:=num_inj h
 obtain⟨q3,h⟩:=txt_inj h
 refine⟨?_,h⟩
 cases v; cases w; simp_all
theorem bl_fold(b:ByteArray):∀ r:List GValue,bl (r.foldl (fun b v=>b++valB v) b)=bl b++r.flatMap (fun v=>bl (valB v))
 | []=>by simp
 | v::r=>by rw[List.foldl_cons,bl_fold,bl_app,List.flatMap_cons,List.append_assoc]
theorem bl_row(r:List GValue):bl (rowB r)=bl (numB r.length)++r.flatMap (fun v=>bl (valB v)):=by
 unfold rowB
 rw[bl_fold,bl_app]; rfl
theorem vals_inj:∀ {r s:List GValue} {x y:List UInt8},r.length=s.length→r.flatMap (fun v=>bl (valB v))++x=s.flatMap (fun v=>bl (valB v))++y→r=s∧x=y
 | [],[],x,y,_,h=>⟨rfl,h⟩
 | [],_::_,_,_,h,_=>by cases h
 | _::_,[],_,_,h,_=>by cases h
 | v::r,w::s,x,y,hl,h=>by
  rw[List.flatMap_cons,List.flatMap_cons,List.append_assoc,List.append_assoc]at h
  obtain⟨q1,q2⟩:=val_inj h
  obtain⟨q3,q4⟩:=vals_inj (by simpa using hl) q2
  exact⟨by rw[q1,q3],q4⟩
theorem rowB_inj{r s:List GValue}(h:rowB r=rowB s):r=s:=by
 have h:=congrArg (fun b=>bl b++[]) h
 simp only[bl_row]at h
 rw[List.append_assoc,List.append_assoc]at h
 obtain⟨q1,q2⟩:=num_inj h
 exact(vals_inj (by omega) q2).1
def decS(a:Nat)(b:UInt8):Nat:=a*10+(b.toNat-48)
theorem decS_ge:∀ (l:List UInt8) (a:Nat),a≤l.foldl decS a
 | [],a=>Nat.le_refl _
 | b::l,a=>by
  rw[List.foldl_cons]
  refine Nat.le_trans ?_ (decS_ge l _)
  unfold decS; omega
theorem parseU_ok:∀ (l:List UInt8) (a:Nat),(∀ b,b∈l→48≤b.toNat∧b.toNat≤57)→l.foldl decS a<18446744073709551616→Lib.parseUint10 a l = .ok (l.foldl decS a)
 | [],a,_,_=>rfl
 | b::l,a,h,hl=>by
  have h0:=h b List.mem_cons_self
  rw[List.foldl_cons]at hl ⊢
  have h1:=decS_ge l (decS a b)
  have e:a*10+(b.toNat-48)=decS a b:=rfl
  unfold Lib.parseUint10
  rw[if_pos h0,if_neg (by omega),if_neg (by omega),e]
  exact parseU_ok l _ (fun c hc=>h c (List.mem_cons_of_mem _ hc)) hl
theorem decDig_ne(u:Nat):Lib.decDigits u≠[]:=by
 unfold Lib.decDigits
 split
 ·simp
 ·simp
theorem parseMag_dig(u:Nat)(h:u<18446744073709551616):Lib.parseMag (Lib.decDigits u) = .ok u:=by
 unfold Lib.parseMag
 rw[if_neg (decDig_ne u)]
 have e:(Lib.decDigits u).foldl decS 0=u:=decV_dig u
 rw[parseU_ok _ 0 (dig_mem u) (by rw[e]; exact h),e]
theorem atoi_itoa{n:Int}(h:in64 n):Lib.atoiAll (Lib.itoa n) = .ok n:=by
 obtain⟨h1,h2⟩:=h
 unfold Lib.itoa
 split
 ·rename_i hn
  unfold Lib.atoiAll
  have e:(45:UInt8).toNat=45:=rfl
  simp only[e,or_true,if_true]
  rw[parseMag_dig _ (by omega)]
  simp only[not_true_eq_false,false_and,if_false,true_and]
  rw[if_neg (by omega)]
  congr 1; omega
 ·rename_i hn
  have hm:=parseMag_dig n.toNat (by omega)
  have hd:=dig_mem n.toNat
  generalize hl:Lib.decDigits n.toNat=l at hm hd
  cases l with
  | nil=>exact absurd hl (decDig_ne _)
  | cons c r=>
   have hc:=hd c List.mem_cons_self
   unfold Lib.atoiAll
   simp only
   rw[if_neg (by omega),hm]
   have e:¬ (c.toNat=45):=by omega
   simp only[e,not_false_eq_true,true_and,if_false,false_and]
   rw[if_neg (by omega)]
   congr 1; omega
theorem nDig_le:∀ (k u:Nat),u<10 ^ (k+1)→Lib.nDigits u≤k+1
 | 0,u,h=>by
  rw[Lib.nDigits_small (by simpa using h)]; exact Nat.le_refl _
 | k+1,u,h=>by
  unfold Lib.nDigits
  split
  ·omega
  ·have:=nDig_le k (u / 10) (by rw[Nat.pow_succ]at h; omega)
   omega
theorem itoa_len{n:Int}(h:in64 n):(Lib.itoa n).length≤20:=by
 obtain⟨h1,h2⟩:=h
 have hk:∀ u:Nat,u≤9223372036854775808→(Lib.decDigits u).length≤19:=fun u hu=>by
  rw[Lib.decDigits_length]
  exact nDig_le 18 u (by omega)
 unfold Lib.itoa
 split
 ·have:=hk n.natAbs (by omega)
  rw[List.length_cons]; omega
 ·have:=hk n.toNat (by omega)
  omega
theorem indexByte_app{c:UInt8}:∀ (l t:List UInt8),(∀ b,b∈l→b≠c)→Lib.indexByte (l++c::t) c=(l.length:Int)
 | [],t,_=>by simp[Lib.indexByte]
 | b::l,t,h=>by
  have h1:=indexByte_app l t fun x hx=>h x (List.mem_cons_of_mem _ hx)
  have h2:(b==c)=false:=by simpa using h b List.mem_cons_self
  rw[List.cons_append]
  unfold Lib.indexByte
  rw[h2,h1]
  have h3:((l.length:Int) == -1)=false:=by
   rw[beq_eq_false_iff_ne]; omega
  simp only[h3,Bool.false_eq_true,if_false,List.length_cons]
  omega
theorem bl_ext(s:ByteArray)(a b:Nat):bl (s.extract a b)=((bl s).take b).drop a:=by
 unfold bl
 rw[ByteArray.data_extract,Array.toList_extract]
 simp[List.drop_take]
theorem bl_len(s:ByteArray):(bl s).length=s.size:=by
 unfold bl; rw[Array.length_toList]; rfl
def mkB(l:List UInt8):ByteArray:=⟨l.toArray⟩
theorem bl_mk(l:List UInt8):bl (mkB l)=l:=by unfold bl mkB; simp
theorem mk_of{b:ByteArray}{l:List UInt8}(h:bl b=l):b=mkB l:=bl_inj (by rw[h,bl_mk])
theorem tl_self(b:ByteArray):(!(b.toList==b.toList))=false:=by simp
theorem tl_self'(b:ByteArray):(b.toList==b.toList)=true:=by simp
theorem take_mark(l:List UInt8)(c:UInt8)(t:List UInt8)(k:Nat)(h:l.length<k):(l++c::t).take k=l++c::t.take (k-l.length-1):=by
 rw[List.take_append,List.take_of_length_le (by omega)]
 obtain⟨q,hq⟩:∃ q,k-l.length=q+1:=⟨k-l.length-1,by omega⟩
 rw[hq,List.take_succ_cons]; rfl
theorem G134_eq{n lo:Int}{c:UInt8}{rb:ByteArray}{t:List UInt8}(hn:in64 n)(hlo:lo≤n)(hc:58≤c.toNat)(hr:bl rb=Lib.itoa n++c::t)(hsz:rb.size≤100000000000):
  G134s0 (c.toNat:Int) lo ⟨rb,false⟩=some (n,mkB t):=by
 have hL:=itoa_len hn
 have hS:rb.size=(Lib.itoa n).length+1+t.length:=by
  rw[←bl_len,hr,List.length_append,List.length_cons]; omega
 obtain⟨hd,hhd⟩:∃ hd,rb.extract (0:Int).toNat (if (21:Int)<((rb:ByteArray).size:Int) then (21:Int) else ((rb:ByteArray).size:Int)).toNat=hd:=⟨_,rfl⟩
 have hm:(if (21:Int)<((rb:ByteArray).size:Int) then (21:Int) else ((rb:ByteArray).size:Int)).toNat=min 21 rb.size:=by split <;> omega
 have hm0:0≤(if (21:Int)<((rb:ByteArray).size:Int) then (21:Int) else ((rb:ByteArray).size:Int))∧(if (21:Int)<((rb:ByteArray).size:Int) then (21:Int) else ((rb:ByteArray).size:Int))≤(rb.size:Int):=by split <;> omega
 have hbl:bl hd=Lib.itoa n++c::t.take (min 21 rb.size-(Lib.itoa n).length-1):=by
  rw[←hhd,bl_ext,hr,hm,take_mark _ _ _ _ (by omega)]; rfl
 have hdl:(hd.size:Int)≥(Lib.itoa n).length:=by rw[←bl_len,hbl,List.length_append]; omega
 have e1:G178 hd (c.toNat:Int)=some ((Lib.itoa n).length:Int):=by
  unfold G178
  rw[show hd.data.toList=bl hd from rfl,hbl,show ((c.toNat:Int)).toNat.toUInt8=c by simp,indexByte_app _ _ (itoa_no n hc)]
 have e2:hd.extract (0:Int).toNat ((Lib.itoa n).length:Int).toNat=itoaB n:=bl_inj (by
  rw[bl_ext,hbl,bl_itoa,Int.toNat_natCast,List.take_left]; rfl)
 have e3:G179 (itoaB n)=some n:=by
  unfold G179
  rw[show (itoaB n).data.toList=Lib.itoa n from rfl,atoi_itoa hn]
  simp only
  rw[if_pos (by have:=itoaB_size hn; omega)]
 have e5:rb.extract (IntKind.i64.wrap (((Lib.itoa n).length:Int)+1)).toNat ((rb:ByteArray).size:Int).toNat=mkB t:=mk_of (by
  rw[bl_ext,hr,wrap_inc (by omega),Int.toNat_natCast,List.take_of_length_le (by rw[←hr,bl_len]; omega)]
  simp[List.drop_append])
 unfold G134s0 T134s0
 simp only[Tr.den,hhd,e1,e2,e3,G117_eq hn,Option.bind_some,tl_self]
 rw[if_pos ⟨by omega,hm0.1,hm0.2⟩,if_neg (decF (by omega)),if_pos ⟨by omega,by omega,by omega⟩,if_pos ⟨by omega,by omega,by omega⟩]
 simp only[Bool.false_eq_true,if_false,Option.bind_some]
 rw[if_neg (decF (by omega)),if_pos ⟨by rw[wrap_inc (by omega)]; omega,by rw[wrap_inc (by omega)]; omega,by omega⟩,e5]
theorem G66_eq{n:Int}{rb:ByteArray}{t:List UInt8}(hn:in64 n)(hr:bl rb=bl (numB n)++t)(hsz:rb.size≤100000000000):G66s0 ⟨rb,false⟩=some (n,mkB t):=by
 unfold G66s0 T66s0
 simp only[Tr.den]
 rw[show (59:Int)=((59:UInt8).toNat:Int) from rfl,G134_eq (t:=t) hn hn.1 (by decide) (by rw[hr,bl_num]; simp) hsz]
 rfl
theorem G135_eq{n:Int}{rb:ByteArray}{t:List UInt8}(hn:in64 n)(h0:0≤n)(hr:bl rb=bl (numB n)++t)(hsz:rb.size≤100000000000):G135s0 ⟨rb,false⟩=some (n,mkB t):=by
 unfold G135s0 T135s0
 simp only[Tr.den]
 rw[show (59:Int)=((59:UInt8).toNat:Int) from rfl,G134_eq (t:=t) hn h0 (by decide) (by rw[hr,bl_num]; simp) hsz]
 rfl
theorem G139_eq{p a:ByteArray}{b:Bool}{t:List UInt8}(h:bl a=bl p++t):G139s0 p ⟨a,b⟩=some (mkB t):=by
 have hS:a.size=p.size+t.length:=by rw[←bl_len,h,List.length_append,bl_len]
 have e1:a.extract (0:Int).toNat ((p:ByteArray).size:Int).toNat=p:=bl_inj (by
  rw[bl_ext,h,Int.toNat_natCast,←bl_len,List.take_left]; rfl)
 have e2:a.extract (((p:ByteArray).size:Int):Int).toNat (a.size:Int).toNat=mkB t:=mk_of (by
  rw[bl_ext,h,Int.toNat_natCast,Int.toNat_natCast,List.take_of_length_le (by rw[List.length_append,bl_len]; omega),←bl_len p,List.drop_left])
 have h1:G218 a p=some true:=by
  unfold G218 T218
  simp only[Tr.den,e1,tl_self']
  rw[if_pos (decT (by omega)),if_pos ⟨by omega,by omega,by omega⟩]
  rfl
 have h2:G199 a p=some (mkB t,true):=by
  unfold G199 T199
  simp only[Tr.den,h1,Option.bind_some,Bool.not_true,Bool.false_eq_true,if_false]
  rw[if_pos ⟨by omega,by omega,by omega⟩,e2]
 have h3:G182 a p=some (mkB t,true):=by
  unfold G182 T182
  simp only[Tr.den,h2,Option.bind_some]
 unfold G139s0 T139s0
 simp only[Tr.den,h3,Option.bind_some,Bool.not_true,Bool.false_eq_true,if_false]
theorem G68_eq{s:ByteArray}{rb:ByteArray}{t:List UInt8}(hs:s.size≤100000000000)(hr:bl rb=bl (txtB s)++t)(hsz:rb.size≤100000000000):G68s0 ⟨rb,false⟩=some (s,mkB t):=by
 have hr':bl rb=Lib.itoa (s.size:Int)++(58:UInt8)::(bl s++44::t):=by rw[hr,bl_txt]; simp
 have h1:=G134_eq (n:=(s.size:Int)) (lo:=0) (c:=58) ⟨by omega,by omega⟩ (by omega) (by decide) hr' hsz
 rw[show ((58:UInt8).toNat:Int)=58 from rfl]at h1
 obtain⟨q,hq⟩:∃ q,mkB (bl s++44::t)=q:=⟨_,rfl⟩
 rw[hq]at h1
 have hbq:bl q=bl s++44::t:=by rw[←hq,bl_mk]
 have hS:q.size=s.size+1+t.length:=by rw[←bl_len,hbq,List.length_append,List.length_cons,bl_len]; omega
 have e1:bl (q.extract ((s.size:Int):Int).toNat (q.size:Int).toNat)=bl (⟨#[44]⟩:ByteArray)++t:=by
  rw[bl_ext,hbq,Int.toNat_natCast,Int.toNat_natCast,List.take_of_length_le (by rw[←hbq,bl_len]; omega),←bl_len s,List.drop_left]; rfl
 have e2:q.extract (0:Int).toNat ((s.size:Int)).toNat=s:=bl_inj (by rw[bl_ext,hbq,Int.toNat_natCast,←bl_len,List.take_left]; rfl)
 unfold G68s0 T68s0
 simp only[Tr.den,h1,Option.bind_some]
 rw[if_neg (decF (by omega)),if_pos ⟨by omega,by omega,by omega⟩,if_pos ⟨by omega,by omega,by omega⟩,G139_eq e1]
 simp only[Option.bind_some,Bool.false_eq_true,if_false,e2]
theorem G181_eq{v:GValue}{rb:ByteArray}{t:List UInt8}(hv:okV v)(hr:bl rb=bl (valB v)++t)(hsz:rb.size≤100000000000):G181s0 ⟨rb,false⟩=some (v,mkB t):=by
 have hlen:=congrArg List.length hr
 unfold valB at hr
 rw[bl_app,bl_app,List.append_assoc,List.append_assoc]at hr
 have hl1:=congrArg List.length hr
 rw[bl_len,List.length_append,List.length_append]at hl1
 unfold G181s0 T181s0
 simp only[Tr.den]
 rw[G66_eq hv.k hr hsz]
 simp only[Option.bind_some]
 rw[G66_eq hv.n (bl_mk _) (by rw[←bl_len,bl_mk,List.length_append]; omega)]
 simp only[Option.bind_some]
 rw[G68_eq (by have:=hv.s; omega) (bl_mk _) (by rw[←bl_len,bl_mk]; omega)]
 rfl
theorem G71_eq:G71s0 ⟨mkB [],false⟩=some true:=by
 unfold G71s0 T71s0
 simp only[Tr.den,Bool.not_false,if_true,Option.bind_some]
 exact congrArg some (tl_self' _)
theorem valB_pos(v:GValue):0<(bl (valB v)).length:=by
 unfold valB numB
 rw[bl_app,bl_app,bl_app,List.length_append,List.length_append,List.length_append]
 have:(bl (⟨#[59]⟩:ByteArray)).length=1:=rfl
 omega
def valsL(r:List GValue):List UInt8:=r.flatMap fun v=>bl (valB v)
theorem valsL_cons(v:GValue)(r:List GValue):valsL (v::r)=bl (valB v)++valsL r:=rfl
theorem valsL_drop_len(r:List GValue):∀ i,(valsL (r.drop i)).length≤(valsL r).length
 | 0=>Nat.le_refl _
 | i+1=>by
  cases r with
  | nil=>simp
  | cons v r=>
   rw[List.drop_succ_cons,valsL_cons,List.length_append]
   have:=valsL_drop_len r i
   omega
theorem G136_eq{r:List GValue}(hv:okVs r)(hl:r.length≤1000)(hsz:(rowB r).size≤100000000000):G136 (rowB r)=some (r,true):=by
 have hb:bl (rowB r)=bl (numB (r.length:Int))++valsL r:=bl_row r
 have hl1:=congrArg List.length hb
 rw[bl_len,List.length_append]at hl1
 have h65:G65s0 (rowB r)=some ⟨rowB r,false⟩:=rfl
 unfold G136 T136
 simp only[Tr.den,h65,Option.bind_some]
 rw[G135_eq ⟨by omega,by omega⟩ (by omega) hb hsz]
 simp only[Option.bind_some]
 have key:whileM (fun s=>(T136_L0 ⟨rowB r,false⟩ s).den) (mkB (valsL r),([]:List GValue),(r.length:Int))=some (.inl (mkB [],r)):=by
  have:=while_trace (bd:=fun s=>(T136_L0 ⟨rowB r,false⟩ s).den) (fun i=>(mkB (valsL (r.drop i)),r.take i,((r.length-i:Nat):Int))) r.length (r:=.inl (mkB [],r)) (fun i hi=>?_) ?_
  ·simpa using this
  ·have hd:r.drop i=r.getD i default::r.drop (i+1):=by
    rw[List.drop_eq_getElem_cons hi]
    simp[List.getD_eq_getElem?_getD,hi]
   have hq:bl (mkB (valsL (r.drop i)))=bl (valB (r.getD i default))++valsL (r.drop (i+1)):=by rw[bl_mk,hd,valsL_cons]
   have hz:(mkB (valsL (r.drop i))).size≤100000000000:=by
    rw[←bl_len,bl_mk]
    have:=valsL_drop_len r i
    omega
   have hp:0<(mkB (valsL (r.drop i))).size:=by
    rw[←bl_len,hq,List.length_append]
    have:=valB_pos (r.getD i default)
    omega
   have ht:r.take i++[r.getD i default]=r.take (i+1):=by
    rw[List.take_succ_eq_append_getElem hi]
    simp[List.getD_eq_getElem?_getD,hi]
   have h180:G180s0 ⟨mkB (valsL (r.drop i)),false⟩=some ((mkB (valsL (r.drop i))).size:Int):=rfl
   unfold T136_L0
   simp only[Tr.den,h180,Option.bind_some]
   rw[if_pos (decT (by omega)),if_neg (by rw[beq_iff_eq]; omega),G181_eq (hv _ (getD_mem hi)) hq hz]
   simp only[Option.bind_some]
   rw[if_pos (by simp only[List.length_take,List.length_cons,List.length_nil]; omega),ht]
   congr 4
   rw[wrap_id (by omega) (by omega)]
   omega
  ·unfold T136_L0
   simp only[Tr.den]
   rw[if_neg (decF (by omega))]
   simp[valsL]
 rw[key]
 simp only[sel,Option.bind_some,G71_eq,Bool.not_true,Bool.false_eq_true,if_false]
abbrev KP:=List (ByteArray×List GDelta)
def setP(m:KP)(k:ByteArray)(l:List GDelta):KP:=if l=[] then mdel m k else mput m k l
def valP(m:KP)(k:ByteArray):List GDelta:=(mlook m k).getD []
structure MP (m:KP):Prop where
 mc:MC m
 ne:∀ k l,mlook m k=some l→l≠[]
theorem MP.nil:MP []:=⟨MC_nil,fun k l h=>by simp[mlook]at h⟩
theorem MP.look{m:KP}(h:MP m)(k:ByteArray):mlook m k=if valP m k=[] then none else some (valP m k):=by
 unfold valP
 cases hc:mlook m k with
 | none=>rfl
 | some l=>rw[Option.getD_some,if_neg (h.ne k l hc)]
theorem MP.key{m:KP}(h:MP m){k:ByteArray}:k∈mkeys m↔valP m k≠[]:=by
 rw[mkeys_look,h.look]
 constructor
 ·rintro⟨c,hc⟩ h0
  rw[if_pos h0]at hc; cases hc
 ·intro h0
  exact⟨_,if_neg h0⟩
theorem MP.ext{m w:KP}(h:MP m)(h':MP w)(e:∀ k,valP m k=valP w k):m=w:=h.mc.ext LO.bytes h'.mc fun k=>by rw[h.look,h'.look,e]
theorem setP_look(m:KP)(k:ByteArray)(l:List GDelta)(k':ByteArray):mlook (setP m k l) k'=if k=k' then (if l=[] then none else some l) else mlook m k':=by
 unfold setP
 split
 ·exact mlook_mdel m k k'
 ·exact mlook_mput m k l k'
theorem setP_val(m:KP)(k:ByteArray)(l:List GDelta)(k':ByteArray):valP (setP m k l) k'=if k=k' then l else valP m k':=by
 unfold valP
 rw[setP_look]
 split
 ·split
  ·rename_i h; rw[h]; rfl
  ·rfl
 ·rfl
theorem MP.set{m:KP}(h:MP m)(k:ByteArray)(l:List GDelta):MP (setP m k l):=by
 refine⟨?_,fun k' l' hk=>?_⟩
 ·unfold setP
  split
  ·exact h.mc.mdel k
  ·exact h.mc.mput LO.bytes k l
 ·rw[setP_look]at hk
  split at hk
  ·split at hk
   ·cases hk
   ·rename_i h0; cases hk; exact h0
  ·exact h.ne k' l' hk
def setsP(f:ByteArray→List GDelta)(ks:List ByteArray)(m:KP):KP:=ks.foldl (fun m' k=>setP m' k (f k)) m
theorem setsP_mp(f:ByteArray→List GDelta):∀ (ks:List ByteArray) {m:KP},MP m→MP (setsP f ks m):=by
 intro ks
 induction ks with
 | nil=>exact fun h=>h
 | cons a ks ih=>exact fun h=>ih (h.set _ _)
theorem setsP_val(f:ByteArray→List GDelta)(k:ByteArray):∀ (ks:List ByteArray) (m:KP),(k∈ks→valP (setsP f ks m) k=f k)∧(k∉ks→valP (setsP f ks m) k=valP m k):=by
 intro ks
 induction ks with
 | nil=>exact fun m=>⟨fun h=>by simp at h,fun _=>rfl⟩
 | cons a ks ih=>
  intro m
  have ih:=ih (setP m a (f a))
  unfold setsP at ih ⊢
  rw[List.foldl_cons]
  refine⟨fun h=>?_,fun h=>?_⟩
  ·by_cases h':k∈ks
   ·exact ih.1 h'
   ·rw[ih.2 h',setP_val]
    rcases List.mem_cons.1 h with rfl | h
    ·rw[if_pos rfl]
    ·exact absurd h h'
  ·simp only[List.mem_cons,not_or]at h
   rw[ih.2 h.2,setP_val,if_neg (fun he=>h.1 he.symm)]
structure WInv (f:ByteArray→List GDelta)(ks:List ByteArray)(m:KP)(rem:List ByteArray)(m':KP):Prop where
 nd:rem.Nodup
 sub:∀ k,k∈rem→k∈ks
 mp:MP m'
 new:∀ k,k∈ks→k∉rem→valP m' k=f k
 old:∀ k,k∉ks∨k∈rem→valP m' k=valP m k
theorem WInv.start{f:ByteArray→List GDelta}{ks:List ByteArray}{m:KP}(h:ks.Nodup)(hm:MP m):WInv f ks m ks m:=⟨h,fun _ h=>h,hm,fun k h h'=>absurd h h',fun k _=>rfl⟩
theorem WInv.step{f:ByteArray→List GDelta}{ks:List ByteArray}{m:KP}{rem:List ByteArray}{m':KP}(h:WInv f ks m rem m'){k:ByteArray}(hk:k∈rem):WInv f ks m (kerase rem k) (setP m' k (f k)):=by
 refine⟨kerase_nodup h.nd k,fun k' hk'=>h.sub k' ((kerase_mem h.nd).1 hk').2,h.mp.set _ _,fun k' q1 q2=>?_,fun k' q=>?_⟩
 ·rw[setP_val]
  by_cases hkk:k=k'
  ·subst hkk; rw[if_pos rfl]
  ·rw[if_neg hkk]
   exact h.new k' q1 fun h'=>q2 ((kerase_mem h.nd).2 ⟨fun he=>hkk he.symm,h'⟩)
 ·rw[setP_val]
  have hkk:¬ k=k':=by
   rintro rfl
   rcases q with q | q
   ·exact q (h.sub k hk)
   ·exact((kerase_mem h.nd).1 q).1 rfl
  rw[if_neg hkk]
  exact h.old k' (q.imp id fun q=>((kerase_mem h.nd).1 q).2)
theorem WInv.fin{f:ByteArray→List GDelta}{ks:List ByteArray}{m:KP}{m':KP}(hm:MP m)(h:WInv f ks m [] m'):m'=setsP f ks m:=by
 refine h.mp.ext (setsP_mp f ks hm) fun k=>?_
 by_cases hk:k∈ks
 ·rw[h.new k hk (by simp),(setsP_val f k ks m).1 hk]
 ·rw[h.old k (.inl hk),(setsP_val f k ks m).2 hk]
def pushP(n:GNode)(l:List GDelta)(m:KP):KP:=setsP (fun k=>cons (valP m k++ofK n 0 k l)) (mkeys (groupM n 0 l)) m
def closeP(t:Int)(m:KP):KP:=setsP (fun k=>(valP m k).filter (aft t)) (mkeys m) m
theorem groupM_key{n:GNode}{l:List GDelta}{k:ByteArray}:k∈mkeys (groupM n 0 l)↔ofK n 0 k l≠[]:=by
 rw[mkeys_look,groupM_look]
 constructor
 ·rintro⟨c,hc⟩ h0
  rw[if_pos h0]at hc; cases hc
 ·intro h0
  exact⟨_,if_neg h0⟩
theorem pushP_val{n:GNode}{l:List GDelta}{m:KP}(k:ByteArray)(hc:Can (valP m k)):valP (pushP n l m) k=cons (valP m k++ofK n 0 k l):=by
 by_cases hk:k∈mkeys (groupM n 0 l)
 ·exact(setsP_val _ k _ m).1 hk
 ·unfold pushP
  rw[(setsP_val _ k _ m).2 hk]
  have h0:ofK n 0 k l=[]:=Classical.byContradiction fun h=>hk (groupM_key.2 h)
  rw[h0,List.append_nil,cons_id hc]
theorem closeP_val{t:Int}{m:KP}(hm:MP m)(k:ByteArray):valP (closeP t m) k=(valP m k).filter (aft t):=by
 by_cases hk:k∈mkeys m
 ·exact(setsP_val _ k _ m).1 hk
 ·unfold closeP
  rw[(setsP_val _ k _ m).2 hk]
  have h0:valP m k=[]:=Classical.byContradiction fun h=>hk (hm.key.2 h)
  rw[h0]; rfl
structure QInv (n:GNode)(a:List GDelta)(t:Int)(m:KP):Prop where
 mp:MP m
 val:∀ k,valP m k=ofK n 0 k (a.filter (aft t))
theorem QInv.init(n:GNode)(t:Int):QInv n [] t []:=⟨.nil,fun k=>rfl⟩
theorem QInv.push{n:GNode}{a:List GDelta}{t:Int}{m:KP}(h:QInv n a t m)(ha:Can a){l:List GDelta}(hl:okN l)(hal:∀ d,d∈l→aft t d=true):QInv n (cons (a++l)) t (pushP n (cons l) m):=by
 refine⟨setsP_mp _ _ h.mp,fun k=>?_⟩
 rw[pushP_val k (by rw[h.val]; exact(ha.filter _).filter _),h.val,ofK_push ha hl hal]
theorem QInv.close{n:GNode}{a:List GDelta}{t t':Int}{m:KP}(h:QInv n a t m)(ht:t≤t'):QInv n a t' (closeP t' m):=by
 refine⟨setsP_mp _ _ h.mp,fun k=>?_⟩
 rw[closeP_val h.mp,h.val]
 unfold ofK
 rw[filter_comm',aft_aft ht]
def allP(m:KP):List GDelta:=(mkeys m).flatMap (valP m)
theorem wt_flat{α:Type}(p:Pl→Bool)(f:α→List GDelta):∀ ks:List α,wt p (ks.flatMap f)=(ks.map fun k=>wt p (f k)).foldr (·+·) 0
 | []=>rfl
 | k::ks=>by rw[List.flatMap_cons,wt_app,wt_flat p f ks]; rfl
theorem sumK_map(f:ByteArray→Int):∀ ks:List ByteArray,sumK f ks=(ks.map f).foldr (·+·) 0
 | []=>rfl
 | k::ks=>by simp only[sumK,sumK_map f ks,List.map_cons,List.foldr_cons]
theorem QInv.kept{n:GNode}{a:List GDelta}{t:Int}{m:KP}(h:QInv n a t m)(ha:Can a):cons (allP m)=a.filter (aft t):=by
 have hN:okN (allP m):=fun x hx=>by
  obtain⟨k,_,hx⟩:=List.mem_flatMap.1 hx
  rw[h.val]at hx
  exact ha.n64 x (List.mem_filter.1 (ofK_mem.1 hx).1).1
 refine cons_eq (ha.filter _) hN fun p=>?_
 congr 1
 unfold allP
 rw[wt_flat,←sumK_map,←sumK_ofK p n 0 (mkeys m) (h.mp.mc.nodup LO.bytes) (a.filter (aft t)) fun x hx=>h.mp.key.2 fun h0=>by
  rw[h.val]at h0
  have:x∈ofK n 0 (kd n 0 x) (a.filter (aft t)):=ofK_mem.2 ⟨hx,rfl⟩
  rw[h0]at this; simp at this]
 exact sumK_congr fun k _=>by rw[h.val]
abbrev LP:=List (ByteArray×List GDelta)
def skipU(n:GNode)(a:Int):Nat→Int
 | 0=>a
 | k+1=>if ((n.Seq.getD k default).Rep==2)=true∧(bitA .i64 (shrI .i64 (skipU n a k) k) 1==1)=true then bitO .i64 (skipU n a k) (shlI .i64 1 (k+1:Nat)) else skipU n a k
def skipF(n:GNode)(a:Int):Int:=skipU n a n.Seq.length
def manyU(n:GNode):Nat→Int
 | 0=>0
 | k+1=>if ((n.Seq.getD k default).Rep==1)=true then bitO .i64 (manyU n k) (shlI .i64 1 k) else manyU n k
def nxF(n:GNode)(now:Int)(p:GPlace):Int:=skipF n (bitO .i64 (shlI .i64 (bitA .i64 now p.fits_) 1) (bitA .i64 (bitA .i64 now p.fits_) (manyU n n.Seq.length)))
def hitF(n:GNode)(s:Int):Bool:=bitA .i64 s (shlI .i64 1 (n.Seq.length:Int)) != 0
theorem G375s0_eq(a:Int)(fs:List GFunc)(n:GNode)(c:Int)(m:LP)(hn:n.Seq.length≤1000):G375s0 a fs n c m=some (skipF n a):=by
 unfold G375s0 T375s0
 simp only[Tr.den]
 have h1:=while_trace (bd:=fun s=>(T375s0_L0 fs n c m s).den) (fun k=>(skipU n a k,(k:Int))) n.Seq.length (r:=.inl (skipF n a)) (fun k hk=>?_) ?_
 ·exact(congrArg (fun x=>Option.bind x _) h1).trans rfl
 ·unfold T375s0_L0
  simp only[Tr.den,Int.toNat_natCast]
  rw[if_pos (decT (by omega)),if_pos (by omega),wrap_inc (by omega)]
  conv=>rhs; rw[skipU]
  by_cases hr:((n.Seq.getD k default).Rep==2)=true
  ·rw[if_pos hr,if_pos (by omega)]
   simp only[Option.bind_some]
   by_cases hb:(bitA .i64 (shrI .i64 (skipU n a k) k) 1==1)=true
   ·rw[if_pos hb,if_pos (by omega),if_pos ⟨hr,hb⟩]; rfl
   ·rw[if_neg hb,if_neg (fun h=>hb h.2)]; rfl
  ·rw[if_neg hr]
   simp only[Option.bind_some,Bool.false_eq_true,if_false]
   rw[if_neg (fun h=>hr h.1)]
 ·unfold T375s0_L0
  simp only[Tr.den]
  rw[if_neg (decF (by omega))]; rfl
theorem G375s1_eq(a:Int)(fs:List GFunc)(n:GNode)(c:Int)(m:LP)(hn:n.Seq.length≤1000):G375s1 a fs n c m=some (skipF n a):=by
 rw[←G375s0_eq a fs n c m hn]
 unfold G375s1 G375s0 T375s1 T375s0
 simp only[Tr.den]
 have e:∀ s,(T375s1_L0 fs n c m s).den=(T375s0_L0 fs n c m s).den:=by
  rintro⟨v1,v2⟩
  unfold T375s1_L0 T375s0_L0
  simp only[Tr.den]
 simp only[e]
theorem G359s0_eq(fs:List GFunc)(n:GNode)(c:Int)(m:LP)(hn:n.Seq.length≤1000):G359s0 fs n c m=some (skipF n 1,manyU n n.Seq.length):=by
 unfold G359s0 T359s0
 simp only[Tr.den]
 have h1:=while_trace (bd:=fun s=>(T359s0_L0 fs n c m s).den) (fun k=>(manyU n k,(k:Int))) n.Seq.length (r:=.inl (manyU n n.Seq.length)) (fun k hk=>?_) ?_
 ·refine(congrArg (fun x=>Option.bind x _) h1).trans ?_
  simp only[Option.bind_some,sel]
  rw[G375s0_eq 1 fs n c m hn]; rfl
 ·unfold T359s0_L0
  simp only[Tr.den,Int.toNat_natCast]
  rw[if_pos (decT (by omega)),if_pos (by omega),wrap_inc (by omega)]
  conv=>rhs; rw[manyU]
  by_cases hr:((n.Seq.getD k default).Rep==1)=true
  ·rw[if_pos hr,if_pos (by omega),if_pos hr]; rfl
  ·rw[if_neg hr,if_neg hr]; rfl
 ·unfold T359s0_L0
  simp only[Tr.den]
  rw[if_neg (decF (by omega))]
theorem G376s0_eq(now:Int)(p:GPlace)(fs:List GFunc)(n:GNode)(c:Int)(m:LP)(hn:n.Seq.length≤1000):G376s0 now p fs n c m (manyU n n.Seq.length)=some (nxF n now p):=by
 unfold G376s0 T376s0
 simp only[Tr.den]
 rw[G375s1_eq _ fs n c m hn]; rfl
def keyP(n:GNode)(row:List GValue):List GValue:=n.Key.map fun c=>row.getD c.toNat default
theorem G357s0_eq(row:List GValue)(fs:List GFunc)(n:GNode)(c:Int)(m:LP)(hc:okCols n.Key row)(hl:n.Key.length≤1000):G357s0 row fs n c m=some (keyP n row):=by
 unfold G357s0 T357s0
 simp only[Tr.den]
 have h1:=while_trace (bd:=fun s=>(T357s0_L0 row n s).den) (fun k=>((n.Key.take k).map fun c=>row.getD c.toNat default,(k:Int))) n.Key.length (r:=.inl (keyP n row)) (fun k hk=>?_) ?_
 ·rw[wrap_id (by omega) (by omega)]
  rw[if_pos ⟨⟨by omega,by omega⟩,by omega⟩]
  exact(congrArg (fun x=>Option.bind x _) h1).trans rfl
 ·unfold T357s0_L0
  simp only[Tr.den,Int.toNat_natCast]
  have h2:=hc _ (getD_mem hk)
  rw[if_pos (decT (by omega)),if_pos (by omega),if_pos h2,if_pos (by simp; omega),wrap_inc (by omega),take_succ_getD hk,List.map_append]
  rfl
 ·unfold T357s0_L0
  simp only[Tr.den]
  rw[if_neg (decF (by omega)),List.take_length]; rfl
theorem keyP_len(n:GNode)(row:List GValue):(keyP n row).length=n.Key.length:=List.length_map _
theorem G340s0_eq(l:List GDelta)(fs:List GFunc)(n:GNode)(c:Int)(m:LP)(h:okI n 0 l)(hc:n.Key.length≤1000)(hn:l.length≤1000000000000):G340s0 l fs n c m=some (groupM n 0 l):=by
 unfold G340s0 T340s0
 simp only[Tr.den]
 have h1:=while_trace (bd:=fun s=>(T340s0_L0 l fs n c m s).den) (fun k=>(groupM n 0 (l.take k),(k:Int))) l.length (r:=.inl (groupM n 0 l)) (fun k hk'=>?_) ?_
 ·exact(congrArg (fun x=>Option.bind x _) h1).trans rfl
 ·unfold T340s0_L0
  simp only[Tr.den,Int.toNat_natCast]
  have hm:=getD_mem hk'
  have hcl:okCols n.Key (l.getD k default).Row:=h.c _ hm
  rw[if_pos (decT (by omega)),if_pos (by omega),G357s0_eq _ fs n c m hcl hc]
  simp only[Option.bind_some]
  rw[G120_eq _ (fun v hv=>by
    obtain⟨c,hcm,rfl⟩:=List.mem_map.1 hv
    exact okVs.get (h.v _ hm) _) (by rw[keyP_len]; exact hc)]
  simp only[Option.bind_some]
  have h2:=ofK_len n 0 (keyB n 0 (l.getD k default).Row) (l.take k)
  simp only[List.length_take]at h2
  have hkey:rowB (keyP n (l.getD k default).Row)=keyB n 0 (l.getD k default).Row:=rfl
  rw[hkey,if_pos (by rw[groupM_get]; simp only[List.length_cons,List.length_nil]; omega),wrap_inc (by omega)]
  congr 3
  unfold groupM
  rw[take_succ_getD hk',List.foldl_append]
  rfl
 ·unfold T340s0_L0
  simp only[Tr.den]
  rw[if_neg (decF (by omega)),List.take_length]
theorem G339s0_eq(k:ByteArray)(l:List GDelta)(fs:List GFunc)(n:GNode)(c:Int)(m:LP)(ks:List ByteArray):G339s0 k l fs n c m ks=some (setP m k l):=by
 unfold G339s0 T339s0
 simp only[Tr.den]
 unfold setP
 by_cases h:l=[]
 ·rw[if_pos (by rw[h]; rfl),if_pos h]; rfl
 ·rw[if_neg (fun h'=>h (List.eq_nil_of_length_eq_zero (by have:=beq_iff_eq.1 h'; omega))),if_neg h]; rfl
theorem G339s1_eq(k:ByteArray)(l:List GDelta)(fs:List GFunc)(n:GNode)(c:Int)(m:LP):G339s1 k l fs n c m=some (setP m k l):=by
 unfold G339s1 T339s1
 simp only[Tr.den]
 unfold setP
 by_cases h:l=[]
 ·rw[if_pos (by rw[h]; rfl),if_pos h]; rfl
 ·rw[if_neg (fun h'=>h (List.eq_nil_of_length_eq_zero (by have:=beq_iff_eq.1 h'; omega))),if_neg h]; rfl
noncomputable def evV (fs:List GFunc)(e:Expr)(d:GDelta):GValue:=(G344 fs e d.Time d.Row).getD default
def okEv(fs:List GFunc)(n:GNode)(l:List GDelta):Prop:=∀ d,d∈l→∀ i,i<n.Seq.length→(G344 fs (n.Seq.getD i default).Pred d.Time d.Row).isSome=true
theorem okEv.get{fs:List GFunc}{n:GNode}{l:List GDelta}(h:okEv fs n l){d:GDelta}(hd:d∈l){i:Nat}(hi:i<n.Seq.length):G344 fs (n.Seq.getD i default).Pred d.Time d.Row=some (evV fs (n.Seq.getD i default).Pred d):=by
 have:=h d hd i hi
 obtain⟨v,hv⟩:=Option.isSome_iff_exists.1 this
 unfold evV
 rw[hv]; rfl
theorem okEv.sub{fs:List GFunc}{n:GNode}{l r:List GDelta}(h:okEv fs n l)(hs:∀ x,x∈r→x∈l):okEv fs n r:=fun d hd=>h d (hs d hd)
noncomputable def fitU (fs:List GFunc)(n:GNode)(d:GDelta):Nat→Int
 | 0=>0
 | k+1=>if ((evV fs (n.Seq.getD k default).Pred d).N==1)=true then bitO .i64 (fitU fs n d k) (shlI .i64 1 k) else fitU fs n d k
def inW(n:GNode)(lo hi:Int)(d:GDelta):Bool:=decide (lo-n.Size<d.Time)&&decide (d.Time≤hi)
noncomputable def plD (fs:List GFunc)(n:GNode)(d:GDelta):List GPlace:=List.replicate d.N.toNat ⟨d.Time,fitU fs n d n.Seq.length⟩
noncomputable def plF (fs:List GFunc)(n:GNode)(l:List GDelta)(lo hi:Int):List GPlace:=(l.filter (inW n lo hi)).flatMap (plD fs n)
theorem plF_len{fs:List GFunc}{n:GNode}{lo hi:Int}:∀ {l:List GDelta},(∀ d,d∈l→d.N≤1000)→(plF fs n l lo hi).length≤l.length*1000
 | [],_=>by simp[plF]
 | d::l,h=>by
  have ih:=plF_len (fs:=fs) (n:=n) (lo:=lo) (hi:=hi) (l:=l) fun x hx=>h x (List.mem_cons_of_mem _ hx)
  have hd:=h d List.mem_cons_self
  unfold plF at ih ⊢
  rw[List.filter_cons,List.length_cons]
  split
  ·rw[List.flatMap_cons,List.length_append]
   unfold plD
   rw[List.length_replicate]
   unfold plD at ih
   omega
  ·omega
theorem plF_succ(fs:List GFunc)(n:GNode)(l:List GDelta)(lo hi:Int){k:Nat}(hk:k<l.length):plF fs n (l.take (k+1)) lo hi=plF fs n (l.take k) lo hi++(if inW n lo hi (l.getD k default)=true then plD fs n (l.getD k default) else []):=by
 unfold plF
 rw[take_succ_getD hk,List.filter_append,List.flatMap_append]
 congr 1
 rw[List.filter_cons]
 split
 ·simp
 ·simp
theorem G358s0_eq(l:List GDelta)(lo hi:Int)(fs:List GFunc)(n:GNode)(c:Int)(m:LP)(hn:n.Seq.length≤1000)(hev:okEv fs n l)(hN:∀ d,d∈l→d.N≤1000)(hl:l.length≤1000000)
  (hlo:0≤lo∧lo≤4398046511104)(hs:0≤n.Size∧n.Size≤10000):G358s0 l lo hi fs n c m=some (plF fs n l lo hi):=by
 unfold G358s0 T358s0
 simp only[Tr.den]
 have h1:=while_trace (bd:=fun s=>(T358s0_L0 l lo hi fs n c m s).den) (fun k=>(plF fs n (l.take k) lo hi,(k:Int))) l.length (r:=.inl (plF fs n l lo hi)) (fun k hk=>?_) ?_
 ·exact(congrArg (fun x=>Option.bind x _) h1).trans rfl
 ·unfold T358s0_L0
  simp only[Tr.den,Int.toNat_natCast]
  have hm:=getD_mem hk
  have hNk:=hN _ hm
  have hpl:(plF fs n (l.take k) lo hi).length≤1000*1000000:=by
   have:=plF_len (fs:=fs) (n:=n) (lo:=lo) (hi:=hi) (l:=l.take k) fun d hd=>hN d (List.mem_of_mem_take hd)
   rw[List.length_take]at this
   omega
  rw[if_pos (decT (by omega)),if_pos (by omega),wrap_inc (by omega),wrap_id (n:=lo-n.Size) (by omega) (by omega),plF_succ fs n l lo hi hk]
  by_cases h2:(l.getD k default).Time≤lo-n.Size
  ·rw[if_pos (decT h2),if_neg (by unfold inW; rw[decide_eq_false (by omega)]; simp)]
   simp
  ·rw[if_neg (decF h2)]
   simp only[Option.bind_some]
   by_cases h3:(l.getD k default).Time>hi
   ·rw[if_pos (decT h3),if_neg (by unfold inW; rw[decide_eq_false (p:=(l.getD k default).Time≤hi) (by omega)]; simp)]
    simp
   ·rw[if_neg (decF h3),if_pos (by unfold inW; rw[decide_eq_true (show lo-n.Size<(l.getD k default).Time by omega),decide_eq_true (show (l.getD k default).Time≤hi by omega)]; rfl)]
    have w1:=while_trace (bd:=fun s=>(T358s0_L1 l lo hi fs n c m (k:Int) s).den) (fun i=>(plF fs n (l.take k) lo hi,fitU fs n (l.getD k default) i,(i:Int))) n.Seq.length (r:=.inl (plF fs n (l.take k) lo hi,fitU fs n (l.getD k default) n.Seq.length)) (fun i hi'=>?_) ?_
    ·have w2:=while_trace (bd:=fun s=>(T358s0_L2 l (k:Int) (fitU fs n (l.getD k default) n.Seq.length) s).den) (fun i=>(plF fs n (l.take k) lo hi++List.replicate i ⟨(l.getD k default).Time,fitU fs n (l.getD k default) n.Seq.length⟩,(i:Int))) (l.getD k default).N.toNat (r:=.inl (plF fs n (l.take k) lo hi++plD fs n (l.getD k default))) (fun i hi'=>?_) ?_
     ·have e1:whileM (fun s=>(T358s0_L1 l lo hi fs n c m (k:Int) s).den) (plF fs n (l.take k) lo hi,0,0)=some (.inl (plF fs n (l.take k) lo hi,fitU fs n (l.getD k default) n.Seq.length)):=w1
      have e2:whileM (fun s=>(T358s0_L2 l (k:Int) (fitU fs n (l.getD k default) n.Seq.length) s).den) (plF fs n (l.take k) lo hi,0)=some (.inl (plF fs n (l.take k) lo hi++plD fs n (l.getD k default))):=by
       have:=w2
       simp only[List.replicate_zero,List.append_nil]at this
       exact this
      rw[e1]
      simp only[Option.bind_some,sel]
      rw[e2]
      rfl
     ·unfold T358s0_L2
      simp only[Tr.den,Int.toNat_natCast]
      rw[if_pos (decT (by omega)),if_pos (by simp only[List.length_append,List.length_replicate,List.length_cons,List.length_nil]; omega),wrap_inc (by omega),List.replicate_succ',List.append_assoc]
     ·unfold T358s0_L2
      simp only[Tr.den,Int.toNat_natCast]
      rw[if_neg (decF (by omega))]; rfl
    ·unfold T358s0_L1
     simp only[Tr.den,Int.toNat_natCast]
     rw[if_pos (decT (by omega)),if_pos (by omega),hev.get hm hi',wrap_inc (by omega)]
     simp only[Option.bind_some]
     conv=>rhs; rw[fitU]
     by_cases hr:((evV fs (n.Seq.getD i default).Pred (l.getD k default)).N==1)=true
     ·rw[if_pos hr,if_pos (by omega),if_pos hr]; rfl
     ·rw[if_neg hr,if_neg hr]; rfl
    ·unfold T358s0_L1
     simp only[Tr.den,Int.toNat_natCast]
     rw[if_neg (decF (by omega))]
 ·unfold T358s0_L0
  simp only[Tr.den]
  rw[if_neg (decF (by omega)),List.take_length]
theorem okExpr.bnd{e:Expr}(h:okExpr e):BndE e:=by
 induction h with
 | mk0 ha hb hs hn hl ih=>exact .mk hs hn (fun i hi=>ih _ (getD_mem hi))
theorem okFuncs{fs:List GFunc}{n:Nat}(h:okL n okGFunc fs):fs.length≤1048576∧∀ i,i<fs.length→BndE (fs.getD i default).Body∧(fs.getD i default).Params.length≤1048576:=
 ⟨h.1,fun i hi=>by
  have h1:=h.2 _ (getD_mem hi)
  exact⟨h1.2.2.2.bnd,h1.2.1.1⟩⟩
theorem G344_sp{fs:List GFunc}{n:Nat}(hf:okL n okGFunc fs)(h:G82 fs=some true){cs:List Int}{e:Expr}(he:okExpr e){t:Int}(ht:G152 fs cs [] e=some (t,true))
  (tm:Int){row:List GValue}(hr:row.length=cs.length)(hs:∀ v,v∈row→Sm v):Sp (G344 fs e tm row) Sm:=by
 obtain⟨hl,hb⟩:=okFuncs hf
 obtain⟨k,hk⟩:=right_okE hl hb h he.bnd ht
 unfold G344 T344
 simp only[Tr.den]
 exact Sq.bind _ (G362_sp fs cs.length 0 k _ e ⟨rfl,hr,rfl,hs,fun v hv=>by cases hv⟩ hk) fun v hv=>sq_some.2 hv
def frF(n:GNode)(ps:List GPlace):List Int:=frmM GPlace.time_ (nxF n) (hitF n) n.Size (skipF n 1) 0 ps (List.replicate ps.length (-1))
noncomputable def matF (fs:List GFunc)(n:GNode)(l:List GDelta)(lo hi:Int):List GDelta:=
 if plF fs n l lo hi=[] then [] else outsM GPlace.time_ (keyP n (l.getD 0 default).Row) lo (plF fs n l lo hi) 0 (frF n (plF fs n l lo hi))
theorem frF_len(n:GNode)(ps:List GPlace):(frF n ps).length=ps.length:=by
 unfold frF; rw[frmM_len,List.length_replicate]
theorem frF_mem{n:GNode}{ps:List GPlace}{x:Int}(h:x∈frF n ps):x<0∨(0≤x∧x<ps.length):=by
 rcases frmM_mem _ _ _ _ _ _ _ _ _ h with h | h
 ·exact .inr ⟨h.1,by omega⟩
 ·have:=replicate_mem h; exact .inl (by omega)
def okPl(ps:List GPlace):Prop:=∀ p,p∈ps→0≤p.time_∧p.time_≤2199023255552
theorem okPl.get{ps:List GPlace}(h:okPl ps){k:Nat}(hk:k<ps.length):0≤(ps.getD k default).time_∧(ps.getD k default).time_≤2199023255552:=h _ (getD_mem hk)
theorem plF_ok{fs:List GFunc}{n:GNode}{l:List GDelta}{lo hi:Int}(h:okTm l):okPl (plF fs n l lo hi):=by
 intro p hp
 obtain⟨d,hd,hp⟩:=List.mem_flatMap.1 hp
 have:=(List.mem_replicate.1 hp).2
 rw[this]
 exact h d (List.mem_filter.1 hd).1
theorem frmM_nil{α:Type}[Inhabited α](tm:α→Int)(nx:Int→α→Int)(hit:Int→Bool)(sz bg i:Int)(fs:List Int):frmM tm nx hit sz bg i [] fs=fs:=by unfold frmM; rfl
theorem inner341(l:List GDelta)(lo:Int)(fs:List GFunc)(n:GNode)(c:Int)(m:LP)(ps:List GPlace)(bg:Int)(k:Nat)(fr:List Int)(hn:n.Seq.length≤1000)(hps:okPl ps)(hl:ps.length≤1000000000000)(hk:k<ps.length)(hf:fr.length=ps.length):
  Sp (whileM (fun s=>(T341s0_L1 l lo fs n c m ps (bg,manyU n n.Seq.length) (k:Int) s).den) (fr,bg,(k:Int))) (fun z=>z = .inl (tgtM GPlace.time_ (nxF n) (hitF n) n.Size bg ps fr k)):=by
 refine Sq.while (fun s=>∃ j:Nat,s.2.2=(j:Int)∧k≤j∧j≤ps.length∧s.1.length=ps.length∧s.1.take j++wlkM GPlace.time_ (nxF n) (hitF n) n.Size (ps.getD k default).time_ (k:Int) s.2.1 (ps.drop j) (s.1.drop j)=tgtM GPlace.time_ (nxF n) (hitF n) n.Size bg ps fr k)
  (fun s=>ps.length-s.2.2.toNat) (fun s hs=>?_) ⟨k,rfl,Nat.le_refl _,by omega,hf,rfl⟩
 obtain⟨v7,v8,v9⟩:=s
 obtain⟨j,e,hkj,hj,hlen,hT⟩:=hs
 simp only at e hlen hT
 subst e
 unfold T341s0_L1
 simp only[Tr.den,Int.toNat_natCast]
 by_cases hc:j<ps.length
 ·have tk:=hps.get hk
  have tj:=hps.get hc
  have ew:=wrap_id (n:=(ps.getD j default).time_-(ps.getD k default).time_) (by omega) (by omega)
  rw[if_pos (decT (by omega)),if_pos (by omega)]
  by_cases h1:(ps.getD j default).time_-(ps.getD k default).time_<n.Size
  ·rw[if_pos (decT (by rw[ew]; exact h1))]
   simp only[Option.bind_some]
   by_cases h2:v8=0
   ·rw[if_neg (bneF h2)]
    refine sq_some.2 ?_
    simp only[sel]
    rw[inM_stop GPlace.time_ (nxF n) (hitF n) n.Size hc hlen hT (fun h=>h.2 h2)]
   ·rw[if_pos (bneT h2),if_pos (by omega),G376s0_eq v8 _ fs n c m hn]
    simp only[Option.bind_some]
    have hstep:=inM_step GPlace.time_ (nxF n) (hitF n) n.Size hc hlen hT ⟨h1,h2⟩
    simp only at hstep
    have fin:∀ fr',fr'=(if hitF n (nxF n v8 (ps.getD j default))=true∧v7.getD j default<0 then v7.set j (k:Int) else v7)→fr'.length=ps.length →
      ∃ q:Nat,IntKind.i64.wrap ((j:Int)+1)=(q:Int)∧k≤q∧q≤ps.length∧fr'.length=ps.length∧fr'.take q++wlkM GPlace.time_ (nxF n) (hitF n) n.Size (ps.getD k default).time_ (k:Int) (nxF n v8 (ps.getD j default)) (ps.drop q) (fr'.drop q)=tgtM GPlace.time_ (nxF n) (hitF n) n.Size bg ps fr k:=by
     rintro fr' rfl hl'
     exact⟨j+1,wrap_inc (by omega),by omega,by omega,hl',hstep⟩
    have dec:ps.length-(IntKind.i64.wrap ((j:Int)+1)).toNat<ps.length-(j:Int).toNat:=by
     rw[wrap_inc (by omega)]; omega
    by_cases h3:hitF n (nxF n v8 (ps.getD j default))=true
    ·rw[if_pos (show (bitA .i64 (nxF n v8 (ps.getD j default)) (shlI .i64 1 (n.Seq.length:Int)) != 0)=true from h3),if_pos (by omega),if_pos (by omega)]
     simp only[Option.bind_some]
     by_cases h4:v7.getD j default<0
     ·rw[if_pos (decT h4),if_pos (by omega),if_pos (by omega)]
      refine Sq.bind (fun z=>z=v7.set j (k:Int)) (sq_grd (by simp only[List.all_cons,List.all_nil,Bool.and_true,decide_eq_true_eq]; omega) (sq_some.2 rfl)) (fun z hz=>?_)
      subst hz
      exact sq_some.2 ⟨fin _ (by rw[if_pos ⟨h3,h4⟩]) (by rw[List.length_set]; exact hlen),dec⟩
     ·rw[if_neg (decF h4)]
      exact sq_some.2 ⟨fin _ (by rw[if_neg (fun h=>h4 h.2)]) hlen,dec⟩
    ·rw[if_neg (show ¬ (bitA .i64 (nxF n v8 (ps.getD j default)) (shlI .i64 1 (n.Seq.length:Int)) != 0)=true from h3)]
     simp only[Option.bind_some,Bool.false_eq_true,if_false]
     exact sq_some.2 ⟨fin _ (by rw[if_neg (fun h=>h3 h.1)]) hlen,dec⟩
  ·rw[if_neg (decF (by rw[ew]; exact h1))]
   simp only[Option.bind_some,Bool.false_eq_true,if_false]
   refine sq_some.2 ?_
   simp only[sel]
   rw[inM_stop GPlace.time_ (nxF n) (hitF n) n.Size hc hlen hT (fun h=>h1 h.1)]
 ·rw[if_neg (decF (by omega))]
  simp only[Option.bind_some,Bool.false_eq_true,if_false]
  refine sq_some.2 ?_
  simp only[sel]
  rw[inM_end GPlace.time_ (nxF n) (hitF n) n.Size (by omega) hlen hT]
theorem outer341(l:List GDelta)(lo:Int)(fs:List GFunc)(n:GNode)(c:Int)(m:LP)(ps:List GPlace)(hn:n.Seq.length≤1000)(hps:okPl ps)(hl:ps.length≤1000000000000):
  Sp (whileM (fun s=>(T341s0_L0 l lo fs n c m ps (skipF n 1,manyU n n.Seq.length) s).den) (List.replicate ps.length (-1),0)) (fun z=>z = .inl (frF n ps)):=by
 refine sq_cnt (fun s:List Int×Int=>s.2) ps.length (by omega) (fun s=>s.1.length=ps.length∧s.1.take s.2.toNat++frmM GPlace.time_ (nxF n) (hitF n) n.Size (skipF n 1) s.2 (ps.drop s.2.toNat) (s.1.drop s.2.toNat)=frF n ps) (fun s k hI hk hkN=>?_) ⟨List.length_replicate,rfl⟩ rfl
 obtain⟨v4,v5⟩:=s
 obtain⟨h1,h2⟩:=hI
 simp only at hk h1 h2
 subst hk
 simp only[Int.toNat_natCast]at h2
 unfold T341s0_L0
 simp only[Tr.den]
 by_cases hc:k<ps.length
 ·rw[if_pos (decT (by omega)),if_pos (by omega)]
  refine Sq.bind _ (Sq.of (inner341 l lo fs n c m ps (skipF n 1) k v4 hn hps hl hc h1)) (fun z hz=>?_)
  subst hz
  simp only[sel]
  refine sq_some.2 ⟨rfl,hc,?_,?_⟩
  ·rw[tgtM_len]; exact h1
  ·have:=outM_step GPlace.time_ (nxF n) (hitF n) n.Size hc h1 h2
   simp only
   rw[wrap_inc (by omega),Int.toNat_natCast]
   exact this
 ·rw[if_neg (decF (by omega))]
  refine sq_some.2 ?_
  simp only[sel]
  rw[List.drop_eq_nil_of_le (show ps.length≤k by omega)]at h2
  have e:v4.drop k=[]:=List.drop_eq_nil_of_le (by omega)
  rw[e,frmM_nil,List.append_nil,List.take_of_length_le (by omega)]at h2
  rw[h2]
theorem outsM_cons{α:Type}[Inhabited α](tm:α→Int)(key:List GValue)(low:Int)(ps:List α)(j:Nat)(i:Int)(fr:List Int):outsM tm key low ps j (i::fr)=(if 0≤i∧low≤tm (ps.getD j default) then [⟨tm (ps.getD j default),key++[vI (tm (ps.getD i.toNat default)),vI ((j:Int)-i+1)],1⟩] else [])++outsM tm key low ps (j+1) fr:=rfl
theorem outsM_nil{α:Type}[Inhabited α](tm:α→Int)(key:List GValue)(low:Int)(ps:List α)(j:Nat):outsM tm key low ps j []=[]:=rfl
theorem outs341(lo:Int)(fs:List GFunc)(n:GNode)(c:Int)(m:LP)(ps:List GPlace)(fr:List Int)(key:List GValue)(hps:okPl ps)(hl:ps.length≤1000000000)(hf:fr.length=ps.length)(hfr:∀ x,x∈fr→x<0∨(0≤x∧x<ps.length))(hk:key.length≤1000):
  Sp (whileM (fun s=>(T341s0_L2 lo fs n c m ps fr key s).den) (([]:List GDelta),fr,0)) (fun z=>z = .inl (outsM GPlace.time_ key lo ps 0 fr)):=by
 refine sq_cnt (fun s:List GDelta×List Int×Int=>s.2.2) ps.length (by omega) (fun s=>s.2.1=fr∧s.1.length≤s.2.2.toNat∧s.1++outsM GPlace.time_ key lo ps s.2.2.toNat (fr.drop s.2.2.toNat)=outsM GPlace.time_ key lo ps 0 fr) (fun s k hI hkk hkN=>?_) ⟨rfl,Nat.le_refl _,rfl⟩ rfl
 obtain⟨v18,v19,v20⟩:=s
 obtain⟨h1,h2,h3⟩:=hI
 simp only at hkk h1 h2 h3
 subst hkk h1
 simp only[Int.toNat_natCast]at h2 h3
 unfold T341s0_L2
 simp only[Tr.den,Int.toNat_natCast]
 by_cases hc:k<ps.length
 ·have hcf:k<v19.length:=by omega
  have hx:=hfr _ (getD_mem hcf)
  rw[drop_getD hcf,outsM_cons]at h3
  rw[if_pos (decT (by omega)),if_pos (by omega),if_pos hcf]
  by_cases h4:v19.getD k default≥0
  ·have hx':0≤v19.getD k default∧v19.getD k default<ps.length:=hx.resolve_left (by omega)
   rw[if_pos (decT h4),if_pos (by omega)]
   simp only[Option.bind_some]
   by_cases h5:(ps.getD k default).time_≥lo
   ·rw[if_pos ⟨h4,h5⟩]at h3
    rw[if_pos (decT h5),if_pos (by omega),G64s0_eq key (by omega)]
    simp only[Option.bind_some]
    rw[if_pos hx',G361_eq,G361_eq]
    simp only[Option.bind_some]
    rw[if_pos (by omega),if_pos (by omega),wrap_id (n:=(k:Int)-v19.getD k default) (by omega) (by omega),wrap_id (n:=(k:Int)-v19.getD k default+1) (by omega) (by omega)]
    refine sq_some.2 ⟨rfl,hc,rfl,?_,?_⟩
    ·simp only; rw[wrap_inc (by omega),Int.toNat_natCast,List.length_append]; simp; omega
    ·simp only; rw[wrap_inc (by omega),Int.toNat_natCast,←h3,List.append_assoc]
   ·rw[if_neg (fun h=>h5 h.2)]at h3
    rw[if_neg (decF h5)]
    refine sq_some.2 ⟨rfl,hc,rfl,?_,?_⟩
    ·simp only; rw[wrap_inc (by omega),Int.toNat_natCast]; omega
    ·simp only; rw[wrap_inc (by omega),Int.toNat_natCast,←h3,List.nil_append]
  ·rw[if_neg (fun h=>h4 h.1)]at h3
   rw[if_neg (decF h4)]
   simp only[Option.bind_some,Bool.false_eq_true,if_false]
   refine sq_some.2 ⟨rfl,hc,rfl,?_,?_⟩
   ·simp only; rw[wrap_inc (by omega),Int.toNat_natCast]; omega
   ·simp only; rw[wrap_inc (by omega),Int.toNat_natCast,←h3,List.nil_append]
 ·rw[if_neg (decF (by omega))]
  refine sq_some.2 ?_
  simp only[sel]
  have e:v19.drop k=[]:=List.drop_eq_nil_of_le (by omega)
  rw[e,outsM_nil,List.append_nil]at h3
  rw[h3]
structure okMt (fs:List GFunc)(n:GNode)(l:List GDelta):Prop where
 i:okI n 0 l
 ev:okEv fs n l
 nn:∀ d,d∈l→d.N≤1000
 len:l.length≤1000000
structure okPn (n:GNode):Prop where
 op:n.Op=8
 seq:1≤n.Seq.length∧n.Seq.length≤8
 size:1≤n.Size∧n.Size≤10000
 key:n.Key.length≤10
theorem okMt.nil(fs:List GFunc)(n:GNode):okMt fs n []:=⟨okI.nil,fun d hd=>by simp at hd,fun d hd=>by simp at hd,by simp⟩
theorem okMt.sub{fs:List GFunc}{n:GNode}{l r:List GDelta}(h:okMt fs n l)(hs:∀ x,x∈r→x∈l)(hl:r.length≤1000000):okMt fs n r:=⟨h.i.sub hs,h.ev.sub hs,fun d hd=>h.nn d (hs d hd),hl⟩
theorem G341s0_eq(l:List GDelta)(lo hi:Int)(fs:List GFunc)(n:GNode)(c:Int)(m:LP)(hn:okPn n)(h:okMt fs n l)(hlo:0≤lo∧lo≤4398046511104):G341s0 l lo hi fs n c m=some (matF fs n l lo hi):=by
 have hs:=hn.seq
 have hz:=hn.size
 have hky:=hn.key
 have hll:=h.len
 unfold G341s0 T341s0
 simp only[Tr.den]
 rw[G358s0_eq l lo hi fs n c m (by omega) h.ev h.nn h.len hlo (by omega)]
 have hpl:=plF_len (fs:=fs) (n:=n) (lo:=lo) (hi:=hi) h.nn
 have hok:=plF_ok (fs:=fs) (n:=n) (lo:=lo) (hi:=hi) h.i.t
 have hne:plF fs n l lo hi≠[]→l≠[]:=by
  rintro h1 rfl; exact h1 rfl
 unfold matF
 generalize plF fs n l lo hi=ps at hpl hok hne
 simp only[Option.bind_some]
 by_cases h0:ps=[]
 ·rw[if_pos (by rw[h0]; rfl),if_pos h0]
 ·have hpos:=List.length_pos_iff.2 h0
  have hlpos:=List.length_pos_iff.2 (hne h0)
  rw[if_neg (fun h'=>h0 (List.eq_nil_of_length_eq_zero (by have:=beq_iff_eq.1 h'; omega))),if_neg h0,G359s0_eq fs n c m (by omega)]
  simp only[Option.bind_some]
  rw[if_pos (by omega),if_pos ⟨by omega,by omega,rfl⟩]
  simp only[Option.bind_some,Int.toNat_natCast]
  refine Sp.eq ?_
  refine Sq.bind _ (outer341 l lo fs n c m ps (by omega) hok (by omega)) (fun z hz=>?_)
  subst hz
  simp only[sel]
  rw[if_pos (by omega)]
  have hm:l.getD 0 default∈l:=getD_mem hlpos
  rw[show (Int.toNat 0)=0 from rfl,G357s0_eq _ fs n c m (h.i.c _ hm) (by omega)]
  simp only[Option.bind_some]
  refine Sq.bind _ (outs341 lo fs n c m ps (frF n ps) (keyP n (l.getD 0 default).Row) hok (by omega) (frF_len n ps) (fun x hx=>frF_mem hx) (by rw[keyP_len]; omega)) (fun z hz=>?_)
  subst hz
  exact sq_some.2 rfl
theorem outsM_mem{key:List GValue}{low:Int}{ps:List GPlace}:∀ {j:Nat} {fr:List Int} {d:GDelta},d∈outsM GPlace.time_ key low ps j fr→d.N=1∧d.Row.length=key.length+2∧∃ i:Nat,d.Time=(ps.getD i default).time_∧j≤i∧i<j+fr.length
 | _,[],d,h=>by rw[outsM_nil]at h; simp at h
 | j,i::fr,d,h=>by
  rw[outsM_cons]at h
  rcases List.mem_append.1 h with h | h
  ·split at h
   ·rw[List.mem_singleton]at h
    subst h
    exact⟨rfl,by simp,j,rfl,Nat.le_refl _,by simp⟩
   ·simp at h
  ·obtain⟨h1,h2,q,h3,h4,h5⟩:=outsM_mem h
   exact⟨h1,h2,q,h3,by omega,by rw[List.length_cons]; omega⟩
theorem matF_mem{fs:List GFunc}{n:GNode}{l:List GDelta}{lo hi:Int}{d:GDelta}(h:d∈matF fs n l lo hi)(hl:okTm l):d.N=1∧d.Row.length=n.Key.length+2∧0≤d.Time∧d.Time≤2199023255552:=by
 have hok:=plF_ok (fs:=fs) (n:=n) (lo:=lo) (hi:=hi) hl
 unfold matF at h
 split at h
 ·simp at h
 ·obtain⟨h1,h2,i,h3,_,h5⟩:=outsM_mem h
  rw[frF_len]at h5
  rw[keyP_len]at h2
  exact⟨h1,h2,by rw[h3]; exact hok.get (by omega)⟩
theorem matF_ok{fs:List GFunc}{n:GNode}(hn:okPn n){l:List GDelta}{lo hi:Int}(hl:okTm l):okD (matF fs n l lo hi):=by
 have:=hn.key
 refine⟨fun d hd=>?_,fun d hd=>?_⟩
 ·have:=(matF_mem hd hl).2.1
  unfold okR; omega
 ·rw[(matF_mem hd hl).1]; exact⟨by decide,by decide⟩
theorem matF_len{fs:List GFunc}{n:GNode}{l:List GDelta}{lo hi:Int}(h:∀ d,d∈l→d.N≤1000):(matF fs n l lo hi).length≤l.length*1000:=by
 have h1:=plF_len (fs:=fs) (n:=n) (lo:=lo) (hi:=hi) h
 unfold matF
 split
 ·simp
 ·have:=outsM_len GPlace.time_ (keyP n (l.getD 0 default).Row) lo (plF fs n l lo hi) 0 (frF n (plF fs n l lo hi))
  rw[frF_len]at this
  omega
def oneK(n:GNode)(l:List GDelta):Prop:=∀ d e,d∈l→e∈l→keyP n d.Row=keyP n e.Row
theorem ofK_one(n:GNode)(k:ByteArray)(l:List GDelta):oneK n (ofK n 0 k l):=fun d e hd he=>by
 have h1:=(ofK_mem.1 hd).2
 have h2:=(ofK_mem.1 he).2
 exact rowB_inj (h1.trans h2.symm)
theorem matF_cut{fs:List GFunc}{n:GNode}{l:List GDelta}{lo hi t:Int}(h1:oneK n l)(ht:t≤lo-n.Size):matF fs n (l.filter (aft t)) lo hi=matF fs n l lo hi:=by
 have e:plF fs n (l.filter (aft t)) lo hi=plF fs n l lo hi:=by
  unfold plF
  rw[List.filter_filter]
  congr 2
  funext d
  unfold inW aft
  rw[Bool.eq_iff_iff]
  simp only[Bool.and_eq_true,decide_eq_true_eq]
  constructor <;> intro h <;> omega
 unfold matF
 rw[e]
 split
 ·rfl
 ·rename_i hne
  have hf:l.filter (aft t)≠[]:=by
   intro h0
   rw[←e,h0]at hne
   exact hne rfl
  have hl:l≠[]:=by rintro rfl; exact hf rfl
  have m1:(l.filter (aft t)).getD 0 default∈l:=(List.mem_filter.1 (getD_mem (List.length_pos_iff.2 hf))).1
  rw[h1 _ _ m1 (getD_mem (List.length_pos_iff.2 hl))]
def loP(part:List GDelta):Int:=(part.getD 0 default).Time
def hiP(n:GNode)(part:List GDelta):Int:=(part.getD (part.length-1) default).Time+n.Size-1
noncomputable def chgK (fs:List GFunc)(n:GNode)(before part:List GDelta):List GDelta:=
 cons (matF fs n (cons (before++part)) (loP part) (hiP n part)++(matF fs n before (loP part) (hiP n part)).map neg)
theorem chgK_ok{fs:List GFunc}{n:GNode}(hn:okPn n){before part:List GDelta}(hb:okTm before)(hp:okTm part):okD (chgK fs n before part):=by
 have hc:okTm (cons (before++part)):=fun d hd=>by
  obtain⟨z,hz,e⟩:=cons_mem hd
  have:d.Time=z.Time:=congrArg Prod.fst e
  rw[this]
  exact(List.mem_append.1 hz).elim (hb z) (hp z)
 exact((matF_ok hn hc).app (neg_ok (matF_ok hn hb))).cons
theorem chgK_len{fs:List GFunc}{n:GNode}{before part:List GDelta}(hb:∀ d,d∈before→d.N≤1000)(ha:∀ d,d∈cons (before++part)→d.N≤1000):(chgK fs n before part).length≤(before.length+(before.length+part.length))*1000:=by
 have h1:=cons_len (matF fs n (cons (before++part)) (loP part) (hiP n part)++(matF fs n before (loP part) (hiP n part)).map neg)
 rw[List.length_append,List.length_map]at h1
 have h2:=matF_len (fs:=fs) (n:=n) (lo:=loP part) (hi:=hiP n part) ha
 have h3:=matF_len (fs:=fs) (n:=n) (lo:=loP part) (hi:=hiP n part) hb
 have h4:=cons_len (before++part)
 rw[List.length_append]at h4
 unfold chgK
 omega
noncomputable def chgP (fs:List GFunc)(n:GNode)(r:List GDelta)(m:KP)(k:ByteArray):List GDelta:=chgK fs n (valP m k) (ofK n 0 k r)
theorem G315s0_eq(i:Int)(l:List GDelta)(fs:List GFunc)(n:GNode)(c:Int)(m:KP)(hn:okPn n)(hl:okI n 0 l)(hlen:l.length≤1000)(hm:MP m)(hB:∀ k,okMt fs n (valP m k))(hA:∀ k,okMt fs n (cons (valP m k++ofK n 0 k (cons l))))(hbl:∀ k,(valP m k).length≤1000):
  G315s0 i l fs n c m=some (cons ((mkeys (groupM n 0 (cons l))).flatMap (chgP fs n (cons l) m)),pushP n (cons l) m):=by
 unfold G315s0
 refine Det.eq ?_
 unfold T315s0
 simp only[Tr.wpT]
 have hkI:=hl.cons
 have hkC:=cons_can hl.n
 have hcl:=cons_len l
 refine⟨_,G27_eq l hl.okD.r hl.n (by omega),_,G340s0_eq (cons l) fs n c m hkI (by have:=hn.key; omega) (by omega),?_⟩
 generalize cons l=r at hcl hkI hkC hA
 have hg:=groupM_mc n 0 r
 have hgl:=groupM_len n 0 r
 have hsz:=hn.size
 have hbig:∀ k,(chgP fs n r m k).length≤3000000:=fun k=>by
  have h1:=chgK_len (fs:=fs) (n:=n) (before:=valP m k) (part:=ofK n 0 k r) (hB k).nn (hA k).nn
  have h2:=hbl k
  have h3:=ofK_len n 0 k r
  unfold chgP; omega
 have hokO:∀ k,okD (chgP fs n r m k):=fun k=>chgK_ok hn (hB k).i.t (ofK_okI hkI).t
 refine loopWp (fun s:List ByteArray×KP×KP×List GDelta=>s.2.1=groupM n 0 r∧WInv (fun k=>cons (valP m k++ofK n 0 k r)) (mkeys (groupM n 0 r)) m s.1 s.2.2.1∧∃ done:List ByteArray,(done++s.1).Perm (mkeys (groupM n 0 r))∧s.2.2.2=done.flatMap (chgP fs n r m)) (fun s=>s.1.length) (fun s hs=>?_)
  (s:=(mkeys (groupM n 0 r),groupM n 0 r,m,[])) ⟨rfl,.start (hg.nodup LO.bytes) hm,[],by simp,rfl⟩
 obtain⟨rem,g,m',out⟩:=s
 obtain⟨e1,hW,done,h5,h6⟩:=hs
 simp only at e1 hW h5 h6
 subst e1 h6
 have hdl:done.length+rem.length≤1000:=by
  have:=h5.length_eq
  rw[List.length_append,mkeys,List.length_map]at this
  omega
 have hdone:(done.flatMap (chgP fs n r m)).length≤1000*3000000:=
  Nat.le_trans (flatMapK_len hbig done) (Nat.mul_le_mul (show done.length≤1000 by omega) (Nat.le_refl _))
 unfold T315s0_L0
 simp only[Tr.wpT]
 refine⟨fun hr=>?_,fun k p hk hc=>?_,fun hr=>?_⟩
 ·subst hr
  simp only[sel]
  rw[List.append_nil]at h5
  have hp:(done.flatMap (chgP fs n r m)).Perm ((mkeys (groupM n 0 r)).flatMap (chgP fs n r m)):=flatMap_perm _ h5
  have hokd:okD (done.flatMap (chgP fs n r m)):=⟨fun x hx=>by
   obtain⟨a,ha,hx⟩:=List.mem_flatMap.1 hx
   exact(hokO a).r x hx,fun x hx=>by
   obtain⟨a,ha,hx⟩:=List.mem_flatMap.1 hx
   exact(hokO a).n x hx⟩
  refine⟨_,G27_eq _ hokd.r hokd.n (by omega),?_⟩
  rw[perm_cons_eq hp hokd.n,hW.fin hm]
  rfl
 ·have hlook:=groupM_look n 0 k r
  rw[hc]at hlook
  have hne:ofK n 0 k r≠[]:=by
   intro h0
   rw[if_pos h0]at hlook; cases hlook
  rw[if_neg hne]at hlook
  cases hlook
  have hv:valP m' k=valP m k:=hW.old k (.inr hk)
  have ob:=hB k
  have oa:=hA k
  have okp:okI n 0 (ofK n 0 k r):=ofK_okI hkI
  have hpl:=ofK_len n 0 k r
  have hpos:=List.length_pos_iff.2 hne
  have hbk:=hbl k
  have hb:=hbig k
  have hp:=kerase_perm hk
  have t0:=okp.t _ (getD_mem hpos)
  have t1:=okp.t _ (getD_mem (show (ofK n 0 k r).length-1<(ofK n 0 k r).length by omega))
  have ew:IntKind.i64.wrap (((ofK n 0 k r).length:Int)-1)=(((ofK n 0 k r).length-1:Nat):Int):=by rw[wrap_id (by omega) (by omega)]; omega
  have eh:IntKind.i64.wrap (IntKind.i64.wrap (((ofK n 0 k r).getD (IntKind.i64.wrap (((ofK n 0 k r).length:Int)-1)).toNat default).Time+n.Size)-1)=hiP n (ofK n 0 k r):=by
   rw[ew,Int.toNat_natCast,wrap_id (n:=_+n.Size) (by omega) (by omega),wrap_id (by omega) (by omega)]; rfl
  have hlo:0≤loP (ofK n 0 k r)∧loP (ofK n 0 k r)≤4398046511104:=⟨t0.1,by unfold loP; omega⟩
  have e12:=G12_eq (valP m k) (ofK n 0 k r) ob.i.okD okp.okD (by omega)
  have eA:=G341s0_eq (cons (valP m k++ofK n 0 k r)) (loP (ofK n 0 k r)) (hiP n (ofK n 0 k r)) fs n c m' hn oa hlo
  have eB:=G341s0_eq (valP m k) (loP (ofK n 0 k r)) (hiP n (ofK n 0 k r)) fs n c m' hn ob hlo
  have l1:=matF_len (fs:=fs) (n:=n) (lo:=loP (ofK n 0 k r)) (hi:=hiP n (ofK n 0 k r)) oa.nn
  have l2:=matF_len (fs:=fs) (n:=n) (lo:=loP (ofK n 0 k r)) (hi:=hiP n (ofK n 0 k r)) ob.nn
  have l3:=cons_len (valP m k++ofK n 0 k r)
  rw[List.length_append]at l3
  have e129:=G129_eq _ _ (matF_ok (fs:=fs) (n:=n) (lo:=loP (ofK n 0 k r)) (hi:=hiP n (ofK n 0 k r)) hn oa.i.t) (matF_ok (fs:=fs) (n:=n) (lo:=loP (ofK n 0 k r)) (hi:=hiP n (ofK n 0 k r)) hn ob.i.t) (by omega)
  have e339:=G339s1_eq k (cons (valP m k++ofK n 0 k r)) fs n c m'
  have fin:(mput (groupM n 0 r) k (ofK n 0 k r)=groupM n 0 r∧WInv (fun k=>cons (valP m k++ofK n 0 k r)) (mkeys (groupM n 0 r)) m (kerase rem k) (setP m' k (cons (valP m k++ofK n 0 k r))) ∧
    ∃ done':List ByteArray,(done'++kerase rem k).Perm (mkeys (groupM n 0 r))∧done.flatMap (chgP fs n r m)++chgP fs n r m k=done'.flatMap (chgP fs n r m))∧(kerase rem k).length<rem.length:=
   ⟨⟨mput_self LO.bytes hg hc,hW.step hk,done++[k],by
    refine List.Perm.trans ?_ h5
    rw[List.append_assoc]
    exact List.Perm.append_left _ hp.symm,by simp⟩,kerase_len hk⟩
  rw[eh]
  have g0:(0≤(0:Int)∧(0:Int)<((ofK n 0 k r).length:Int)):=⟨by omega,by omega⟩
  have g1:(0≤IntKind.i64.wrap (((ofK n 0 k r).length:Int)-1)∧IntKind.i64.wrap (((ofK n 0 k r).length:Int)-1)<((ofK n 0 k r).length:Int)):=by rw[ew]; omega
  cases hlk:mlook m' k with
  | none=>
   have hz:valP m k=[]:=by rw[←hv]; unfold valP; rw[hlk]; rfl
   simp only
   rw[←hz]
   exact⟨_,e12,g0,g1,_,eA,_,eB,_,e129,by show ((done.flatMap (chgP fs n r m)).length+(chgP fs n r m k).length)*40≤140737488355328; omega,_,e339,fin⟩
  | some c1=>
   have hz:valP m k=c1:=by rw[←hv]; unfold valP; rw[hlk]; rfl
   simp only
   rw[←hz]
   exact⟨_,e12,g0,g1,_,eA,_,eB,_,e129,by show ((done.flatMap (chgP fs n r m)).length+(chgP fs n r m k).length)*40≤140737488355328; omega,_,e339,fin⟩
 ·obtain⟨k,rest,rfl⟩:=List.exists_cons_of_ne_nil hr
  obtain⟨s,hs⟩:=mkeys_look.1 (hW.sub k List.mem_cons_self)
  exact⟨k,s,List.mem_cons_self,hs⟩
theorem G38_8:G38 8=some 8:=by
 unfold G38 T38
 simp[Tr.den,G97_eq]
theorem G10_pat{n:GNode}(hn:okPn n):G10 n=some (n.Size-1,0):=by
 have hz:=hn.size
 unfold G10 T10 G37 T37
 simp only[Tr.den]
 rw[hn.op,G38_8]
 have e:G102 n=some true:=by
  unfold G102 T102 G96 T96
  simp only[Tr.den,G97_eq,Option.bind_some]
  rw[if_pos (decT hz)]
  rw[decT (by have:=hn.seq; omega)]; rfl
 have e2:G103 n=some (n.Size-1,0):=by
  unfold G103 T103
  simp only[Tr.den]
  rw[wrap_id (by omega) (by omega)]
 simp only[Option.bind_some,Nat.reduceLT,if_true,Tr.den,e,e2,Bool.not_true,Bool.false_eq_true,if_false]
theorem G313s0_eq(fs:List GFunc)(n:GNode):G313s0 fs n=some (fs,n,-1,[]):=rfl
theorem G314s0_old(a:Int)(fs:List GFunc)(n:GNode)(c:Int)(m:KP)(h:a≤c):G314s0 a fs n c m=some (m,c):=by
 unfold G314s0
 refine Det.eq ?_
 unfold T314s0
 simp only[Tr.wpT]
 rw[if_pos (decT h)]
 trivial
theorem G314s0_eq(a:Int)(fs:List GFunc)(n:GNode)(c:Int)(m:KP)(hn:okPn n)(hm:MP m)(hok:∀ k,okD (valP m k)∧Can (valP m k)∧(valP m k).length≤1000000)(h:c<a)(h0:0≤a)(h1:a≤2199023255552):
  G314s0 a fs n c m=some (closeP (a-(n.Size-1)) m,a):=by
 have hz:=hn.size
 unfold G314s0
 refine Det.eq ?_
 unfold T314s0
 simp only[Tr.wpT]
 rw[if_neg (decF (by omega))]
 refine⟨_,G10_pat hn,?_⟩
 have wt:IntKind.i64.wrap (a-(n.Size-1))=a-(n.Size-1):=wrap_id (by omega) (by omega)
 refine loopWp (fun s:List ByteArray×KP=>WInv (fun k=>(valP m k).filter (aft (a-(n.Size-1)))) (mkeys m) m s.1 s.2) (fun s=>s.1.length) (fun s hs=>?_)
  (s:=(mkeys m,m)) (.start (hm.mc.nodup LO.bytes) hm)
 obtain⟨rem,m'⟩:=s
 simp only at hs
 unfold T314s0_L0
 simp only[Tr.wpT]
 refine⟨fun hr=>?_,fun k s hk hc=>?_,fun hr=>?_⟩
 ·subst hr
  simp only[sel]
  rw[hs.fin hm]; rfl
 ·have hv:=hs.old k (.inr hk)
  have e:valP m' k=s:=by unfold valP; rw[hc]; rfl
  rw[e]at hv
  obtain⟨q1,q2,q3⟩:=hok k
  rw[wt,hv]
  refine⟨_,G14_can _ _ q1 q2 (by omega),_,G339s0_eq _ _ fs n a _ _,?_⟩
  rw[←hv,←e,show mput m' k (valP m' k)=m' from mput_self LO.bytes hs.mp.mc (by rw[hc,e]),e,hv]
  exact⟨hs.step hk,kerase_len hk⟩
 ·obtain⟨k,rest,rfl⟩:=List.exists_cons_of_ne_nil hr
  have hkm:=hs.sub k List.mem_cons_self
  obtain⟨s,hs'⟩:=mkeys_look.1 hkm
  have hv:=hs.old k (.inr List.mem_cons_self)
  have hne:valP m' k≠[]:=by rw[hv]; exact hm.key.1 hkm
  exact⟨k,valP m' k,List.mem_cons_self,by rw[hs.mp.look,if_neg hne]⟩
theorem G342s0_eq(fs:List GFunc)(n:GNode)(c:Int)(m:KP)(hm:MP m)(hok:∀ k,okD (valP m k))(hl:(allP m).length≤1000000):G342s0 fs n c m=some (cons (allP m),m):=by
 unfold G342s0
 refine Det.eq ?_
 unfold T342s0
 simp only[Tr.wpT]
 have okA:okD (allP m):=⟨fun x hx=>by
   obtain⟨a,ha,hx⟩:=List.mem_flatMap.1 hx
   exact(hok a).r x hx,fun x hx=>by
   obtain⟨a,ha,hx⟩:=List.mem_flatMap.1 hx
   exact(hok a).n x hx⟩
 refine loopWp (fun s:List ByteArray×KP×List GDelta=>s.2.1=m∧s.1.Nodup∧∃ done:List ByteArray,(done++s.1).Perm (mkeys m)∧s.2.2=done.flatMap (valP m)) (fun s=>s.1.length) (fun s hs=>?_)
  (s:=(mkeys m,m,[])) ⟨rfl,hm.mc.nodup LO.bytes,[],by simp,rfl⟩
 obtain⟨rem,m',out⟩:=s
 obtain⟨e1,hnd,done,h5,h6⟩:=hs
 simp only at e1 hnd h5 h6
 subst e1 h6
 unfold T342s0_L0
 simp only[Tr.wpT]
 refine⟨fun hr=>?_,fun k s hk hc=>?_,fun hr=>?_⟩
 ·subst hr
  simp only[sel]
  rw[List.append_nil]at h5
  have hp:(done.flatMap (valP m')).Perm (allP m'):=flatMap_perm _ h5
  have ho:okD (done.flatMap (valP m')):=okA.sub fun x hx=>hp.mem_iff.1 hx
  refine⟨_,G27_eq _ ho.r ho.n (by rw[hp.length_eq]; omega),?_⟩
  rw[perm_cons_eq hp ho.n]
 ·have hp:=kerase_perm hk
  have e:valP m' k=s:=by unfold valP; rw[hc]; rfl
  have hle:(done.flatMap (valP m')).length+s.length≤(allP m').length:=by
   have h7:((done++k::kerase rem k).flatMap (valP m')).Perm (allP m'):=flatMap_perm _ ((List.Perm.append_left _ hp.symm).trans h5)
   have:=h7.length_eq
   rw[List.flatMap_append,List.flatMap_cons,List.length_append,List.length_append,e]at this
   omega
  refine⟨by omega,⟨⟨mput_self LO.bytes hm.mc hc,kerase_nodup hnd k,done++[k],?_,?_⟩,kerase_len hk⟩⟩
  ·refine List.Perm.trans ?_ h5
   rw[List.append_assoc]
   exact List.Perm.append_left _ hp.symm
  ·rw[List.flatMap_append,←e]; simp
 ·obtain⟨k,rest,rfl⟩:=List.exists_cons_of_ne_nil hr
  have hk:k∈mkeys m':=h5.mem_iff.1 (List.mem_append_right _ List.mem_cons_self)
  obtain⟨s,hs'⟩:=mkeys_look.1 hk
  exact⟨k,s,List.mem_cons_self,hs'⟩
theorem G316s0_eq(fs:List GFunc)(n:GNode)(c:Int)(m:KP)(hm:MP m)(hok:∀ k,okD (valP m k))(hl:(allP m).length≤1000000):G316s0 fs n c m=some (W (wt all1 (cons (allP m))),m):=by
 unfold G316s0 T316s0
 simp only[Tr.den]
 rw[G342s0_eq fs n c m hm hok hl]
 simp only[Option.bind_some]
 have:=cons_len (allP m)
 rw[G13_eq _ (by omega)]; rfl
theorem G321s0_eq(fs:List GFunc)(n:GNode)(c:Int)(m:KP):G321s0 fs n c m=some (decide (m=[])):=by
 unfold G321s0 T321s0
 simp only[Tr.den]
 congr 1
 cases m with
 | nil=>rfl
 | cons p m=>simp; omega
theorem det_congr{P:Program}{Y:Type}{t t':Tr P Y}(h:t.wpT=t'.wpT):Det t=Det t':=by
 by_cases hy:∃ y,t'.wpT (·=y)
 ·obtain⟨y,hy⟩:=hy
  rw[Det.eq hy,Det.eq (by rw[h]; exact hy)]
 ·unfold Det
  rw[dif_neg hy,dif_neg (by rw[h]; exact hy)]
theorem W_W(a:Int):W (W a)=W a:=wrap_wrap a
def wc(c:Pl→Int):List GDelta→Int
 | []=>0
 | x::l=>x.N*c (pl x)+wc c l
structure MI (o X Y T:List GDelta):Prop where
 can:Can o
 lt:∀ x,x∈o→∀ y,y∈X++Y→cmpD x y<0
 same:Same (o++(X++Y)) T
 cx:Can X
 cy:Can Y
theorem Can.snoc{o:List GDelta}{x:GDelta}(h:Can o)(h1:∀ y,y∈o→cmpD y x<0)(h2:x.N≠0)(h3:in64 x.N):Can (o++[x]):=by
 refine⟨List.pairwise_append.2 ⟨h.lt,List.pairwise_singleton _ _,fun y hy z hz=>?_⟩,fun y hy=>?_,fun y hy=>?_⟩
 ·rw[List.mem_singleton.1 hz]; exact h1 y hy
 ·rcases List.mem_append.1 hy with hy | hy
  ·exact h.nz y hy
  ·rw[List.mem_singleton.1 hy]; exact h2
 ·rcases List.mem_append.1 hy with hy | hy
  ·exact h.n64 y hy
  ·rw[List.mem_singleton.1 hy]; exact h3
theorem lt_all{x y:GDelta}{Y:List GDelta}(h:Can (y::Y))(hx:cmpD x y<0):∀ z,z∈y::Y→cmpD x z<0:=by
 intro z hz
 rcases List.mem_cons.1 hz with rfl | hz
 ·exact hx
 ·exact cmpD_tr hx (h.head z hz)
theorem MI.left{o X Y T:List GDelta}{x:GDelta}(h:MI o (x::X) Y T)(hy:∀ z,z∈Y→cmpD x z<0):MI (o++[x]) X Y T:=by
 refine⟨h.can.snoc (fun y hy'=>h.lt y hy' x (by simp)) (h.cx.nz x List.mem_cons_self) (h.cx.n64 x List.mem_cons_self),fun z hz w hw=>?_,?_,h.cx.tail,h.cy⟩
 ·rcases List.mem_append.1 hz with hz | hz
  ·exact h.lt z hz w (by rcases List.mem_append.1 hw with hw | hw <;> simp[hw])
  ·rw[List.mem_singleton.1 hz]
   rcases List.mem_append.1 hw with hw | hw
   ·exact h.cx.head w hw
   ·exact hy w hw
 ·have:=h.same
  simpa using this
theorem MI.right{o X Y T:List GDelta}{y:GDelta}(h:MI o X (y::Y) T)(hx:∀ z,z∈X→cmpD y z<0):MI (o++[y]) X Y T:=by
 refine⟨h.can.snoc (fun z hz=>h.lt z hz y (by simp)) (h.cy.nz y List.mem_cons_self) (h.cy.n64 y List.mem_cons_self),fun z hz w hw=>?_,?_,h.cx,h.cy.tail⟩
 ·rcases List.mem_append.1 hz with hz | hz
  ·exact h.lt z hz w (by rcases List.mem_append.1 hw with hw | hw <;> simp[hw])
  ·rw[List.mem_singleton.1 hz]
   rcases List.mem_append.1 hw with hw | hw
   ·exact hx w hw
   ·exact h.cy.head w hw
 ·refine Same.trans (.of_perm ?_) h.same
  rw[List.append_assoc]
  refine List.Perm.append_left _ ?_
  show (y::(X++Y)).Perm (X++y::Y)
  exact List.perm_middle.symm
theorem both_wt{o X Y:List GDelta}{x y:GDelta}(hp:pl x=pl y)(p:Pl→Bool):W (wt p (o++(x::X++y::Y)))=W (wt p o+(if p (pl y)=true then W (y.N+x.N) else 0)+wt p (X++Y)):=by
 rw[wt_app,wt_app,wt_app]
 simp only[wt,hp]
 by_cases h:p (pl y)=true
 ·rw[if_pos h,if_pos h,if_pos h]
  have:=W_add (W_add (rfl:W (wt p o)=W (wt p o)) (W_W (y.N+x.N))) (rfl:W (wt p X+wt p Y)=W (wt p X+wt p Y))
  rw[this]; congr 1; omega
 ·rw[if_neg h,if_neg h,if_neg h]; congr 1; omega
theorem MI.both{o X Y T:List GDelta}{x y:GDelta}(h:MI o (x::X) (y::Y) T)(hp:pl x=pl y)(h0:W (y.N+x.N)≠0):MI (o++[⟨y.Time,y.Row,W (y.N+x.N)⟩]) X Y T:=by
 have e:∀ z:GDelta,cmpD (⟨y.Time,y.Row,W (y.N+x.N)⟩:GDelta) z=cmpD y z:=fun z=>rfl
 have e':∀ z:GDelta,cmpD z (⟨y.Time,y.Row,W (y.N+x.N)⟩:GDelta)=cmpD z y:=fun z=>rfl
 refine⟨h.can.snoc (fun z hz=>by rw[e']; exact h.lt z hz y (by simp)) h0 (W_in _),fun z hz w hw=>?_,fun p=>?_,h.cx.tail,h.cy.tail⟩
 ·rcases List.mem_append.1 hz with hz | hz
  ·exact h.lt z hz w (by rcases List.mem_append.1 hw with hw | hw <;> simp[hw])
  ·rw[List.mem_singleton.1 hz,e]
   rcases List.mem_append.1 hw with hw | hw
   ·rw[←cmpD_congr hp rfl]; exact h.cx.head w hw
   ·exact h.cy.head w hw
 ·rw[←h.same p,both_wt hp,wt_app,wt_app]
  simp only[wt,Int.add_zero]
  rfl
theorem MI.both0{o X Y T:List GDelta}{x y:GDelta}(h:MI o (x::X) (y::Y) T)(hp:pl x=pl y)(h0:W (y.N+x.N)=0):MI o X Y T:=by
 refine⟨h.can,fun z hz w hw=>h.lt z hz w (by rcases List.mem_append.1 hw with hw | hw <;> simp[hw]),fun p=>?_,h.cx.tail,h.cy.tail⟩
 rw[←h.same p,both_wt hp,wt_app,h0]
 simp
theorem Can.drop{l:List GDelta}(h:Can l)(k:Nat):Can (l.drop k):=⟨h.lt.drop,fun x hx=>h.nz x (List.mem_of_mem_drop hx),fun x hx=>h.n64 x (List.mem_of_mem_drop hx)⟩
theorem G165_eq(a b:GDelta)(ha:okR a)(hb:okR b):G165 a b=some (cmpD a b):=by
 unfold G165 T165
 simp only[Tr.den]
 rw[G116_eq _ _ ha hb]
 unfold cmpD thenC cmpI
 by_cases h1:a.Time<b.Time
 ·rw[if_pos (decT h1),if_pos h1,if_neg (by omega)]
 ·rw[if_neg (decF h1),if_neg h1]
  by_cases h2:b.Time<a.Time
  ·rw[if_pos (decT h2),if_pos h2,if_neg (by omega)]
  ·rw[if_neg (decF h2),if_neg h2,if_pos rfl]; rfl
theorem merge114(a b:List GDelta)(ha:Can a)(hb:Can b)(oa:okRs a)(ob:okRs b)(hn:a.length+b.length≤1000000000000):
  Sp (whileM (fun s=>(T114_L0 a b s).den) (([]:List GDelta),0,0)) (sel (fun r=>Can r∧Same r (a++b)) (fun _=>False)):=by
 refine Sq.while (fun s:List GDelta×Int×Int=>∃ i k:Nat,s.2.1=i∧s.2.2=k∧i≤a.length∧k≤b.length∧MI s.1 (a.drop i) (b.drop k) (a++b)∧s.1.length≤i+k) (fun s=>(a.length-s.2.1).toNat+(b.length-s.2.2).toNat) (fun s hs=>?_)
  ⟨0,0,rfl,rfl,by omega,by omega,⟨.nil,by simp,by simpa using Same.refl _,ha,hb⟩,by simp⟩
 obtain⟨o,i,k⟩:=s
 obtain⟨i,k,e1,e2,h1,h2,hM,hlen⟩:=hs
 simp only at e1 e2 hM hlen
 subst e1 e2
 unfold T114_L0
 simp only[Tr.den,Int.toNat_natCast]
 have w1:k<b.length→(if IntKind.i64.wrap ((b.length:Int)-1)<(k:Int) then IntKind.i64.wrap ((b.length:Int)-1) else (k:Int))=(k:Int):=by
  intro hk
  rw[wrap_id (by omega) (by omega),if_neg (by omega)]
 have left:i<a.length→(∀ z,z∈b.drop k→cmpD (a.getD i default) z<0)→∀ c:Int,c<0→∀ f:Option (List GDelta×Int×Int),
   Sp ((if decide (c<0)=true then if 0≤(i:Int)∧(i:Int)<(a.length:Int) then if (o.length+[a.getD i default].length)*40≤140737488355328 then some (o++[a.getD i default],IntKind.i64.wrap ((i:Int)+1),(k:Int)) else none else none else f).bind fun v=>some (Sum.inl (v.1,v.2.1,v.2.2)))
    (sel (fun s':List GDelta×Int×Int=>(∃ i k:Nat,s'.2.1=i∧s'.2.2=k∧i≤a.length∧k≤b.length∧MI s'.1 (a.drop i) (b.drop k) (a++b)∧s'.1.length≤i+k)∧(a.length-s'.2.1).toNat+(b.length-s'.2.2).toNat<(a.length-(i:Int)).toNat+(b.length-(k:Int)).toNat) (sel (fun r:List GDelta=>Can r∧Same r (a++b)) (fun _:List GDelta=>False))):=by
  intro hi hlt c hc f
  rw[if_pos (decT hc),if_pos (by omega),if_pos (by simp only[List.length_cons,List.length_nil]; omega),wrap_inc (by omega)]
  rw[drop_getD hi]at hM
  exact sq_some.2 ⟨⟨i+1,k,rfl,rfl,by omega,h2,hM.left hlt,by simp only[List.length_append,List.length_cons,List.length_nil]; omega⟩,by simp only; omega⟩
 have right:k<b.length→(∀ z,z∈a.drop i→cmpD (b.getD k default) z<0)→∀ c:Int,0<c→∀ f:Option (List GDelta×Int×Int),
   Sp ((if decide (c<0)=true then f else
       if 0≤(if IntKind.i64.wrap ((b.length:Int)-1)<(k:Int) then IntKind.i64.wrap ((b.length:Int)-1) else (k:Int))∧(if IntKind.i64.wrap ((b.length:Int)-1)<(k:Int) then IntKind.i64.wrap ((b.length:Int)-1) else (k:Int))<(b.length:Int) then
        (if (c==0)=true then if 0≤(i:Int)∧(i:Int)<(a.length:Int) then some (IntKind.i64.wrap ((b.getD (if IntKind.i64.wrap ((b.length:Int)-1)<(k:Int) then IntKind.i64.wrap ((b.length:Int)-1) else (k:Int)).toNat default).N+(a.getD i default).N),o,IntKind.i64.wrap ((i:Int)+1)) else none
         else some ((b.getD (if IntKind.i64.wrap ((b.length:Int)-1)<(k:Int) then IntKind.i64.wrap ((b.length:Int)-1) else (k:Int)).toNat default).N,o,(i:Int))).bind fun v=>
         (if (v.1 != 0)=true then if (v.2.1.length+[(⟨(b.getD (if IntKind.i64.wrap ((b.length:Int)-1)<(k:Int) then IntKind.i64.wrap ((b.length:Int)-1) else (k:Int)).toNat default).Time,(b.getD (if IntKind.i64.wrap ((b.length:Int)-1)<(k:Int) then IntKind.i64.wrap ((b.length:Int)-1) else (k:Int)).toNat default).Row,v.1⟩:GDelta)].length)*40≤140737488355328 then
           some (v.2.1++[(⟨(b.getD (if IntKind.i64.wrap ((b.length:Int)-1)<(k:Int) then IntKind.i64.wrap ((b.length:Int)-1) else (k:Int)).toNat default).Time,(b.getD (if IntKind.i64.wrap ((b.length:Int)-1)<(k:Int) then IntKind.i64.wrap ((b.length:Int)-1) else (k:Int)).toNat default).Row,v.1⟩:GDelta)]) else none
          else some v.2.1).bind fun v_1=>some (v_1,v.2.2,IntKind.i64.wrap ((k:Int)+1))
       else none).bind fun v=>some (Sum.inl (v.1,v.2.1,v.2.2)))
    (sel (fun s':List GDelta×Int×Int=>(∃ i k:Nat,s'.2.1=i∧s'.2.2=k∧i≤a.length∧k≤b.length∧MI s'.1 (a.drop i) (b.drop k) (a++b)∧s'.1.length≤i+k)∧(a.length-s'.2.1).toNat+(b.length-s'.2.2).toNat<(a.length-(i:Int)).toNat+(b.length-(k:Int)).toNat) (sel (fun r:List GDelta=>Can r∧Same r (a++b)) (fun _:List GDelta=>False))):=by
  intro hk hlt c hc f
  rw[if_neg (decF (by omega)),w1 hk,if_pos (by omega),if_neg (beqF (by omega))]
  simp only[Option.bind_some,Int.toNat_natCast]
  rw[drop_getD hk]at hM
  rw[if_pos (bneT (hM.cy.nz _ List.mem_cons_self)),if_pos (by simp only[List.length_cons,List.length_nil]; omega),wrap_inc (by omega)]
  simp only[Option.bind_some]
  exact sq_some.2 ⟨⟨i,k+1,rfl,rfl,h1,by omega,hM.right hlt,by simp only[List.length_append,List.length_cons,List.length_nil]; omega⟩,by simp only; omega⟩
 by_cases hi:i<a.length
 ·rw[if_pos (decT (show (i:Int)<a.length by omega))]
  simp only[Option.bind_some,if_true]
  rw[if_neg (decF (show ¬ (i:Int)≥a.length by omega))]
  by_cases hk:k<b.length
  ·rw[if_neg (decF (show ¬ (k:Int)≥b.length by omega)),if_pos (by omega),if_pos (by omega),G165_eq _ _ (oa.get i) (ob.get k)]
   simp only[Option.bind_some]
   have hX:=drop_getD hi
   have hY:=drop_getD hk
   have cX:=ha.drop i
   have cY:=hb.drop k
   by_cases c1:cmpD (a.getD i default) (b.getD k default)<0
   ·exact left hi (by rw[hY]at cY ⊢; exact lt_all cY c1) _ c1 _
   ·by_cases c2:cmpD (a.getD i default) (b.getD k default)=0
    ·have hp:=cmpD_zero.1 c2
     rw[if_neg (decF c1),w1 hk,if_pos (by omega),if_pos (beqT c2),if_pos (by omega)]
     simp only[Option.bind_some,Int.toNat_natCast]
     rw[hX,hY]at hM
     by_cases h0:W ((b.getD k default).N+(a.getD i default).N)=0
     ·rw[if_neg (bneF h0)]
      simp only[Option.bind_some]
      rw[wrap_inc (by omega),wrap_inc (by omega)]
      exact sq_some.2 ⟨⟨i+1,k+1,rfl,rfl,by omega,by omega,hM.both0 hp h0,by simp only; omega⟩,by simp only; omega⟩
     ·rw[if_pos (bneT h0),if_pos (by simp only[List.length_cons,List.length_nil]; omega)]
      simp only[Option.bind_some]
      rw[wrap_inc (by omega),wrap_inc (by omega)]
      exact sq_some.2 ⟨⟨i+1,k+1,rfl,rfl,by omega,by omega,hM.both hp h0,by simp only[List.length_append,List.length_cons,List.length_nil]; omega⟩,by simp only; omega⟩
    ·have c3:0<cmpD (a.getD i default) (b.getD k default):=by omega
     exact right hk (by rw[hX]at cX ⊢; exact lt_all cX (cmpD_gt.1 c3)) _ c3 _
  ·rw[if_pos (decT (show (k:Int)≥b.length by omega))]
   simp only[Option.bind_some]
   exact left hi (by rw[List.drop_eq_nil_of_le (show b.length≤k by omega)]; simp) (-1) (by omega) _
 ·rw[if_neg (decF (show ¬ (i:Int)<a.length by omega))]
  simp only[Option.bind_some]
  by_cases hk:k<b.length
  ·rw[if_pos (decT (show (k:Int)<b.length by omega)),if_pos (decT (show (i:Int)≥a.length by omega))]
   simp only[Option.bind_some]
   exact right hk (by rw[List.drop_eq_nil_of_le (show a.length≤i by omega)]; simp) 1 (by omega) _
  ·rw[if_neg (decF (show ¬ (k:Int)<b.length by omega))]
   refine sq_some.2 ⟨hM.can,?_⟩
   have:=hM.same
   rw[List.drop_eq_nil_of_le (show a.length≤i by omega),List.drop_eq_nil_of_le (show b.length≤k by omega)]at this
   simpa using this
theorem G114_eq(l:List GDelta)(ho:okD l)(hn:l.length≤1000000000000):G114 l=some (PL.cons l):=by
 refine Sp.eq ?_
 refine fixF_sq (C:=fun (a:List GDelta) (x:Option (List GDelta))=>Con Proofs.Tryz.prog 37 [.t (eL cGDelta (a))] x (fun (y:List GDelta)=>.t (eL cGDelta (y)))) (fun a=>⟨callable_of Proofs.Tryz.func37 (by kernel_rfl),fun _ h=>nomatch h⟩) (fun rec a=>T114 rec a) (fun rec a=>T114_ok rec a)
  (fun l=>okD l∧l.length≤1000000000000) (fun l=>l.length) (fun l d=>d=PL.cons l) (fun b f l hl hrec=>?_) true l ⟨ho,hn⟩
 obtain⟨ho,hn⟩:=hl
 unfold T114
 simp only[Tr.den]
 by_cases h0:l.length=0
 ·rw[if_pos (beqT (by omega))]
  simp only[Option.bind_some,if_true]
  rw[List.eq_nil_of_length_eq_zero h0]
  exact sq_some.2 rfl
 rw[if_neg (beqF (by omega))]
 by_cases hl1:l.length=1
 ·obtain⟨x,rfl⟩:=List.length_eq_one_iff.1 hl1
  have e1:(([x]:List GDelta).length:Int)=1:=rfl
  have e2:([x]:List GDelta).getD (0:Int).toNat default=x:=rfl
  rw[if_pos (beqT e1),if_pos (by omega),e2]
  simp only[Option.bind_some]
  have hc:PL.cons [x]=if x.N=0 then [] else [x]:=rfl
  rw[hc]
  by_cases hz:x.N=0
  ·rw[if_pos (beqT hz),if_pos hz]; exact sq_some.2 rfl
  ·have hr:x.Row.length≤1073741824:=ho.r x List.mem_cons_self
   rw[if_neg (beqF hz),if_pos (beqT e1),if_pos (by omega),if_pos (by omega),if_pos (by omega),if_pos (by omega),if_neg hz]; exact sq_some.2 rfl
 rw[if_neg (beqF (by omega))]
 simp only[Option.bind_some,Bool.false_eq_true,if_false]
 have w1:IntKind.i64.wrap (Int.tdiv (l.length:Int) 2)=((l.length / 2:Nat):Int):=by
  rw[show Int.tdiv (l.length:Int) 2=((l.length / 2:Nat):Int) from rfl]
  rw[wrap_nat (by omega)]
 rw[if_neg (beqF (by omega)),w1]
 have e1:(l.drop (0:Int).toNat).take (((l.length / 2:Nat):Int)-0).toNat=l.take (l.length / 2):=by rw[Int.toNat_zero,List.drop_zero,Int.sub_zero,Int.toNat_natCast]
 have e2:(l.drop ((l.length / 2:Nat):Int).toNat).take ((l.length:Int)-((l.length / 2:Nat):Int)).toNat=l.drop (l.length / 2):=by
  rw[Int.toNat_natCast]; exact List.take_of_length_le (by simp only[List.length_drop]; omega)
 have o1:okD (l.take (l.length / 2)):=ho.sub fun x hx=>List.mem_of_mem_take hx
 have o2:okD (l.drop (l.length / 2)):=ho.sub fun x hx=>List.mem_of_mem_drop hx
 rw[if_pos (by omega),e1]
 refine Sq.bind _ (hrec _ ⟨o1,by simp; omega⟩ (by simp; omega)) (fun r1 h1=>?_)
 rw[if_pos (by omega),e2]
 refine Sq.bind _ (hrec _ ⟨o2,by simp; omega⟩ (by simp; omega)) (fun r2 h2'=>?_)
 subst h1 h2'
 have l1:=cons_len (l.take (l.length / 2))
 have l2:=cons_len (l.drop (l.length / 2))
 simp only[List.length_take,List.length_drop]at l1 l2
 obtain⟨z,hz1,hz2⟩:=(merge114 _ _ (cons_can o1.n) (cons_can o2.n) o1.cons.r o2.cons.r (by omega)).get
 rw[hz1]
 cases z with
 | inr z=>exact hz2.elim
 | inl z=>
  refine sq_some.2 (cons_eq hz2.1 ho.n ?_).symm
  refine hz2.2.trans (((cons_same _).app (cons_same _)).trans ?_)
  rw[List.take_append_drop]
  exact Same.refl _
theorem G60_self(x:GDelta)(hx:okR x):G60 x x=some true:=by
 unfold G60 T60
 simp only[Tr.den]
 rw[G61_eq x x hx hx]
 simp only[Option.bind_some]
 rw[if_pos (beqT (cmpD_zero.2 rfl))]
 simp only[Option.bind_some]
 rw[show (x.N==x.N)=true from beqT rfl]
theorem G62s0_self(l:List GDelta)(ho:okRs l)(hn:l.length≤1000000000000):G62s0 l l=some true:=by
 unfold G62s0 T62s0
 simp only[Tr.den]
 rw[if_neg (bneF rfl)]
 have h1:=while_trace (bd:=fun s=>(T62s0_L0 l l s).den) (fun i=>(i:Int)) l.length (r:=.inl ()) (fun i hi=>?_) ?_
 ·refine(congrArg (fun x=>Option.bind x _) h1).trans ?_
  rfl
 ·unfold T62s0_L0
  simp only[Tr.den,Int.toNat_natCast]
  rw[if_pos (decT (by omega)),if_pos (by omega),if_pos (by omega),G60_self _ (ho _ (getD_mem hi))]
  simp only[Option.bind_some,Bool.not_true,Bool.false_eq_true,if_false]
  rw[wrap_inc (by omega)]
 ·unfold T62s0_L0
  simp only[Tr.den]
  rw[if_neg (decF (by omega))]
theorem G26_same(a b:List GDelta)(ha:okD a)(hb:okD b)(hn:a.length≤1000000000000)(hn':b.length≤1000000000000)(hs:Same a b):G26 a b=some true:=by
 have e:PL.cons a=PL.cons b:=(cons_can ha.n).ext (cons_can hb.n) (((cons_same a).trans hs).trans (cons_same b).symm)
 have hl:=cons_len a
 unfold G26 T26
 simp only[Tr.den]
 rw[G27_eq a ha.r ha.n hn]
 simp only[Option.bind_some]
 rw[G27_eq b hb.r hb.n hn',←e]
 simp only[Option.bind_some]
 rw[G62s0_self (PL.cons a) ha.cons.r (by omega)]
 rfl
theorem G81_spF(fs:List GFunc)(e:Expr)(hl:okL 104 okGFunc fs)(h:okExpr e):Sp (G81 fs e) (fun _=>True):=by
 have hl1:=hl.1
 unfold G81 T81
 simp only[Tr.den,sq_bind]
 refine sq_count (fun s:List Int×Int=>s.2) fs.length (by omega) (fun s=>s.1.length=s.2.toNat) (fun s k hI hk hkN=>?_) rfl rfl
 obtain⟨v1,v2⟩:=s
 simp only at hk hI
 subst hk
 simp only[Int.toNat_natCast]at hI
 unfold T81_L0
 simp only[Tr.den,Int.toNat_natCast]
 by_cases hc:k<fs.length
 ·rw[if_pos (decT (by omega)),if_pos (by omega)]
  refine Sq.bind _ (Sq.of (G150_sp v1 _ (by omega) (hl.2 _ (getD_mem hc)).2.2.2)) fun r _=>?_
  rw[if_pos (by simp only[List.length_cons,List.length_nil]; omega)]
  refine sq_some.2 ⟨rfl,hc,?_⟩
  simp only
  rw[wrap_inc (by omega)]; simp; omega
 ·rw[if_neg (decF (by omega))]
  refine sq_some.2 ?_
  simp only[sel,sq_bind]
  exact(Sq.of (G150_sp v1 e (by omega) h)).imp fun _ _=>sq_some.2 trivial
theorem G33_spF(fs:List GFunc)(n:GNode)(hl:okL 104 okGFunc fs)(h:okGNode n):Sp (G33 fs n) (fun r=>r=true→n.Key.length≤20∧n.Seq.length≤8):=by
 obtain⟨_,_,_,_,hE,_,_,_,_,_,_,_,_,_,hS,_⟩:=h
 have hE1:=hE.1
 have hS1:=hS.1
 have hl1:=hl.1
 unfold G33 T33
 simp only[Tr.den,sq_bind]
 refine sq_count (fun s:Int=>s) fs.length (by omega) (fun _=>True) (fun s k _ hk hkN=>?_) trivial rfl
 subst hk
 unfold T33_L0
 simp only[Tr.den,Int.toNat_natCast,dec_and,Option.bind_some]
 by_cases hc:((k:Int)<(fs.length:Int))∧(k:Int)<6
 ·rw[if_pos (decT hc),if_pos (by omega)]
  refine Sq.bind _ (G79_sp _ (hl.2 _ (getD_mem (show k<fs.length by omega))).2.2.2) fun r _=>?_
  refine Sq.bind (fun _=>True) ?_ (fun j _=>?_)
  ·by_cases h1:r>100
   ·rw[if_pos (decT h1)]; exact sq_some.2 trivial
   ·rw[if_neg (decF h1),if_pos (by omega)]; exact sq_some.2 trivial
  ·cases j with
   | true=>exact sq_some.2 (sq_some.2 fun h=>by cases h)
   | false=>exact sq_some.2 ⟨rfl,by omega,trivial⟩
 ·rw[if_neg (decF hc)]
  refine sq_some.2 ?_
  simp only[sel,sq_bind]
  refine sq_count (fun s:Int=>s) n.Exprs.length (by omega) (fun _=>True) (fun s k _ hk hkN=>?_) trivial rfl
  subst hk
  unfold T33_L1
  simp only[Tr.den,Int.toNat_natCast,dec_and,Option.bind_some]
  by_cases hc:((k:Int)<(n.Exprs.length:Int))∧(k:Int)<13
  ·rw[if_pos (decT hc),if_pos (by omega)]
   have he:=okEs.get hE (show k<n.Exprs.length by omega)
   refine Sq.bind _ (Sq.of (G79_sp _ he)) fun r _=>?_
   refine Sq.bind (fun _=>True) ?_ (fun j _=>?_)
   ·by_cases h1:r>200
    ·rw[if_pos (decT h1)]; exact sq_some.2 trivial
    ·rw[if_neg (decF h1),if_pos (by omega)]
     refine Sq.bind _ (Sq.of (G80_sp _ he)) fun r _=>?_
     by_cases h2:r>12
     ·rw[if_pos (decT h2)]; exact sq_some.2 trivial
     ·rw[if_neg (decF h2),if_pos (by omega)]
      refine Sq.bind _ (Sq.of (G81_spF fs _ hl he)) fun r _=>sq_some.2 trivial
   ·cases j with
    | true=>exact sq_some.2 (sq_some.2 fun h=>by cases h)
    | false=>exact sq_some.2 ⟨rfl,by omega,trivial⟩
  ·rw[if_neg (decF hc)]
   refine sq_some.2 ?_
   simp only[sel,sq_bind]
   refine sq_count (fun s:Int=>s) n.Seq.length (by omega) (fun _=>True) (fun s k _ hk hkN=>?_) trivial rfl
   subst hk
   unfold T33_L2
   simp only[Tr.den,Int.toNat_natCast,dec_and,Option.bind_some]
   by_cases hc:((k:Int)<(n.Seq.length:Int))∧(k:Int)<9
   ·rw[if_pos (decT hc),if_pos (by omega)]
    have he:=(hS.2 _ (getD_mem (show k<n.Seq.length by omega))).1
    refine Sq.bind _ (Sq.of (G79_sp _ he)) fun r _=>?_
    refine Sq.bind (fun _=>True) ?_ (fun j _=>?_)
    ·by_cases h1:r>200
     ·rw[if_pos (decT h1)]; exact sq_some.2 trivial
     ·rw[if_neg (decF h1),if_pos (by omega)]
      refine Sq.bind _ (Sq.of (G80_sp _ he)) fun r _=>?_
      by_cases h2:r>12
      ·rw[if_pos (decT h2)]; exact sq_some.2 trivial
      ·rw[if_neg (decF h2),if_pos (by omega)]
       refine Sq.bind _ (Sq.of (G81_spF fs _ hl he)) fun r _=>sq_some.2 trivial
    ·cases j with
     | true=>exact sq_some.2 (sq_some.2 fun h=>by cases h)
     | false=>exact sq_some.2 ⟨rfl,by omega,trivial⟩
   ·rw[if_neg (decF hc)]
    refine sq_some.2 ?_
    simp only[sel]
    exact sq_some.2 fun h=>by have:=of_decide_eq_true h; omega
theorem G82_tot(fs:List GFunc)(hl:okL 104 okGFunc fs):Sp (G82 fs) (fun _=>True):=(G82_sp fs (okFuncs hl).1 (okFuncs hl).2).imp fun _ _=>trivial
theorem G86_sp(fs:List GFunc)(cs ps:List Int)(e:Expr)(hl:okL 104 okGFunc fs)(he:okExpr e):Sp (G86 fs cs ps e) (fun r=>r.2=true→G152 fs cs ps e=some (r.1,true)):=by
 unfold G86 T86
 simp only[Tr.den]
 refine Sq.bind _ (G82_tot fs hl) fun r _=>?_
 split
 ·exact sq_some.2 fun h=>by cases h
 ·obtain⟨y,hy,_⟩:=(G152_spE fs cs ps e he.bnd).get
  rw[hy]
  simp only[Option.bind_some]
  exact sq_some.2 fun h=>by rw[show (y.1,true)=y from Prod.ext rfl h.symm]
theorem G85_sp(fs:List GFunc)(e:Expr)(cs:List Int)(hl:okL 104 okGFunc fs)(he:okExpr e):Sp (G85 fs e cs) (fun r=>r=true→G152 fs cs [] e=some (2,true)):=by
 unfold G85 T85
 simp only[Tr.den]
 refine Sq.bind _ (G86_sp fs cs [] e hl he) fun r hr=>?_
 refine Sq.bind (fun j:Bool=>j=true→r.2=true∧r.1=2) (sq_iteB (fun h=>sq_some.2 fun h2=>⟨h,beq_iff_eq.1 h2⟩) (fun _=>sq_some.2 fun h=>by cases h)) fun j hj=>sq_some.2 fun h=>by
  have h1:=hr (hj h).1
  rwa [(hj h).2]at h1
theorem G83_pat(n:GNode)(hop:n.Op=8):Sp (G83 n) (fun r=>r=true→(1≤n.Size∧n.Size≤10000)∧1≤n.Seq.length∧n.Seq.length≤8):=by
 unfold G83 T83
 simp only[Tr.den,G153_eq,Option.bind_some]
 rw[if_neg (beqF (by omega)),if_neg (beqF (by omega)),if_neg (beqF (by omega)),if_neg (beqF (by omega)),if_pos (beqT hop)]
 by_cases h1:1≤n.Size∧n.Size≤10000
 ·rw[if_pos (decT h1)]
  exact sq_some.2 fun h2=>⟨h1,by have:=of_decide_eq_true h2; omega⟩
 ·rw[if_neg (decF h1)]
  exact sq_some.2 fun h=>by cases h
theorem G84_pat(n:GNode)(hop:n.Op=8):G84 n=some 1:=by
 unfold G84 T84
 simp only[Tr.den]
 simp[hop]
structure RightP (fs:List GFunc)(n:GNode)(ta:List Int):Prop where
 pn:okPn n
 key:∀ c,c∈n.Key→0≤c∧c<ta.length
 la:ta.length≤12
 fr:G82 fs=some true
 ty:∀ i,i<n.Seq.length→G152 fs ta [] (n.Seq.getD i default).Pred=some (2,true)
theorem G34_pat(fs:List GFunc)(n:GNode)(ta:List Int)(hl:okL 104 okGFunc fs)(hn:okGNode n)(hop:n.Op=8)(ha:ta.length≤1048576):Sp (G34 fs n [ta]) (fun r=>r=true→RightP fs n ta):=by
 obtain⟨_,_,_,_,_,_,_,_,hK,_,_,_,_,_,hS,_⟩:=hn
 have hK1:=hK.1
 have hS1:=hS.1
 unfold G34 T34
 simp only[Tr.den]
 obtain⟨y,hy,_⟩:=(G82_tot fs hl).get
 rw[hy]
 simp only[Option.bind_some]
 refine Sq.bind (fun j:Bool=>j=false→y=true∧(1≤n.Size∧n.Size≤10000)∧1≤n.Seq.length∧n.Seq.length≤8) ?_ (fun j hj=>?_)
 ·cases y with
  | false=>exact sq_some.2 fun h=>by cases h
  | true=>
   simp only[Bool.not_true,Bool.false_eq_true,if_false]
   refine Sq.bind _ (G83_pat n hop) fun r hr=>?_
   cases r with
   | false=>exact sq_some.2 fun h=>by cases h
   | true=>
    simp only[Bool.not_true,Bool.false_eq_true,if_false]
    rw[G84_pat n hop]
    simp only[Option.bind_some]
    rw[if_neg (bneF (by rfl))]
    exact sq_some.2 fun _=>⟨trivial,hr rfl⟩
 ·cases j with
  | true=>exact sq_some.2 fun h=>by cases h
  | false=>
   obtain⟨hyt,hz,hsq⟩:=hj rfl
   subst hyt
   simp only[Bool.false_eq_true,if_false]
   have w:IntKind.i64.wrap ((([ta]:List (List Int)).length:Int)-1)=0:=by
    show IntKind.i64.wrap (1-1)=0
    rw[wrap_id] <;> omega
   have e0:([ta]:List (List Int)).getD (0:Int).toNat default=ta:=rfl
   rw[if_pos (by simp),w,if_pos (by simp),e0]
   refine Sq.bind (fun j:Bool=>j=false→ta.length≤12) ?_ (fun j hj=>?_)
   ·refine sq_iteB (fun _=>sq_some.2 fun h=>by cases h) fun _=>sq_iteB (fun _=>sq_some.2 fun h=>by cases h) fun q1=>sq_iteB (fun _=>sq_some.2 fun h=>by cases h) fun _=>sq_some.2 fun q2=>?_
    have q1:=of_decide_eq_false q1
    omega
   ·cases j with
    | true=>exact sq_some.2 fun h=>by cases h
    | false=>
     have hlen:=hj rfl
     simp only[Bool.false_eq_true,if_false]
     rw[if_neg (beqF (by omega)),if_neg (beqF (by omega)),if_neg (beqF (by omega)),if_neg (beqF (by omega)),if_neg (beqF (by omega))]
     have hor:((if (n.Op==6)=true then some (n.Op==6) else some (n.Op==7)):Option Bool)=some false:=by
      rw[if_neg (beqF (by omega)),hop]; rfl
     rw[hor]
     simp only[Option.bind_some,Bool.false_eq_true,if_false]
     rw[if_pos (beqT hop)]
     refine sq_bind.2 (sq_count (fun s:Int=>s) n.Seq.length (by omega) (fun s=>∀ i:Nat,(i:Int)<s→G152 fs ta [] (n.Seq.getD i default).Pred=some (2,true)) (fun s k hI hk hkN=>?_) (fun i hi=>absurd hi (by show ¬ ((i:Int)<0); omega)) rfl)
     subst hk
     unfold T34_L1
     simp only[Tr.den,Int.toNat_natCast]
     by_cases hc:k<n.Seq.length
     ·rw[if_pos (decT (by omega)),if_pos (by omega)]
      refine Sq.bind _ (Sq.of (G85_sp fs _ ta hl (hS.2 _ (getD_mem hc)).1)) fun r hr=>?_
      refine Sq.bind (fun j:Bool=>j=false→r=true) ?_ (fun j hj=>?_)
      ·cases r with
       | false=>exact sq_some.2 fun h=>by cases h
       | true=>
        simp only[Bool.not_true,Bool.false_eq_true,if_false]
        rw[if_pos (by omega)]
        refine sq_iteB (fun _=>sq_some.2 fun h=>by cases h) fun _=>?_
        rw[if_pos (by omega)]
        exact sq_some.2 fun _=>trivial
      ·cases j with
       | true=>exact sq_some.2 (sq_some.2 fun h=>by cases h)
       | false=>
        refine sq_some.2 ⟨rfl,hc,fun i hi=>?_⟩
        rw[wrap_inc (by omega)]at hi
        rcases Nat.lt_or_ge i k with h | h
        ·exact hI i (by omega)
        ·have:i=k:=by omega
         subst this; exact hr (hj rfl)
     ·rw[if_neg (decF (by omega))]
      refine sq_some.2 ?_
      simp only[sel]
      refine Sq.bind _ (Sq.of (G88_sp n.Key ta hK1)) fun r hr=>?_
      cases r with
      | false=>exact sq_some.2 fun h=>by cases h
      | true=>
       simp only[if_true]
       refine sq_some.2 fun h=>?_
       have h10:=of_decide_eq_true h
       exact⟨⟨hop,hsq,hz,by omega⟩,hr rfl,hlen,hy,fun i hi=>hI i (by omega)⟩
theorem RightP.ev{fs:List GFunc}{n:GNode}{ta:List Int}(h:RightP fs n ta)(hl:okL 104 okGFunc fs)(hn:okGNode n){l:List GDelta}(hr:∀ d,d∈l→d.Row.length=ta.length∧∀ v,v∈d.Row→Sm v):okEv fs n l:=by
 obtain⟨_,_,_,_,_,_,_,_,_,_,_,_,_,_,hS,_⟩:=hn
 intro d hd i hi
 have ht:=h.ty i hi
 exact(G344_sp hl h.fr (hS.2 _ (getD_mem hi)).1 ht d.Time (hr d hd).1 (hr d hd).2).2 rfl
theorem sqf{α:Type}{x:Option α}{Q:α→Prop}:Sq false x Q↔∀ y,x=some y→Q y:=⟨fun h=>h.1,fun h=>⟨h,fun h'=>by cases h'⟩⟩
theorem sqf_grd{α:Type}{c:Prop}[Decidable c]{x:Option α}{Q:α→Prop}(h:c→Sq false x Q):Sq false (if c then x else none) Q:=by
 by_cases hc:c
 ·rw[if_pos hc]; exact h hc
 ·rw[if_neg hc]; exact sqf.2 fun y hy=>by cases hy
theorem Sp.and_part{α:Type}{x:Option α}{P Q:α→Prop}(h:Sp x P)(h':Sq false x Q):Sp x (fun y=>P y∧Q y):=⟨fun y hy=>⟨h.1 y hy,h'.1 y hy⟩,h.2⟩
section
variable {P:Program} {A R:Type}
end
def TyV(t:Int)(v:GValue):Prop:=v.Kind=t∧(t≠1→v.S.toList=(⟨#[]⟩:ByteArray).toList)
def TyR(ts:List Int)(row:List GValue):Prop:=∀ i,i<ts.length→TyV (ts.getD i default) (row.getD i default)
abbrev isCp (x:GAct_errataref31):Bool:=bitA .i64 x.Do 1==1
def FitsP(ta:List Int):List GAct_errataref31→List GDelta→Int→Prop
 | [],_,_=>True
 | x::l,s0,c=>(isCp x=true→x.C≤2199023255552∧FitsP ta l s0 (if x.C>c then x.C else c)) ∧
  (isCp x=false→x.L.length≤8∧(∀ d,d∈x.L→c<d.Time∧0≤d.Time∧d.Time≤2199023255552∧d.Row.length=ta.length∧(-3≤d.N∧d.N≤3)∧TyR ta d.Row)∧(∀ d,d∈cons (s0++x.L)→1≤d.N∧d.N≤20) ∧
   FitsP ta l (cons (s0++x.L)) c)
theorem G184_ty(v:GValue):Sp (G184 v) (fun r=>r=true→TyV v.Kind v):=by
 have fin:∀ r:Bool,(r=true→v.Kind≠1→v.S.toList=(⟨#[]⟩:ByteArray).toList)→(r=true→TyV v.Kind v):=fun r h hr=>⟨rfl,h hr⟩
 unfold G184 T184
 simp only[Tr.den]
 refine sq_iteB (fun _=>sq_some.2 (fin _ fun h _=>beq_iff_eq.1 h)) fun _=>sq_iteB (fun h1=>Sq.bind (fun _=>True) ?_ fun _ _=>sq_some.2 (fin _ fun _ h=>absurd (beq_iff_eq.1 h1) h)) fun _=>Sq.bind (fun r:Bool=>r=true→v.Kind≠1→v.S.toList=(⟨#[]⟩:ByteArray).toList) ?_ fun _ h=>sq_some.2 (fin _ h)
 ·exact sq_iteB (fun _=>sq_some.2 trivial) fun _=>sq_some.2 trivial
 ·exact sq_iteB (fun _=>sq_iteB (fun _=>sq_some.2 fun h _=>beq_iff_eq.1 h) fun _=>sq_iteB (fun _=>sq_some.2 fun h _=>beq_iff_eq.1 h) fun _=>sq_some.2 fun h=>by cases h) fun _=>sq_some.2 fun h=>by cases h
theorem G149_ty(r:List GValue)(h:r.length≤1048576):Sp (G149 r) (fun q=>q=true→∀ i,i<r.length→TyV (r.getD i default).Kind (r.getD i default)):=by
 unfold G149 T149
 simp only[Tr.den,sq_bind]
 refine sq_count (fun s:Int=>s) r.length (by omega) (fun s=>∀ i:Nat,(i:Int)<s→TyV (r.getD i default).Kind (r.getD i default)) (fun s k hI hk hkN=>?_) (fun i hi=>absurd hi (by show ¬ ((i:Int)<0); omega)) rfl
 subst hk
 unfold T149_L0
 simp only[Tr.den,Int.toNat_natCast]
 by_cases hc:k<r.length
 ·rw[if_pos (decT (by omega)),if_pos (by omega)]
  refine Sq.bind _ (G184_ty _) fun q hq=>?_
  cases q with
  | false=>exact sq_some.2 (sq_some.2 fun h=>by cases h)
  | true=>
   refine sq_some.2 ⟨rfl,hc,fun i hi=>?_⟩
   rw[wrap_inc (by omega)]at hi
   rcases Nat.lt_or_ge i k with h | h
   ·exact hI i (by omega)
   ·have:i=k:=by omega
    subst this; exact hq rfl
 ·rw[if_neg (decF (by omega))]
  exact sq_some.2 (sq_some.2 fun _ i hi=>hI i (by omega))
theorem G78_ty(r:List GValue)(h:r.length≤1048576):Sp (G78 r) (fun q=>q=true→∀ i,i<r.length→TyV (r.getD i default).Kind (r.getD i default)):=by
 unfold G78 T78
 simp only[Tr.den]
 refine Sq.bind (fun q:Bool=>q=true→∀ i,i<r.length→TyV (r.getD i default).Kind (r.getD i default)) ?_ fun _ h=>sq_some.2 h
 exact sq_iteB (fun _=>Sq.bind _ (G149_ty r h) fun _ h=>sq_some.2 h) fun _=>sq_some.2 fun h=>by cases h
theorem G30_ty(x:GDelta)(types:List Int)(h:x.Row.length≤1048576)(ht:types.length≤1048576):Sq false (G30 [x] types 1) (fun r=>r=true→TyR types x.Row):=by
 unfold G30 T30
 simp only[Tr.den,sq_bind]
 refine sq_count (fun s:Int=>s) 1 (by omega) (fun s=>1≤s.toNat→TyR types x.Row) (fun s k hI hk hkN=>?_) (by simp) rfl
 subst hk
 unfold T30_L0
 simp only[Tr.den,Int.toNat_natCast,dec_and,Option.bind_some]at hI ⊢
 by_cases hc:k<1
 ·obtain rfl:k=0:=by omega
  have e0:([x]:List GDelta).getD 0 default=x:=rfl
  have el:(([x]:List GDelta).length:Int)=1:=rfl
  rw[if_pos (decT (by omega)),if_pos (by omega)]
  refine Sq.bind (fun j:Bool=>j=false→x.Row.length=types.length∧∀ i,i<x.Row.length→TyV (x.Row.getD i default).Kind (x.Row.getD i default)) ?_ (fun j hj=>?_)
  ·refine sq_iteB (fun _=>sq_some.2 fun h=>by cases h) fun q1=>sqf_grd fun _=>(sq_iteB (fun _=>sq_some.2 fun h=>by cases h) fun q2=>sqf_grd fun _=>(sq_iteB (fun _=>sq_some.2 fun h=>by cases h) fun q3=>sqf_grd fun _=>(sq_iteB (fun _=>sq_some.2 fun h=>by cases h) fun q4=>sqf_grd fun _=>(sq_iteB (fun _=>sq_some.2 fun h=>by cases h) fun q5=>sqf_grd fun _=>(Sq.bind _ (Sq.of (G78_ty _ h)) fun r hr=>sq_some.2 fun hq=>?_)))))
   simp only[bne_eq_false_iff_eq]at q5
   rw[e0]at q5
   have hq:r=true:=by simpa using hq
   exact⟨by omega,hr hq⟩
  ·cases j with
   | true=>exact sq_some.2 (sq_some.2 fun h=>by cases h)
   | false=>
    obtain⟨hlen,hty⟩:=hj rfl
    simp only[Bool.false_eq_true,if_false]
    refine sq_bind.2 ?_
    refine sq_count (fun s:Int=>s) types.length (by omega) (fun s=>∀ i:Nat,(i:Int)<s→(x.Row.getD i default).Kind=types.getD i default) (fun s k hI hk hkN=>?_) (fun i hi=>absurd hi (by show ¬ ((i:Int)<0); omega)) rfl
    subst hk
    unfold T30_L1
    simp only[Tr.den,Int.toNat_natCast]
    by_cases hc:k<types.length
    ·rw[if_pos (decT (by omega))]
     refine sqf_grd fun _=>sqf_grd fun _=>sqf_grd fun _=>?_
     split
     ·exact sq_some.2 (sq_some.2 (sq_some.2 fun h=>by cases h))
     ·rename_i hne
      refine sq_some.2 ⟨rfl,hc,fun i hi=>?_⟩
      rw[wrap_inc (by omega)]at hi
      rcases Nat.lt_or_ge i k with h | h
      ·exact hI i (by omega)
      ·have:i=k:=by omega
       subst this
       exact Classical.byContradiction fun hh=>hne (bneT hh)
    ·rw[if_neg (decF (by omega))]
     refine sq_some.2 (sq_some.2 ⟨rfl,by omega,fun _ i hi=>?_⟩)
     have h1:=hty i (by omega)
     rwa [hI i (by omega)]at h1
 ·obtain rfl:k=1:=by omega
  rw[if_neg (by simp)]
  exact sq_some.2 (sq_some.2 fun _=>hI (by simp))
theorem fitsP1(ta:List Int)(acts:List GAct_errataref31)(s0:List GDelta)(k:Nat)(hk:k<acts.length)(c:Int)(hok:okGAct_errataref31 (acts.getD k default))(ha:ta.length≤1048576)(hL:(acts.getD k default).L.length≤8):
  Sp (whileM (fun s=>(T338_L1 ta acts s0 c (k:Int) s).den) 0) (fun z=>z = .inr (.inr (.inr (.inr false)))∨(z = .inl ()∧∀ d,d∈(acts.getD k default).L→c<d.Time∧0≤d.Time∧d.Time≤2199023255552∧d.Row.length=ta.length∧(-3≤d.N∧d.N≤3)∧TyR ta d.Row)):=by
 have hd:=hok.2.2
 refine sq_count (fun s:Int=>s) (acts.getD k default).L.length (by omega) (fun s=>∀ d,d∈(acts.getD k default).L.take s.toNat→c<d.Time∧0≤d.Time∧d.Time≤2199023255552∧d.Row.length=ta.length∧(-3≤d.N∧d.N≤3)∧TyR ta d.Row) (fun s q hI hq hqN=>?_) (by simp) rfl
 subst hq
 unfold T338_L1
 simp only[Tr.den,Int.toNat_natCast]at hI ⊢
 rw[if_pos (by omega)]
 by_cases hc:q<(acts.getD k default).L.length
 ·have hm:=getD_mem hc
  have hx:=hd.2 _ hm
  rw[if_pos (decT (by omega)),if_pos (by omega),if_pos (by omega)]
  refine Sq.bind (fun j:Bool=>j=false→c<((acts.getD k default).L.getD q default).Time ∧ -3≤((acts.getD k default).L.getD q default).N∧((acts.getD k default).L.getD q default).N≤3) ?_ (fun j hj=>?_)
  ·refine sq_iteB (fun _=>sq_some.2 fun h=>by cases h) fun q1=>sq_iteB (fun _=>sq_some.2 fun h=>by cases h) fun q2=>sq_some.2 fun q3=>?_
   have q1:=of_decide_eq_false q1
   have q2:=of_decide_eq_false q2
   have q3:=of_decide_eq_false q3
   omega
  ·cases j with
   | true=>exact sq_some.2 (.inl rfl)
   | false=>
    have hj2:=hj rfl
    simp only[Bool.false_eq_true,if_false]
    refine Sq.bind _ (Sq.of ((G30_sp _ _ (by exact hx.2.1.1) ha).and_part (G30_ty _ _ (by exact hx.2.1.1) ha))) (fun r hr=>?_)
    cases r with
    | false=>exact sq_some.2 (.inl rfl)
    | true=>
     have hr2:=hr.2 rfl
     have hr:=hr.1 rfl
     simp only at hr hr2
     refine sq_some.2 ⟨rfl,hc,fun d hdm=>?_⟩
     rw[wrap_inc (by omega),Int.toNat_natCast,take_succ_getD hc,List.mem_append,List.mem_singleton]at hdm
     rcases hdm with hdm | rfl
     ·exact hI d hdm
     ·exact⟨hj2.1,hr.1,hr.2.1,hr.2.2,hj2.2,hr2⟩
 ·rw[if_neg (decF (by omega))]
  refine sq_some.2 (.inr ⟨rfl,?_⟩)
  rwa [List.take_of_length_le (by omega)]at hI
theorem fitsP2(ta:List Int)(acts:List GAct_errataref31)(c v3:Int)(r:List GDelta)(h0:r.length≤1000000):
  Sp (whileM (fun s=>(T338_L2 ta acts c v3 r s).den) 0) (fun z=>z = .inr (.inr (.inr (.inr false)))∨(z = .inl ()∧∀ d,d∈r→1≤d.N∧d.N≤20)):=by
 refine sq_count (fun s:Int=>s) r.length (by omega) (fun s=>∀ d,d∈r.take s.toNat→1≤d.N∧d.N≤20) (fun s q hI hq hqN=>?_) (by simp) rfl
 subst hq
 unfold T338_L2
 simp only[Tr.den,Int.toNat_natCast]at hI ⊢
 by_cases hc:q<r.length
 ·rw[if_pos (decT (by omega)),if_pos (by omega)]
  refine Sq.bind (fun j:Bool=>j=false→1≤(r.getD q default).N∧(r.getD q default).N≤20) ?_ (fun j hj=>?_)
  ·refine sq_iteB (fun _=>sq_some.2 fun h=>by cases h) fun q1=>?_
   rw[if_pos (by omega)]
   refine sq_some.2 fun q3=>?_
   have q1:=of_decide_eq_false q1
   have q3:=of_decide_eq_false q3
   omega
  ·cases j with
   | true=>exact sq_some.2 (.inl rfl)
   | false=>
    refine sq_some.2 ⟨rfl,hc,fun d hdm=>?_⟩
    rw[wrap_inc (by omega),Int.toNat_natCast,take_succ_getD hc,List.mem_append,List.mem_singleton]at hdm
    rcases hdm with hdm | rfl
    ·exact hI d hdm
    ·exact hj rfl
 ·rw[if_neg (decF (by omega))]
  refine sq_some.2 (.inr ⟨rfl,?_⟩)
  rwa [List.take_of_length_le (by omega)]at hI
theorem G338_sp(n:GNode)(ta:List Int)(acts:List GAct_errataref31)(most:Nat)(hm:most≤1000)(hok:okL 40 okGAct_errataref31 acts)(ha:ta.length≤1048576):
  Sp (G338 n ta acts (most:Int)) (fun r=>r=true→acts.length≤most∧FitsP ta acts [] (-1)):=by
 unfold G338 T338
 simp only[Tr.den]
 by_cases hlen:(acts.length:Int)>(most:Int)
 ·rw[if_pos (decT hlen)]
  exact sq_some.2 fun h=>by cases h
 ·rw[if_neg (decF hlen)]
  refine sq_bind.2 (sq_count (fun s:List GDelta×Int×Int=>s.2.2) acts.length (by omega) (fun s=>okD s.1∧s.1.length≤8*s.2.2.toNat∧(FitsP ta (acts.drop s.2.2.toNat) s.1 s.2.1→FitsP ta acts [] (-1))) (fun s k hI hk hkN=>?_)
   ⟨.nil,by simp,by simp⟩ rfl)
  obtain⟨v1,v2,v3⟩:=s
  obtain⟨o0,hl,hI⟩:=hI
  simp only at hk o0 hl hI
  subst hk
  simp only[Int.toNat_natCast]at hl hI
  unfold T338_L0
  simp only[Tr.den,Int.toNat_natCast]
  by_cases hc:k<acts.length
  ·have hok':=hok.2 _ (getD_mem hc)
   rw[drop_getD hc]at hI
   rw[if_pos (decT (by omega))]
   refine Sq.bind (fun z=>z = .inr (.inr (.inr false))∨∃ t0 c,z = .inl (t0,c)∧okD t0∧t0.length≤8*(k+1)∧(FitsP ta (acts.drop (k+1)) t0 c→FitsP ta acts [] (-1))) ?_ (fun z hz=>?_)
   ·rw[if_pos (by omega)]
    refine sq_iteB (fun h3=>?_) (fun h3=>?_)
    ·rw[if_pos (by omega)]
     by_cases h4:(acts.getD k default).C>2199023255552
     ·rw[if_pos (decT h4)]; exact sq_some.2 (.inl rfl)
     ·rw[if_neg (decF h4),if_pos (by omega)]
      refine sq_some.2 (.inr ⟨v1,_,rfl,o0,by omega,fun hF=>hI ⟨fun _=>⟨by omega,hF⟩,fun h=>?_⟩⟩)
      rw[show isCp (acts.getD k default)=true from h3]at h; cases h
    ·rw[if_pos (by omega)]
     by_cases h4:((acts.getD k default).L.length:Int)>8
     ·rw[if_pos (decT h4)]; exact sq_some.2 (.inl rfl)
     ·rw[if_neg (decF h4)]
      refine Sq.bind _ (Sq.of (fitsP1 ta acts v1 k hc v2 hok' ha (by omega))) (fun z hz=>?_)
      rcases hz with rfl | ⟨rfl,hz⟩
      ·exact sq_some.2 (.inl rfl)
      ·simp only[sel]
       have okL':=okGDelta.okd hok'.2.2
       have ok1:=o0.app okL'
       rw[if_pos (by omega),if_pos (by omega),if_pos (by omega),G114_eq _ ok1 (by rw[List.length_append]; omega)]
       simp only[Option.bind_some]
       have hcl:=cons_len (v1++(acts.getD k default).L)
       rw[List.length_append]at hcl
       refine Sq.bind _ (Sq.of (fitsP2 ta acts v2 (k:Int) (cons (v1++(acts.getD k default).L)) (by omega))) (fun z hz2=>?_)
       rcases hz2 with rfl | ⟨rfl,hz2⟩
       ·exact sq_some.2 (.inl rfl)
       ·refine sq_some.2 (.inr ⟨_,_,rfl,ok1.cons,by omega,fun hF=>hI ⟨fun h=>?_,fun _=>⟨by omega,hz,hz2,hF⟩⟩⟩)
        rw[show isCp (acts.getD k default)=false from h3]at h; cases h
   ·rcases hz with rfl | ⟨t0,c,rfl,p0,pl,hF⟩
    ·exact sq_some.2 (sq_some.2 fun h=>by cases h)
    ·refine sq_some.2 ⟨rfl,hc,p0,?_,?_⟩
     ·simp only; rw[wrap_inc (by omega),Int.toNat_natCast]; exact pl
     ·simp only; rw[wrap_inc (by omega),Int.toNat_natCast]; exact hF
  ·rw[if_neg (decF (by omega))]
   refine sq_some.2 (sq_some.2 fun _=>⟨by omega,hI ?_⟩)
   rw[List.drop_eq_nil_of_le (by omega)]; trivial
theorem G312_sp(fs:List GFunc)(n:GNode)(ta:List Int)(acts:List GAct_errataref31)(most:Nat)(hm:most≤1000)(hl:okL 104 okGFunc fs)(hn:okGNode n)(ht:okL 8 inI64 ta)(hok:okL 40 okGAct_errataref31 acts):
  Sp (G312 fs n ta acts (most:Int)) (fun r=>r=true→RightP fs n ta∧acts.length≤most∧FitsP ta acts [] (-1)):=by
 unfold G312 T312
 simp only[Tr.den]
 refine Sq.bind (fun j:Bool=>j=false→n.Op=8) ?_ (fun j hj=>?_)
 ·by_cases h8:n.Op=8
  ·rw[if_neg (bneF h8)]
   refine sq_iteB (fun _=>sq_some.2 fun h=>by cases h) fun _=>?_
   refine Sq.bind _ (Sq.of (G33_spF fs n hl hn)) fun r _=>sq_some.2 fun _=>h8
  ·rw[if_pos (bneT h8)]; exact sq_some.2 fun h=>by cases h
 ·cases j with
  | true=>exact sq_some.2 fun h=>by cases h
  | false=>
   have h8:=hj rfl
   simp only[Bool.false_eq_true,if_false]
   refine Sq.bind _ (Sq.of (G82_tot fs hl)) fun r _=>?_
   refine Sq.bind (fun r:Bool=>r=true→RightP fs n ta∧acts.length≤most∧FitsP ta acts [] (-1)) ?_ fun r hr=>sq_some.2 hr
   refine sq_iteB (fun _=>?_) fun _=>sq_some.2 fun h=>by cases h
   refine Sq.bind _ (Sq.of (G34_pat fs n ta hl hn h8 ht.1)) fun r hr=>?_
   refine sq_iteB (fun h=>?_) fun _=>sq_some.2 fun h=>by cases h
   refine Sq.bind _ (Sq.of (G338_sp n ta acts most hm hok ht.1)) fun r2 hr2=>sq_some.2 fun h2=>⟨hr h,hr2 h2⟩
structure AOk (n:GNode)(ta:List Int)(a:List GDelta):Prop where
 can:Can a
 ok:okI n 0 a
 len:a.length≤900
 pos:∀ d,d∈a→1≤d.N∧d.N≤20
 row:∀ d,d∈a→d.Row.length=ta.length
theorem AOk.nil(n:GNode)(ta:List Int):AOk n ta []:=⟨.nil,okI.nil,by simp,by simp,by simp⟩
theorem okI_pat{fs:List GFunc}{n:GNode}{ta:List Int}(hR:RightP fs n ta){l:List GDelta}(h:okL 40 okGDelta l)(hr:∀ d,d∈l→d.Row.length=ta.length)(ht:∀ d,d∈l→0≤d.Time∧d.Time≤2199023255552):okI n 0 l:=by
 refine⟨fun d hd v hv=>?_,fun d hd q hq=>?_,fun d hd=>?_,ht,(okGDelta.okd h).n⟩
 ·have:=(h.2 d hd).2.1.2 v hv
  exact⟨this.1,this.2.1,Nat.le_trans this.2.2 (by omega)⟩
 ·rw[hr d hd]; exact hR.key q hq
 ·rw[hr d hd]; have:=hR.la; omega
theorem AOk.sm{n:GNode}{ta:List Int}{a:List GDelta}(h:AOk n ta a):∀ d,d∈a→d.Row.length=ta.length∧∀ v,v∈d.Row→Sm v:=fun d hd=>⟨h.row d hd,fun v hv=>(h.ok.v d hd v hv).s⟩
theorem AOk.push{n:GNode}{ta:List Int}{a l:List GDelta}(h:AOk n ta a)(hl:okI n 0 l)(hr:∀ d,d∈l→d.Row.length=ta.length)(hlen:a.length+l.length≤900)(hp:∀ d,d∈cons (a++l)→1≤d.N∧d.N≤20):AOk n ta (cons (a++l)):=by
 have ho:=h.ok.app hl
 have hc:=cons_len (a++l)
 rw[List.length_append]at hc
 refine⟨cons_can ho.n,ho.cons,by omega,hp,fun d hd=>?_⟩
 obtain⟨z,hz,e⟩:=cons_mem hd
 have e2:d.Row=z.Row:=congrArg Prod.snd e
 rw[e2]
 exact(List.mem_append.1 hz).elim (h.row z) (hr z)
theorem AOk.mt{fs:List GFunc}{n:GNode}{ta:List Int}{a:List GDelta}(h:AOk n ta a)(hev:okEv fs n a){r:List GDelta}(hs:∀ x,x∈r→x∈a)(hl:r.length≤a.length):okMt fs n r:=by
 have:=h.len
 exact⟨h.ok.sub hs,hev.sub hs,fun d hd=>by have:=(h.pos d (hs d hd)).2; omega,by omega⟩
theorem aft_low{n:GNode}{a:List GDelta}{t:Int}(h:okI n 0 a)(ht:t<0):a.filter (aft t)=a:=List.filter_eq_self.2 fun d hd=>decT (by have:=(h.t d hd).1; omega)
theorem ofK_filter(n:GNode)(k:ByteArray)(a:List GDelta)(t:Int):ofK n 0 k (a.filter (aft t))=(ofK n 0 k a).filter (aft t):=by
 unfold ofK
 exact filter_comm' _ _ _
theorem ofK_sub{n:GNode}{k:ByteArray}{a:List GDelta}{t:Int}:∀ x,x∈ofK n 0 k (a.filter (aft t))→x∈a:=fun x hx=>(List.mem_filter.1 (ofK_mem.1 hx).1).1
theorem ofK_le(n:GNode)(k:ByteArray)(a:List GDelta)(t:Int):(ofK n 0 k (a.filter (aft t))).length≤a.length:=Nat.le_trans (ofK_len _ _ _ _) (List.length_filter_le _ _)
noncomputable def pushR (fs:List GFunc)(n:GNode)(a l:List GDelta):List GDelta:=cons ((mkeys (groupM n 0 (cons l))).flatMap fun k=>chgK fs n (ofK n 0 k a) (ofK n 0 k (cons l)))
theorem chgK_cut{fs:List GFunc}{n:GNode}{ta:List Int}{a l:List GDelta}{c:Int}{k:ByteArray}(hn:okPn n)(h:AOk n ta a)(hl:okI n 0 l)(hc:∀ d,d∈l→c<d.Time)(hc1:-1≤c)(hk:ofK n 0 k (cons l)≠[]):
  chgK fs n (ofK n 0 k (a.filter (aft (c-(n.Size-1))))) (ofK n 0 k (cons l))=chgK fs n (ofK n 0 k a) (ofK n 0 k (cons l)):=by
 have hz:=hn.size
 have hal:∀ t:Int,t≤c→∀ d,d∈l→aft t d=true:=fun t ht d hd=>decT (by have:=hc d hd; omega)
 have e1:=ofK_push (n:=n) (i:=0) (k:=k) h.can hl.n (hal (c-(n.Size-1)) (by omega))
 have e2:=ofK_push (n:=n) (i:=0) (k:=k) h.can hl.n (fun d hd=>show aft (-1) d=true from decT (by have:=(hl.t d hd).1; omega))
 have hA:=h.ok.app hl
 rw[aft_low h.ok (by omega),aft_low hA.cons (by omega)]at e2
 have hlo:c-(n.Size-1)≤loP (ofK n 0 k (cons l))-n.Size:=by
  have hm:=getD_mem (List.length_pos_iff.2 hk)
  obtain⟨z,hz',e⟩:=cons_mem (ofK_mem.1 hm).1
  have e3:((ofK n 0 k (cons l)).getD 0 default).Time=z.Time:=congrArg Prod.fst e
  have:=hc z hz'
  unfold loP
  omega
 unfold chgK
 rw[e1,e2,ofK_filter,ofK_filter,matF_cut (ofK_one n k _) hlo,matF_cut (ofK_one n k _) hlo]
theorem flatMap_congr'{α β:Type}{f g:α→List β}:∀ {l:List α},(∀ x,x∈l→f x=g x)→l.flatMap f=l.flatMap g
 | [],_=>rfl
 | x::l,h=>by rw[List.flatMap_cons,List.flatMap_cons,h x List.mem_cons_self,flatMap_congr' fun y hy=>h y (List.mem_cons_of_mem _ hy)]
theorem push_eq{fs:List GFunc}{n:GNode}{ta:List Int}{a l:List GDelta}{c:Int}{m:KP}(i cl:Int)(hn:okPn n)(h:AOk n ta a)(hev:okEv fs n a)(hl:okI n 0 l)(hlen:l.length≤1000)(hc:∀ d,d∈l→c<d.Time)(hc1:-1≤c)
  (h':AOk n ta (cons (a++l)))(hev':okEv fs n (cons (a++l)))(hQ:QInv n a (c-(n.Size-1)) m):G315s0 i l fs n cl m=some (pushR fs n a l,pushP n (cons l) m):=by
 have hal:∀ d,d∈l→aft (c-(n.Size-1)) d=true:=fun d hd=>decT (by have:=hc d hd; have:=hn.size; omega)
 rw[G315s0_eq i l fs n cl m hn hl hlen hQ.mp (fun k=>by rw[hQ.val]; exact h.mt hev ofK_sub (ofK_le _ _ _ _))
  (fun k=>by rw[hQ.val,ofK_push h.can hl.n hal]; exact h'.mt hev' ofK_sub (ofK_le _ _ _ _)) (fun k=>by rw[hQ.val]; have:=ofK_le n k a (c-(n.Size-1)); have:=h.len; omega)]
 unfold pushR
 rw[flatMap_congr' (g:=fun k=>chgK fs n (ofK n 0 k a) (ofK n 0 k (cons l))) fun k hk=>?_]
 unfold chgP
 rw[hQ.val]
 exact chgK_cut hn h hl hc hc1 (groupM_key.1 hk)
theorem pushR_ok{fs:List GFunc}{n:GNode}{ta:List Int}{a l:List GDelta}(hn:okPn n)(h:AOk n ta a)(hl:okI n 0 l)(hlen:l.length≤1000)(h':AOk n ta (cons (a++l))):okD (pushR fs n a l)∧(pushR fs n a l).length≤3000000000:=by
 have hk:∀ k,okD (chgK fs n (ofK n 0 k a) (ofK n 0 k (cons l))):=fun k=>chgK_ok hn (ofK_okI h.ok).t (ofK_okI hl.cons).t
 have hkl:∀ k,(chgK fs n (ofK n 0 k a) (ofK n 0 k (cons l))).length≤3000000:=fun k=>by
  have e2:=ofK_push (n:=n) (i:=0) (k:=k) h.can hl.n (fun d hd=>show aft (-1) d=true from decT (by have:=(hl.t d hd).1; omega))
  rw[aft_low h.ok (by omega),aft_low (h.ok.app hl).cons (by omega)]at e2
  have h1:=chgK_len (fs:=fs) (n:=n) (before:=ofK n 0 k a) (part:=ofK n 0 k (cons l)) (fun d hd=>by have:=(h.pos d (ofK_mem.1 hd).1).2; omega) (fun d hd=>by rw[e2]at hd; have:=(h'.pos d (ofK_mem.1 hd).1).2; omega)
  have h2:=ofK_len n 0 k a
  have h3:=ofK_len n 0 k (cons l)
  have h4:=cons_len l
  have h5:=h.len
  omega
 have hd:okD ((mkeys (groupM n 0 (cons l))).flatMap fun k=>chgK fs n (ofK n 0 k a) (ofK n 0 k (cons l))):=⟨fun x hx=>by
   obtain⟨a,ha,hx⟩:=List.mem_flatMap.1 hx
   exact(hk a).r x hx,fun x hx=>by
   obtain⟨a,ha,hx⟩:=List.mem_flatMap.1 hx
   exact(hk a).n x hx⟩
 refine⟨hd.cons,?_⟩
 have h1:=cons_len ((mkeys (groupM n 0 (cons l))).flatMap fun k=>chgK fs n (ofK n 0 k a) (ofK n 0 k (cons l)))
 have h2:=flatMapK_len hkl (mkeys (groupM n 0 (cons l)))
 have h3:=groupM_len n 0 (cons l)
 have h4:=cons_len l
 unfold pushR
 have h5:(mkeys (groupM n 0 (cons l))).length≤1000:=by rw[mkeys,List.length_map]; omega
 have h6:=Nat.mul_le_mul h5 (Nat.le_refl 3000000)
 omega
def one(d:GDelta):GDelta:=⟨d.Time,d.Row,1⟩
theorem wt_one:∀ l:List GDelta,wt all1 (l.map one)=l.length
 | []=>rfl
 | d::l=>by
  rw[List.map_cons,show wt all1 (one d::l.map one)=1+wt all1 (l.map one) from rfl,wt_one l,List.length_cons]; omega
theorem ofK_map(n:GNode)(k:ByteArray)(l:List GDelta):ofK n 0 k (l.map one)=(ofK n 0 k l).map one:=by
 unfold ofK
 rw[List.filter_map]
 rfl
theorem QInv.allLen{n:GNode}{a:List GDelta}{t:Int}{m:KP}(h:QInv n a t m):(allP m).length≤a.length:=by
 have e:wt all1 ((allP m).map one)=wt all1 ((a.filter (aft t)).map one):=by
  unfold allP
  rw[List.map_flatMap,wt_flat,←sumK_map,←sumK_ofK all1 n 0 (mkeys m) (h.mp.mc.nodup LO.bytes) ((a.filter (aft t)).map one) fun x hx=>h.mp.key.2 fun h0=>by
   obtain⟨y,hy,rfl⟩:=List.mem_map.1 hx
   rw[h.val]at h0
   have:y∈ofK n 0 (kd n 0 (one y)) (a.filter (aft t)):=ofK_mem.2 ⟨hy,rfl⟩
   rw[h0]at this; simp at this]
  exact sumK_congr fun k _=>by rw[h.val,ofK_map]
 rw[wt_one,wt_one]at e
 have:=List.length_filter_le (aft t) a
 omega
theorem rows_eq{n:GNode}{ta:List Int}{a:List GDelta}{t:Int}{m:KP}(fs:List GFunc)(cl:Int)(h:QInv n a t m)(ha:AOk n ta a):G316s0 fs n cl m=some (W (wt all1 (a.filter (aft t))),m):=by
 have hl:=h.allLen
 have:=ha.len
 rw[G316s0_eq fs n cl m h.mp (fun k=>by rw[h.val]; exact ha.ok.okD.sub ofK_sub) (by omega),h.kept ha.can]
def oneL(d:GDelta):List UInt8:=bl (numB d.Time)++(bl (txtB (rowB d.Row))++bl (numB d.N))
def dsL(l:List GDelta):List UInt8:=l.flatMap oneL
theorem dsL_cons(d:GDelta)(l:List GDelta):dsL (d::l)=oneL d++dsL l:=rfl
theorem dsL_app(l r:List GDelta):dsL (l++r)=dsL l++dsL r:=List.flatMap_append
def bytL(l:List GDelta):List UInt8:=bl (numB (l.length:Int))++dsL l
theorem take_getD{α:Type}[Inhabited α]{l:List α}{k:Nat}(hk:k<l.length):l.take (k+1)=l.take k++[l.getD k default]:=by
 rw[List.take_succ_eq_append_getElem hk]
 simp[List.getD_eq_getElem?_getD,hk]
theorem drop_getD'{α:Type}[Inhabited α]{l:List α}{k:Nat}(hk:k<l.length):l.drop k=l.getD k default::l.drop (k+1):=by
 rw[List.drop_eq_getElem_cons hk]
 simp[List.getD_eq_getElem?_getD,hk]
theorem G53_bl(l:List GDelta)(ho:okD l)(hz:okZ l)(ht:okTm l)(hn:l.length≤1000):∃ b,G53 l=some b∧b.size≤20000000000∧bl b=bytL (PL.cons l):=by
 have hn':(PL.cons l).length≤1000:=Nat.le_trans (cons_len l) hn
 have hz':=hz.cons
 have ht':okTm (PL.cons l):=fun x hx=>by
  obtain⟨z,hz,e⟩:=cons_mem hx
  have:x.Time=z.Time:=congrArg Prod.fst e
  rw[this]; exact ht z hz
 have hN':=(cons_can ho.n).n64
 suffices h:Sp (G53 l) (fun b=>b.size≤20000000000∧bl b=bytL (PL.cons l)) from h.get
 unfold G53 T53
 simp only[Tr.den]
 rw[G27_eq l ho.r ho.n (by omega)]
 simp only[Option.bind_some]
 rw[G119_eq (PL.cons l).length (by omega)]
 simp only[Option.bind_some]
 have hs:=numB_size (n:=((PL.cons l).length:Int)) ⟨by omega,by omega⟩
 generalize PL.cons l=r at *
 rw[if_pos (by show 0+_≤_; omega)]
 simp only[Option.bind_some]
 have h0:bl ((⟨#[]⟩:ByteArray)++numB (r.length:Int))=bl (numB (r.length:Int)):=by rw[bl_app]; rfl
 refine Sq.bind (fun z:ByteArray⊕ByteArray=>∃ b,z = .inl b∧b.size≤20000000000∧bl b=bytL r) (sq_count (fun s:ByteArray×Int=>s.2) r.length (by omega) (fun s=>s.1.size≤22+s.2.toNat*12700000∧bl s.1=bl (numB (r.length:Int))++dsL (r.take s.2.toNat)) (fun s k hI hk hkN=>?_)
  ⟨by rw[ByteArray.size_append,show (⟨#[]⟩:ByteArray).size=0 from rfl]; simp only; omega,by rw[h0]; simp[dsL]⟩ rfl) fun z hz=>?_
 ·obtain⟨v3,v4⟩:=s
  simp only at hk hI
  subst hk
  obtain⟨hI,hB⟩:=hI
  unfold T53_L0
  simp only[Tr.den,Int.toNat_natCast]
  have hmul:k*12700000≤1000*12700000:=Nat.mul_le_mul (by omega) (Nat.le_refl _)
  rw[Int.toNat_natCast]at hI hB
  by_cases hc:k<r.length
  ·rw[if_pos (decT (by omega)),if_pos (by omega)]
   have hT:=ht'.get k
   have hR:=hz'.get k
   have hNN:=hN' _ (getD_mem hc)
   have b1:=rowB_size2 hR
   have iT:in64 (r.getD k default).Time:=⟨by omega,by omega⟩
   rw[G51_eq iT]
   simp only[Option.bind_some]
   rw[G120_eq _ hR.v (by have:=hR.l; omega)]
   simp only[Option.bind_some]
   rw[G52_eq2 (by omega)]
   simp only[Option.bind_some]
   have b2:=txtB_size2 (s:=rowB (r.getD k default).Row) (by omega)
   have b3:=numB_size iT
   have b4:=numB_size hNN
   rw[if_pos (by omega),G51_eq hNN]
   simp only[Option.bind_some]
   rw[ByteArray.size_append,if_pos (by omega),ByteArray.size_append,ByteArray.size_append,if_pos (by omega)]
   simp only[Option.bind_some]
   refine sq_some.2 ⟨rfl,hc,?_,?_⟩
   ·simp only
    rw[wrap_inc (by omega),Int.toNat_natCast,ByteArray.size_append,ByteArray.size_append,ByteArray.size_append,Nat.add_mul]
    omega
   ·simp only
    rw[wrap_inc (by omega),Int.toNat_natCast,take_getD hc,dsL_app,bl_app,bl_app,bl_app,hB]
    simp[dsL,oneL]
  ·rw[if_neg (decF (by omega))]
   refine sq_some.2 ⟨v3,rfl,by omega,?_⟩
   rw[hB,List.take_of_length_le (by omega)]; rfl
 ·obtain⟨b,rfl,hb⟩:=hz
  simp only[sel]
  exact sq_some.2 hb
theorem numB_pos(n:Int):0<(bl (numB n)).length:=by
 unfold numB
 rw[bl_app,List.length_append]
 have:(bl (⟨#[59]⟩:ByteArray)).length=1:=rfl
 omega
theorem dsL_ge(l:List GDelta):l.length≤(dsL l).length:=by
 induction l with
 | nil=>simp
 | cons d l ih=>
  rw[dsL_cons,List.length_append,List.length_cons]
  unfold oneL
  rw[List.length_append]
  have:=numB_pos d.Time
  omega
theorem dsL_drop(l:List GDelta):∀ i,(dsL (l.drop i)).length≤(dsL l).length
 | 0=>Nat.le_refl _
 | i+1=>by
  cases l with
  | nil=>simp
  | cons v r=>
   rw[List.drop_succ_cons,dsL_cons,List.length_append]
   have:=dsL_drop r i
   omega
theorem G137_can(l:List GDelta)(h:Can l)(ho:okRs l)(hn:l.length≤1000000000000):G137 l=some true:=by
 unfold G137 T137
 simp only[Tr.den]
 have h1:=while_trace (bd:=fun s=>(T137_L0 l s).den) (fun k=>(k:Int)) l.length (r:=.inl ()) (fun k hk=>?_) ?_
 ·refine(congrArg (fun x=>Option.bind x _) h1).trans ?_
  rfl
 ·have hm:=getD_mem hk
  unfold T137_L0
  simp only[Tr.den,Int.toNat_natCast]
  rw[if_pos (decT (by omega)),if_pos (by omega),if_neg (beqF (h.nz _ hm))]
  by_cases h0:k=0
  ·rw[if_neg (decF (by omega))]
   simp only[Option.bind_some,Bool.false_eq_true,if_false]
   rw[wrap_inc (by omega)]
  ·have e:IntKind.i64.wrap ((k:Int)-1)=((k-1:Nat):Int):=by
    have:=wrap_sub (n:=k) (m:=1) (by omega) (by omega)
    simpa using this
   have hlt:cmpD (l.getD (k-1) default) (l.getD k default)<0:=by
    rw[getD_lt hk,getD_lt (show k-1<l.length by omega)]
    exact List.pairwise_iff_getElem.1 h.lt (k-1) k (by omega) hk (by omega)
   rw[if_pos (decT (by omega)),e,if_pos (by omega),Int.toNat_natCast,G61_eq _ _ (ho _ (getD_mem (by omega))) (ho _ hm)]
   simp only[Option.bind_some]
   rw[if_neg (decF (by omega)),wrap_inc (by omega)]
 ·unfold T137_L0
  simp only[Tr.den]
  rw[if_neg (decF (by omega))]
structure BOk (a:List GDelta):Prop where
 can:Can a
 d:okD a
 z:okZ a
 t:okTm a
 n:a.length≤1000
noncomputable def byt (a:List GDelta):ByteArray:=(G53 a).getD default
theorem BOk.byt{a:List GDelta}(h:BOk a):G53 a=some (byt a)∧(PL.byt a).size≤20000000000∧bl (PL.byt a)=bytL a:=by
 obtain⟨b,hb,hs,hl⟩:=G53_bl a h.d h.z h.t h.n
 rw[cons_id h.can]at hl
 unfold PL.byt
 rw[hb]
 exact⟨rfl,hs,hl⟩
theorem G67_eq{a:List GDelta}(h:BOk a):G67 (byt a)=some (a,true):=by
 obtain⟨hb,hs,hl⟩:=h.byt
 have hn:=h.n
 have hlen:=congrArg List.length hl
 unfold bytL at hlen hl
 rw[bl_len,List.length_append]at hlen
 have hge:=dsL_ge a
 obtain⟨b,hbb⟩:∃ b,byt a=b:=⟨_,rfl⟩
 rw[hbb]at hb hs hl hlen ⊢
 have h65:G65s0 b=some ⟨b,false⟩:=rfl
 unfold G67 T67
 simp only[Tr.den,h65,Option.bind_some]
 rw[G135_eq ⟨by omega,by omega⟩ (by omega) hl (by omega)]
 simp only[Option.bind_some]
 have key:whileM (fun s=>(T67_L0 b ⟨b,false⟩ ((a.length:Int),mkB (dsL a)) s).den) (mkB (dsL a),([]:List GDelta),0)=some (.inl a):=by
  have:=while_trace (bd:=fun s=>(T67_L0 b ⟨b,false⟩ ((a.length:Int),mkB (dsL a)) s).den) (fun i=>(mkB (dsL (a.drop i)),a.take i,(i:Int))) a.length (r:=.inl a) (fun i hi=>?_) ?_
  ·simpa using this
  ·have hT:=h.t.get i
   have hR:=h.z.get i
   have hNN:=h.d.n _ (getD_mem hi)
   have b1:=rowB_size2 hR
   have hdl:=dsL_drop a i
   have hq:bl (mkB (dsL (a.drop i)))=bl (numB (a.getD i default).Time)++(bl (txtB (rowB (a.getD i default).Row))++(bl (numB (a.getD i default).N)++dsL (a.drop (i+1)))):=by
    rw[bl_mk,drop_getD' hi,dsL_cons]; simp[oneL]
   have hql:=congrArg List.length hq
   rw[bl_mk,List.length_append,List.length_append]at hql
   unfold T67_L0
   simp only[Tr.den]
   rw[if_pos (decT (by split <;> omega)),G66_eq ⟨by omega,by omega⟩ hq (by rw[←bl_len,bl_mk]; omega)]
   simp only[Option.bind_some]
   rw[G68_eq (by omega) (bl_mk _) (by rw[←bl_len,bl_mk,List.length_append]; omega)]
   simp only[Option.bind_some]
   rw[G136_eq hR.v (by have:=hR.l; omega) (by omega)]
   simp only[Option.bind_some,Bool.not_true,Bool.false_eq_true,if_false]
   rw[G66_eq hNN (bl_mk _) (by rw[←bl_len,bl_mk]; omega)]
   simp only[Option.bind_some]
   rw[if_pos (by simp only[List.length_take,List.length_cons,List.length_nil]; omega),wrap_inc (by omega),take_getD hi]
  ·unfold T67_L0
   simp only[Tr.den]
   rw[if_neg (decF (by split <;> omega)),List.take_length]
 rw[key]
 simp only[sel,Option.bind_some]
 rw[G137_can a h.can h.d.r (by omega)]
 simp only[Option.bind_some,Bool.not_true,Bool.false_eq_true,if_false,hb,tl_self]
theorem G339_20(k:ByteArray)(l:LD)(fs:List GFunc)(n:GNode)(c:Int)(m:KP):G339s2 k l fs n c m=G339s1 k l fs n c m:=by
 unfold G339s2 G339s1 T339s2 T339s1
 simp only[Tr.den]
theorem G357_10(r:List GValue)(fs:List GFunc)(n:GNode)(c:Int)(m:KP):G357s1 r fs n c m=G357s0 r fs n c m:=by
 have e:∀ s,(T357s1_L0 r n s).den=(T357s0_L0 r n s).den:=by
  rintro⟨x,y⟩
  unfold T357s1_L0 T357s0_L0
  simp only[Tr.den]
 unfold G357s1 G357s0 T357s1 T357s0
 simp only[Tr.den,e]
theorem G340_10(l:LD)(fs:List GFunc)(n:GNode)(c:Int)(m:KP):G340s1 l fs n c m=G340s0 l fs n c m:=by
 have e:∀ s,(T340s1_L0 l fs n c m s).den=(T340s0_L0 l fs n c m s).den:=by
  rintro⟨x,y⟩
  unfold T340s1_L0 T340s0_L0
  simp only[Tr.den,G357_10]
 unfold G340s1 G340s0 T340s1 T340s0
 simp only[Tr.den,e]
theorem G358_10(l:LD)(a b:Int)(fs:List GFunc)(n:GNode)(c:Int)(m:KP):G358s1 l a b fs n c m=G358s0 l a b fs n c m:=by
 have e1:∀ v s,(T358s1_L1 l a b fs n c m v s).den=(T358s0_L1 l a b fs n c m v s).den:=by
  rintro v ⟨x,y,z⟩
  unfold T358s1_L1 T358s0_L1
  simp only[Tr.den]
 have e2:∀ v w s,(T358s1_L2 l v w s).den=(T358s0_L2 l v w s).den:=by
  rintro v w ⟨x,y⟩
  unfold T358s1_L2 T358s0_L2
  simp only[Tr.den]
 have e0:∀ s,(T358s1_L0 l a b fs n c m s).den=(T358s0_L0 l a b fs n c m s).den:=by
  rintro⟨x,y⟩
  unfold T358s1_L0 T358s0_L0
  simp only[Tr.den,e1,e2]
 unfold G358s1 G358s0 T358s1 T358s0
 simp only[Tr.den,e0]
theorem G375_20(a:Int)(fs:List GFunc)(n:GNode)(c:Int)(m:KP):G375s2 a fs n c m=G375s0 a fs n c m:=by
 have e:∀ s,(T375s2_L0 fs n c m s).den=(T375s0_L0 fs n c m s).den:=by
  rintro⟨x,y⟩
  unfold T375s2_L0 T375s0_L0
  simp only[Tr.den]
 unfold G375s2 G375s0 T375s2 T375s0
 simp only[Tr.den,e]
theorem G375_31(a:Int)(fs:List GFunc)(n:GNode)(c:Int)(m:KP):G375s3 a fs n c m=G375s1 a fs n c m:=by
 have e:∀ s,(T375s3_L0 fs n c m s).den=(T375s1_L0 fs n c m s).den:=by
  rintro⟨x,y⟩
  unfold T375s3_L0 T375s1_L0
  simp only[Tr.den]
 unfold G375s3 G375s1 T375s3 T375s1
 simp only[Tr.den,e]
theorem G359_10(fs:List GFunc)(n:GNode)(c:Int)(m:KP):G359s1 fs n c m=G359s0 fs n c m:=by
 have e:∀ s,(T359s1_L0 fs n c m s).den=(T359s0_L0 fs n c m s).den:=by
  rintro⟨x,y⟩
  unfold T359s1_L0 T359s0_L0
  simp only[Tr.den]
 unfold G359s1 G359s0 T359s1 T359s0
 simp only[Tr.den,e,G375_20]
theorem G376_10(a:Int)(p:GPlace)(fs:List GFunc)(n:GNode)(c:Int)(m:KP)(x:Int):G376s1 a p x fs n c m=G376s0 a p fs n c m x:=by
 unfold G376s1 G376s0 T376s1 T376s0
 simp only[Tr.den,G375_31]
theorem G341_10(l:LD)(a b:Int)(fs:List GFunc)(n:GNode)(c:Int)(m:KP):G341s1 l a b fs n c m=G341s0 l a b fs n c m:=by
 have e1:∀ ps r v s,(T341s1_L1 l a fs n c m ps r v s).den=(T341s0_L1 l a fs n c m ps r v s).den:=by
  rintro ps r v ⟨x,y,z⟩
  unfold T341s1_L1 T341s0_L1
  simp only[Tr.den,G376_10]
 have e0:∀ ps r s,(T341s1_L0 l a fs n c m ps r s).den=(T341s0_L0 l a fs n c m ps r s).den:=by
  rintro ps r ⟨x,y⟩
  unfold T341s1_L0 T341s0_L0
  simp only[Tr.den,e1]
 have e2:∀ ps v w s,(T341s1_L2 a fs n c m ps v w s).den=(T341s0_L2 a fs n c m ps v w s).den:=by
  rintro ps v w ⟨x,y,z⟩
  unfold T341s1_L2 T341s0_L2
  simp only[Tr.den]
 unfold G341s1 G341s0 T341s1 T341s0
 simp only[Tr.den,e0,e2,G358_10,G359_10,G357_10]
theorem G315_10(i:Int)(l:LD)(fs:List GFunc)(n:GNode)(c:Int)(m:KP):G315s1 i l fs n c m=G315s0 i l fs n c m:=by
 have e:∀ s,(T315s1_L0 fs n c s).wpT=(T315s0_L0 fs n c s).wpT:=by
  rintro⟨x,y,z,w⟩
  funext Q
  unfold T315s1_L0 T315s0_L0
  simp only[Tr.wpT,G341_10,G339_20]
 unfold G315s1 G315s0
 refine det_congr ?_
 funext Q
 unfold T315s1 T315s0
 simp only[Tr.wpT,G340_10,e]
theorem G105s3_eq(l:List GDelta)(h:∀ d,d∈l→0≤d.N)(hn:l.length≤1000000000000):G105s3 l=some (-1):=by
 unfold G105s3 T105s3
 simp only[Tr.den]
 have h1:=while_trace (bd:=fun s=>(T105s3_L0 l s).den) (fun k=>(k:Int)) l.length (r:=.inl ()) (fun k hk=>?_) ?_
 ·refine(congrArg (fun x=>Option.bind x _) h1).trans ?_
  rfl
 ·have hm:=h _ (getD_mem hk)
  have e:G141 (l.getD k default)=some false:=by
   unfold G141 T141
   simp only[Tr.den]
   rw[decide_eq_false (by omega)]
  unfold T105s3_L0
  simp only[Tr.den,Int.toNat_natCast]
  rw[if_pos (decT (by omega)),if_pos (by omega),e]
  simp only[Option.bind_some,Bool.false_eq_true,if_false]
  rw[wrap_inc (by omega)]
 ·unfold T105s3_L0
  simp only[Tr.den]
  rw[if_neg (decF (by omega))]
theorem G69_eq{a:List GDelta}(h:BOk a)(hp:∀ d,d∈a→0≤d.N):G69 a=some true:=by
 have hn:=h.n
 unfold G69 T69
 simp only[Tr.den]
 rw[G27_eq a h.d.r h.d.n (by omega),cons_id h.can]
 simp only[Option.bind_some]
 unfold G140s1 T140s1
 simp only[Tr.den]
 rw[G105s3_eq a hp (by omega)]
 rfl
theorem G356_eq{d:GDelta}{b c:Int}(fs:List GFunc)(n:GNode)(m:KP)(h0:0≤d.Time)(h1:d.Time≤2199023255552)(h:0≤c→IntKind.i64.wrap (c-b)<d.Time):G356s0 d b fs n c m=some false:=by
 unfold G356s0 T356s0
 simp only[Tr.den]
 rw[if_neg (decF (by omega)),if_neg (decF (by omega))]
 by_cases hc:0≤c
 ·rw[if_pos (decT hc),decide_eq_false (by have:=h hc; omega)]
  rfl
 ·rw[if_neg (decF hc)]
  rfl
theorem G105s0_eq(l:List GDelta){b c:Int}(fs:List GFunc)(n:GNode)(m:KP)(h:∀ d,d∈l→0≤d.Time∧d.Time≤2199023255552∧(0≤c→IntKind.i64.wrap (c-b)<d.Time))(hn:l.length≤1000000000000):G105s0 l b fs n c m=some (-1):=by
 unfold G105s0 T105s0
 simp only[Tr.den]
 have h1:=while_trace (bd:=fun s=>(T105s0_L0 l b fs n c m s).den) (fun k=>(k:Int)) l.length (r:=.inl ()) (fun k hk=>?_) ?_
 ·refine(congrArg (fun x=>Option.bind x _) h1).trans ?_
  rfl
 ·obtain⟨q1,q2,q3⟩:=h _ (getD_mem hk)
  unfold T105s0_L0
  simp only[Tr.den,Int.toNat_natCast]
  rw[if_pos (decT (by omega)),if_pos (by omega),G356_eq fs n m q1 q2 q3]
  simp only[Option.bind_some,Bool.false_eq_true,if_false]
  rw[wrap_inc (by omega)]
 ·unfold T105s0_L0
  simp only[Tr.den]
  rw[if_neg (decF (by omega))]
theorem G140s0_eq(l:List GDelta){b c:Int}(fs:List GFunc)(n:GNode)(m:KP)(h:∀ d,d∈l→0≤d.Time∧d.Time≤2199023255552∧(0≤c→IntKind.i64.wrap (c-b)<d.Time))(hn:l.length≤1000000000000):G140s0 l b fs n c m=some false:=by
 unfold G140s0 T140s0
 simp only[Tr.den]
 rw[G105s0_eq l fs n m h hn]
 rfl
theorem G333_eq{n:GNode}{a:List GDelta}{c:Int}(fs:List GFunc)(hP:okPn n)(h:BOk a)(hi:okI n 0 a)(hp:∀ d,d∈a→0≤d.N)(hc1:-1≤c)(hc2:c≤2199023255552)(hlate:∀ d,d∈a→c-(n.Size-1)<d.Time):
  G333s0 fs n (numB c++byt a)=some (fs,n,c,groupM n 0 a,true):=by
 obtain⟨hb,hs,hl⟩:=h.byt
 have hn:=h.n
 have hc:in64 c:=⟨by omega,by omega⟩
 have hcs:=numB_size hc
 have hsz:=hP.size
 have hk:=hP.key
 have h65:G65s0 (numB c++byt a)=some ⟨numB c++byt a,false⟩:=rfl
 have h355:G355s0 ⟨byt a,false⟩=some (byt a,⟨#[]⟩):=rfl
 have h66:G66s0 ⟨numB c++byt a,false⟩=some (c,byt a):=by
  rw[G66_eq (t:=bytL a) hc (by rw[bl_app,hl]) (by rw[ByteArray.size_append]; omega),mk_of hl]
 unfold G333s0 T333s0
 simp only[Tr.den]
 rw[G313s0_eq]
 simp only[Option.bind_some,h65,h66,h355,G67_eq h,Bool.not_true,Bool.false_eq_true,if_false,G51_eq hc]
 rw[if_pos (by omega)]
 simp only[tl_self,Bool.false_eq_true,if_false]
 rw[if_neg (decF (by omega)),if_neg (decF (by omega)),G69_eq h hp]
 simp only[Option.bind_some,Bool.not_true,Bool.false_eq_true,if_false]
 rw[G10_pat hP]
 simp only[Option.bind_some]
 rw[G140s0_eq a fs n [] (fun d hd=>⟨(hi.t d hd).1,(hi.t d hd).2,fun _=>by rw[wrap_id (by omega) (by omega)]; exact hlate d hd⟩) (by omega)]
 simp only[Option.bind_some,Bool.false_eq_true,if_false]
 rw[G340_10,G340s0_eq a fs n c [] hi (by omega) (by omega)]
 rfl
theorem groupM_mp(n:GNode)(l:List GDelta):MP (groupM n 0 l):=⟨groupM_mc n 0 l,fun k r h=>by
 rw[groupM_look]at h
 split at h
 ·cases h
 ·rename_i h0
  injection h with h
  rw[←h]; exact h0⟩
theorem QInv.map_eq{n:GNode}{a:List GDelta}{t:Int}{m:KP}(h:QInv n a t m):m=groupM n 0 (a.filter (aft t)):=
 h.mp.ext (groupM_mp n _) fun k=>by rw[h.val]; exact(groupM_get n 0 k _).symm
theorem AOk.bok{n:GNode}{ta:List Int}{a:List GDelta}(h:AOk n ta a)(hz:okZ a)(t:Int):BOk (a.filter (aft t)):=
 ⟨h.can.filter _,h.ok.okD.sub fun x hx=>(List.mem_filter.1 hx).1,hz.sub fun x hx=>(List.mem_filter.1 hx).1,fun x hx=>h.ok.t x (List.mem_filter.1 hx).1,by have:=h.len; have:=List.length_filter_le (aft t) a; omega⟩
theorem keptB{n:GNode}{ta:List Int}{a:List GDelta}{t:Int}{m:KP}(fs:List GFunc)(cl:Int)(h:QInv n a t m)(ha:AOk n ta a):G342s0 fs n cl m=some (a.filter (aft t),m):=by
 have hl:=h.allLen
 have:=ha.len
 rw[G342s0_eq fs n cl m h.mp (fun k=>by rw[h.val]; exact ha.ok.okD.sub ofK_sub) (by omega),h.kept ha.can]
theorem G320_eq{n:GNode}{ta:List Int}{a:List GDelta}{t c:Int}{m:KP}(fs:List GFunc)(h:QInv n a t m)(ha:AOk n ta a)(hz:okZ a)(hc:in64 c):G320s0 fs n c m=some (numB c++byt (a.filter (aft t)),m):=by
 have hB:=(ha.bok hz t).byt
 have hs:=numB_size hc
 unfold G320s0 T320s0
 simp only[Tr.den]
 rw[G51_eq hc]
 simp only[Option.bind_some]
 rw[keptB fs c h ha]
 simp only[Option.bind_some]
 rw[hB.1]
 simp only[Option.bind_some]
 rw[if_pos (by have:=hB.2.1; omega)]
theorem read_eq{n:GNode}{ta:List Int}{a:List GDelta}{c:Int}{m:KP}(fs:List GFunc)(hP:okPn n)(h:QInv n a (c-(n.Size-1)) m)(ha:AOk n ta a)(hz:okZ a)(hc1:-1≤c)(hc2:c≤2199023255552):
  G333s0 fs n (numB c++byt (a.filter (aft (c-(n.Size-1)))))=some (fs,n,c,m,true):=by
 rw[G333_eq fs hP (ha.bok hz _) (ha.ok.sub fun x hx=>(List.mem_filter.1 hx).1) (fun d hd=>by have:=(ha.pos d (List.mem_filter.1 hd).1).1; omega) hc1 hc2 (fun d hd=>of_decide_eq_true (List.mem_filter.1 hd).2),←h.map_eq]
theorem okZ_pat{ta:List Int}(hla:ta.length≤12){l:List GDelta}(h:okL 40 okGDelta l)(hr:∀ d,d∈l→d.Row.length=ta.length):okZ l:=fun d hd=>by
 have h1:=(h.2 d hd).2.1.2
 refine⟨by rw[hr d hd]; exact hla,fun v hv=>?_,fun v hv=>(h1 v hv).2.2⟩
 have:=h1 v hv
 exact⟨this.1,this.2.1,Nat.le_trans this.2.2 (by omega)⟩
def exC(v:Int):Expr:=Expr.mk 0 v ⟨#[]⟩ []
def exCol:Expr:=Expr.mk 3 1 ⟨#[]⟩ []
def isE(v:Int):Expr:=Expr.mk 13 0 ⟨#[]⟩ [exCol,exC v]
theorem G362_is(f:GFrame)(v:Int)(hf:f.row_.length=2):G362 f (isE v)=some (bop 13 (f.row_.getD 1 default) (vI v)):=by
 refine Sp.eq ?_
 have h0:=fixF_sqh (C:=fun (a:GFrame×Expr) (x:Option (GValue))=>Con Proofs.Tryz.prog 171 [.t (eGFrame a.1),.t (eExpr a.2)] x (fun (y:GValue)=>.t (eGValue y))) (fun a=>⟨callable_of Proofs.Tryz.func171 (by kernel_rfl),fun _ h=>nomatch h⟩) (fun rec a=>T362 rec a.1 a.2) (fun rec a=>T362_ok rec a.1 a.2)
  (fun n a=>a.1.row_.length=2∧((n=0∧(a.2=exCol∨∃ v,a.2=exC v))∨(n=1∧∃ v,a.2=isE v)))
  (fun a y=>(a.2=exCol→y=a.1.row_.getD 1 default)∧(∀ v,a.2=exC v→y=vI v)∧(∀ v,a.2=isE v→y=bop 13 (a.1.row_.getD 1 default) (vI v))) (fun b r n a ha hrec=>?_) true 1 (f,isE v) ⟨hf,.inr ⟨rfl,v,rfl⟩⟩
 ·exact h0.imp fun y hy=>hy.2.2 v rfl
 ·obtain⟨f,e⟩:=a
  obtain⟨hrow,hk⟩:=ha
  simp only at hrow hk hrec ⊢
  rcases hk with⟨rfl,rfl | ⟨v,rfl⟩⟩ | ⟨rfl,v,rfl⟩
  ·unfold T362
   simp only[Tr.den]
   rw[if_neg (by show ¬ ((3:Int)==21)=true; decide),whileM_stop (r:=.inl []) (by unfold T362_L0; simp only[Tr.den]; exact if_neg (decF (by show ¬ (0:Int)<0; omega)))]
   simp only[Option.bind_some,sel]
   rw[if_neg (by show ¬ ((3:Int)==0)=true; decide),if_neg (by show ¬ ((3:Int)==1)=true; decide),if_neg (by show ¬ ((3:Int)==2)=true; decide),if_pos (by show ((3:Int)==3)=true; decide),if_pos (by show (0:Int)≤1∧(1:Int)<_; omega)]
   refine sq_some.2 ⟨fun _=>rfl,fun v h=>?_,fun v h=>?_⟩ <;> simp[exC,isE,exCol]at h
  ·unfold T362
   simp only[Tr.den]
   rw[if_neg (by show ¬ ((0:Int)==21)=true; decide),whileM_stop (r:=.inl []) (by unfold T362_L0; simp only[Tr.den]; exact if_neg (decF (by show ¬ (0:Int)<0; omega)))]
   simp only[Option.bind_some,sel]
   rw[if_pos (by rfl),G378_eq]
   refine sq_some.2 ⟨fun h=>?_,fun w h=>?_,fun w h=>?_⟩
   ·simp[exC,exCol]at h
   ·simp[exC]at h; rw[h]; rfl
   ·simp[exC,isE]at h
  ·unfold T362
   simp only[Tr.den]
   rw[if_neg (by show ¬ ((13:Int)==21)=true; decide)]
   refine sq_bind.2 (sq_cnt (fun s:List GValue×Int=>s.2) 2 (by omega) (fun s=>s.1=([f.row_.getD 1 default,vI v]:List GValue).take s.2.toNat) (fun s k hI hk hkN=>?_) rfl rfl)
   obtain⟨b6,v5⟩:=s
   simp only at hk hI
   subst hk
   simp only[Int.toNat_natCast]at hI
   unfold T362_L0
   simp only[Tr.den,Int.toNat_natCast]
   have hargs:(isE v).Args=[exCol,exC v]:=rfl
   rw[hargs]
   match k,hkN with
   | 0,_=>
    rw[if_pos (decT (by show (0:Int)<2; omega)),if_pos (by show (0:Int)≤0∧(0:Int)<2; omega)]
    refine Sq.bind _ (hrec 0 (f,exCol) (by omega) ⟨hrow,.inl ⟨rfl,.inl rfl⟩⟩) fun w hw=>?_
    have hw:=hw.1 rfl
    subst hw
    subst hI
    rw[if_pos (by show (0+1)*32≤140737488355328; omega)]
    exact sq_some.2 ⟨rfl,by omega,rfl⟩
   | 1,_=>
    rw[if_pos (decT (by show (1:Int)<2; omega)),if_pos (by show (0:Int)≤1∧(1:Int)<2; omega)]
    refine Sq.bind _ (hrec 0 (f,exC v) (by omega) ⟨hrow,.inl ⟨rfl,.inr ⟨v,rfl⟩⟩⟩) fun w hw=>?_
    have hw:=hw.2.1 v rfl
    subst hw
    subst hI
    rw[if_pos (by show (1+1)*32≤140737488355328; omega)]
    exact sq_some.2 ⟨rfl,by omega,rfl⟩
   | 2,_=>
    rw[if_neg (decF (by show ¬ (2:Int)<2; omega))]
    refine sq_some.2 ?_
    simp only[sel]
    subst hI
    simp (decide:=true) only[isE]
    change Sq b (((some 230:Option Nat).bind _).bind _) _
    simp only[Option.bind_some,Tr.den,G385_eq]
    rw[if_pos (by show True∧(0:Int)<2; exact⟨trivial,by omega⟩),if_pos (by show 0<2; omega),if_pos (by show True∧(1:Int)<2; exact⟨trivial,by omega⟩),if_pos (by show 1<2; omega)]
    refine sq_some.2 ⟨fun h=>?_,fun w h=>?_,fun w h=>?_⟩
    ·simp[exCol]at h
    ·simp[exC]at h
    ·simp only[Expr.mk.injEq,List.cons.injEq,exC]at h
     have:v=w:=by simpa using h
     subst this; rfl
theorem group1{n:GNode}{i:Int}{l:List GDelta}{k:ByteArray}(h:∀ d,d∈l→kd n i d=k)(h0:l≠[]):groupM n i l=[(k,l)]:=by
 refine(groupM_mc n i l).ext LO.bytes (List.pairwise_singleton _ _) fun k'=>?_
 rw[groupM_look]
 by_cases hk:k=k'
 ·subst hk
  have:ofK n i k l=l:=List.filter_eq_self.2 fun d hd=>decT (h d hd)
  rw[this,if_neg h0]; simp[mlook]
 ·have:ofK n i k' l=[]:=List.filter_eq_nil_iff.2 fun d hd=>decF (by rw[h d hd]; exact hk)
  rw[this,if_pos rfl]; simp[mlook,hk]
theorem ofK1{n:GNode}{i:Int}{l:List GDelta}{k:ByteArray}(h:∀ d,d∈l→kd n i d=k):ofK n i k l=l:=List.filter_eq_self.2 fun d hd=>decT (h d hd)
theorem G20_self(l:List GDelta)(ho:okRs l)(hn:l.length≤1000000000000):G20 l l=some true:=by
 unfold G20 T20
 simp only[Tr.den]
 rw[if_neg (bneF rfl)]
 have h1:=while_trace (bd:=fun s=>(T20_L0 l l s).den) (fun i=>(i:Int)) l.length (r:=.inl ()) (fun i hi=>?_) ?_
 ·refine(congrArg (fun x=>Option.bind x _) h1).trans ?_
  rfl
 ·unfold T20_L0
  simp only[Tr.den,Int.toNat_natCast]
  rw[if_pos (decT (by omega)),if_pos (by omega),if_pos (by omega),G49_eq _ _ (ho _ (getD_mem hi)) (ho _ (getD_mem hi))]
  simp only[Option.bind_some]
  rw[if_neg (bneF (cmpD_zero.2 rfl)),if_pos (by omega),if_pos (by omega)]
  simp only[Option.bind_some]
  rw[if_neg (bneF rfl),wrap_inc (by omega)]
 ·unfold T20_L0
  simp only[Tr.den]
  rw[if_neg (decF (by omega))]
def vP:GNode:=GNode.mk 8 ([]:List Int) ⟨#[]⟩ 0 ([]:List Expr) 0 10 0 [0] ([]:List Int) 0 0 0 ([]:List GAgg) [GPat.mk (isE 1) 0,GPat.mk (isE 2) 1] ([]:List GCol)
def dP(t b n:Int):GDelta:=⟨t,[vI 7,vI b],n⟩
theorem vP_ok:okPn vP:=⟨rfl,⟨by decide,by decide⟩,⟨by decide,by decide⟩,by decide⟩
def exL(l:List GDelta):Prop:=∀ d,d∈l→∃ t b n,d=dP t b n∧0≤t∧t≤100∧(b=1∨b=2) ∧ -10≤n∧n≤10
theorem exI{l:List GDelta}(h:exL l):okI vP 0 l:=by
 refine⟨fun d hd=>?_,fun d hd=>?_,fun d hd=>?_,fun d hd=>?_,fun d hd=>?_⟩ <;> obtain⟨t,b,n,rfl,h1,h2,h3,h4,h5⟩:=h d hd
 ·intro v hv
  rcases List.mem_cons.1 hv with rfl | hv
  ·exact⟨⟨by decide,by decide⟩,⟨by decide,by decide⟩,by decide⟩
  ·rw[List.mem_singleton.1 hv]
   rcases h3 with rfl | rfl <;> exact⟨⟨by decide,by decide⟩,⟨by decide,by decide⟩,by decide⟩
 ·intro c hc
  rw[List.mem_singleton.1 (show c∈[(0:Int)] from hc)]
  exact⟨by decide,by show (0:Int)<2; decide⟩
 ·show 2≤1000
  decide
 ·exact⟨h1,by show t≤_; omega⟩
 ·exact⟨by show _≤n; omega,by show n≤_; omega⟩
theorem exRow{l:List GDelta}(h:exL l):∀ d,d∈l→d.Row.length=([0,0]:List Int).length:=fun d hd=>by
 obtain⟨t,b,n,rfl,_⟩:=h d hd; rfl
theorem exKd{l:List GDelta}(h:exL l):∀ d,d∈l→kd vP 0 d=rowB [vI 7]:=fun d hd=>by
 obtain⟨t,b,n,rfl,_⟩:=h d hd; rfl
theorem G344_is(v t b:Int):G344 [] (isE v) t [vI 7,vI b]=some (vB (b==v)):=by
 unfold G344 T344
 simp only[Tr.den]
 rw[G362_is _ _ rfl]
 simp only[Option.bind_some]
 congr 1
 show bop 13 (vI b) (vI v)=_
 unfold bop
 rw[if_neg (by decide),if_neg (by decide),if_neg (by decide),if_neg (by decide),if_neg (by decide),if_pos rfl]
 simp[vI]
theorem exEv{l:List GDelta}(h:exL l):okEv [] vP l:=by
 intro d hd i hi
 obtain⟨t,b,n,rfl,_⟩:=h d hd
 match i,hi with
 | 0,_=>exact(show (G344 [] (isE 1) t [vI 7,vI b]).isSome=true by rw[G344_is]; rfl)
 | 1,_=>exact(show (G344 [] (isE 2) t [vI 7,vI b]).isSome=true by rw[G344_is]; rfl)
theorem exFit(t b n:Int)(hb:b=1∨b=2):fitU [] vP (dP t b n) vP.Seq.length=b:=by
 have e1:evV [] (vP.Seq.getD 0 default).Pred (dP t b n)=vB (b==1):=by
  unfold evV
  rw[show G344 [] (vP.Seq.getD 0 default).Pred (dP t b n).Time (dP t b n).Row=G344 [] (isE 1) t [vI 7,vI b] from rfl,G344_is]; rfl
 have e2:evV [] (vP.Seq.getD 1 default).Pred (dP t b n)=vB (b==2):=by
  unfold evV
  rw[show G344 [] (vP.Seq.getD 1 default).Pred (dP t b n).Time (dP t b n).Row=G344 [] (isE 2) t [vI 7,vI b] from rfl,G344_is]; rfl
 show fitU [] vP (dP t b n) 2=b
 rw[fitU,fitU,fitU,e1,e2]
 rcases hb with rfl | rfl
 ·rfl
 ·rfl
def plC(l:List GDelta)(lo hi:Int):List GPlace:=(l.filter (inW vP lo hi)).flatMap fun d=>List.replicate d.N.toNat ⟨d.Time,(d.Row.getD 1 default).N⟩
theorem plF_ex{l:List GDelta}(h:exL l)(lo hi:Int):plF [] vP l lo hi=plC l lo hi:=by
 unfold plF plC
 refine flatMap_congr' fun d hd=>?_
 obtain⟨t,b,n,rfl,_,_,hb,_⟩:=h d (List.mem_filter.1 hd).1
 unfold plD
 rw[exFit t b n hb]; rfl
def matC(l:List GDelta)(lo hi:Int):List GDelta:=
 if plC l lo hi=[] then [] else outsM GPlace.time_ [vI 7] lo (plC l lo hi) 0 (frF vP (plC l lo hi))
theorem matF_ex{l:List GDelta}(h:exL l)(lo hi:Int):matF [] vP l lo hi=matC l lo hi:=by
 unfold matF matC
 rw[plF_ex h]
 split
 ·rfl
 ·rename_i hne
  have hl:l≠[]:=by
   rintro rfl; exact hne rfl
  have hm:=getD_mem (List.length_pos_iff.2 hl)
  obtain⟨t,b,n,e,_⟩:=h _ hm
  rw[e]; rfl
theorem exPush{a l a':List GDelta}(ha:exL a)(hl:exL l)(h0:l≠[])(hc:cons l=l)(e:cons (a++l)=a')(ha':exL a'):pushR [] vP a l=cons (cons (matC a' (loP l) (hiP vP l)++(matC a (loP l) (hiP vP l)).map neg)):=by
 unfold pushR
 rw[hc,group1 (exKd hl) h0]
 show cons ([rowB [vI 7]].flatMap _)=_
 rw[List.flatMap_cons,List.flatMap_nil,List.append_nil]
 unfold chgK
 rw[ofK1 (exKd ha),ofK1 (exKd hl),e,matF_ex ha',matF_ex ha]
theorem exA{a:List GDelta}(h:exL a)(hc:cons a=a)(hp:∀ d,d∈a→1≤d.N∧d.N≤20)(hl:a.length≤900):AOk vP [0,0] a:=⟨by rw[←hc]; exact cons_can (exI h).n,exI h,hl,hp,exRow h⟩
def p3:GDelta:=dP 3 1 1
def p5:GDelta:=dP 5 2 1
def p8:GDelta:=dP 8 2 1
def p4:GDelta:=dP 4 1 1
theorem ex1:exL [p3]:=fun d hd=>by rw[List.mem_singleton.1 hd]; exact⟨3,1,1,rfl,by decide,by decide,.inl rfl,by decide,by decide⟩
theorem ex4:exL [p4]:=fun d hd=>by rw[List.mem_singleton.1 hd]; exact⟨4,1,1,rfl,by decide,by decide,.inl rfl,by decide,by decide⟩
theorem ex5:exL [p5]:=fun d hd=>by rw[List.mem_singleton.1 hd]; exact⟨5,2,1,rfl,by decide,by decide,.inr rfl,by decide,by decide⟩
theorem ex8:exL [p8]:=fun d hd=>by rw[List.mem_singleton.1 hd]; exact⟨8,2,1,rfl,by decide,by decide,.inr rfl,by decide,by decide⟩
theorem exApp{a b:List GDelta}(h:exL a)(h':exL b):exL (a++b):=fun d hd=>(List.mem_append.1 hd).elim (h d) (h' d)
theorem ex58:exL [p5,p8]:=exApp ex5 ex8
theorem exB:exL [p3,p5,p8]:=exApp ex1 ex58
theorem exC':exL [p3,p4,p5,p8]:=exApp ex1 (exApp ex4 ex58)
theorem exN{l:List GDelta}(h:∀ d,d∈l→d.N=1):∀ d,d∈l→1≤d.N∧d.N≤20:=fun d hd=>by rw[h d hd]; exact⟨by decide,by decide⟩
theorem nil_ex:exL []:=fun d hd=>by simp at hd
def rP(t i r n:Int):GDelta:=⟨t,[vI 7,vI i,vI r],n⟩
theorem res1:cons (cons (matC [p3] 3 12++(matC [] 3 12).map neg))=[]:=by kernel_rfl
theorem res2:cons (cons (matC [p3,p5,p8] 5 17++(matC [p3] 5 17).map neg))=[rP 5 3 2 1,rP 8 3 3 1]:=by kernel_rfl
theorem res3:cons (cons (matC [p3,p4,p5,p8] 4 13++(matC [p3,p5,p8] 4 13).map neg))=[rP 5 3 2 (-1),rP 5 4 2 1,rP 8 3 3 (-1),rP 8 4 3 1]:=by kernel_rfl
end Go.PL
