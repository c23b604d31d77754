/-
  Parts: From the reading of arguments to plain data; the frame of a law's row. Own work. What reads as data of the argument types reads as plain data of ours. Printed by a program of our own. The kept part of a plain-law text (strip.py). Own work. The kept part of a plain-law text (strip.py). Own work. The kept part of a plain-law text (strip.py). Own work. The kept part of a plain-law text (strip.py). Own work. The kept part of a plain-law text (strip.py). Own work. The kept part of a plain-law text (strip.py). Own work. The kept part of a plain-law text (strip.py). Own work. The kept part of a plain-law text (strip.py). Own work. Plain facts: numerals are read as they were written. Own work. The kept part of a plain-law text (strip.py). Own work. Plain law: what was written is read. Own work. The kept part of a plain-law text (strip.py). Own work. The kept part of a plain-law text (strip.py). Own work. Plain law: the reference's reader on any string. Own work. The kept part of a plain-law text (strip.py). Own work. The kept part of a plain-law text (strip.py). Own work. The kept part of a plain-law text (strip.py). Own work. The kept part of a plain-law text (strip.py). Own work. The kept part of a plain-law text (strip.py). Own work. The kept part of a plain-law text (strip.py). Own work. The kept part of a plain-law text (strip.py). Own work. Plain law: lists of deltas are read as they were written. Own work. Plain law: what the reference reads of any string is what was written there. Own work. Plain law: an operator is read from what it wrote. Own work. Plain law of JoinBack: both do the same from then on. Own work. Plain law: JoinBack gives true, for all arguments. Own work.
-/
import Derived.Test.YthifkbcpnbcenaaGreatDoorMg
import Derived.Test.YthifkbcpnbcenaaGreatDoorRows
import Derived.JoinedCond
import Derived.ProofKit
import Derived.OpenShut
import Derived.Carry
import Derived.DataReads
import Derived.ChangeAnyMap
import Derived.Lib.AtoiAll
import Derived.Lib.Bytealg
import Derived.Laws.Strings
import Derived.KernelRfl
namespace Go.PL
open Go Go.RowKit
open Go.Proofs.YthifkbcpnbcenaaGreatDoor.Rows (uptoBulk uptoBulkAll)
def RdL(F:Nat→Prop)(W:World)(l:List T)(cs:List Value):Prop:=cs.length=l.length∧∀ (j:Nat) x v,l[j]? = some x→cs[j]? = some v→Rd F W x v
theorem RdL.append{F:Nat→Prop}{W:World}{l l':List T}{cs cs':List Value}(h:RdL F W l cs)(h':RdL F W l' cs'):RdL F W (l++l') (cs++cs'):=by
 refine⟨by simp[h.1,h'.1],fun j x v hx hv=>?_⟩
 by_cases hj:j<l.length
 ·rw[List.getElem?_append_left hj]at hx
  rw[List.getElem?_append_left (by rw[h.1]; exact hj)]at hv
  exact h.2 j x v hx hv
 ·rw[List.getElem?_append_right (by omega)]at hx
  rw[List.getElem?_append_right (by rw[h.1]; omega),h.1]at hv
  exact h'.2 _ x v hx hv
def inI64(n:Int):Prop:=-9223372036854775808≤n∧n≤9223372036854775807
section
variable {H:Type} {enc:TypeId×Value→H} {P:Program} {W:World}
def Opens(enc:TypeId×Value→H)(P:Program)(W:World)(t:TypeId){X:Type}(c:X→List T)(ok:X→Prop)(fuel:Nat):Prop:=
 ∀ cs d ps,DataW.trod enc P W 0 (fun _=>true) true fuel t cs=some (d,ps)→uptoBulk d≤1048576→∃ x,RdL (fun b=>b<W.heap.size) W (c x) cs∧ok x
theorem opens_zero{t:TypeId}{X:Type}{c:X→List T}{ok:X→Prop}:Opens enc P W t c ok 0:=fun cs d ps h=>by simp[DataW.trod]at h
theorem RdL.one{F:Nat→Prop}{W:World}{x:T}{v:Value}(h:Rd F W x v):RdL F W [x] [v]:=by
 refine⟨rfl,fun j y u hy hu=>?_⟩
 cases j with
 | zero=>simp at hy hu; subst hy; subst hu; exact h
 | succ j=>simp at hy
theorem opens_int{t:TypeId}(ht:P.underlying t=some (.int .i64))(fuel:Nat):Opens enc P W t cInt inI64 fuel:=by
 cases fuel with
 | zero=>exact opens_zero
 | succ fuel=>
  intro cs d ps h _
  unfold DataW.trod at h
  rw[ht]at h
  split at h <;> try (simp_all; done)
  rename_i k k' n hk
  split at h
  ·rename_i hk2
   cases hk
   obtain⟨rfl,hwf⟩:=hk2
   refine⟨n,RdL.one (.int _ _),?_⟩
   simp[Lit.wf,IntKind.min,IntKind.max,IntKind.signed,IntKind.bits]at hwf
   exact⟨by omega,by omega⟩
  ·cases h
def okStr(s:ByteArray):Prop:=s.size≤1048576
theorem opens_string{t:TypeId}(ht:P.underlying t=some .string)(fuel:Nat):Opens enc P W t cStr okStr fuel:=by
 cases fuel with
 | zero=>exact opens_zero
 | succ fuel=>
  intro cs d ps h hw
  unfold DataW.trod at h
  rw[ht]at h
  split at h <;> try (simp_all; done)
  rename_i s hk
  split at h
  ·cases h
   refine⟨s,RdL.one (.str _),?_⟩
   have:s.data.toList.length+1≤1048576:=hw
   have:s.size=s.data.toList.length:=rfl
   unfold okStr
   omega
  ·cases h
theorem mapM_get{α β:Type}{f:α→Option β}:∀ {l:List α} {r:List β},l.mapM f=some r→r.length=l.length∧∀ (i:Nat) a b,l[i]? = some a→r[i]? = some b→f a=some b
 | [],r,h=>by simp at h; subst h; simp
 | x::l,r,h=>by
  rw[List.mapM_cons]at h
  simp only[Option.bind_eq_bind,Option.bind_eq_some_iff]at h
  obtain⟨y,hy,ys,hys,hr⟩:=h
  simp at hr; subst hr
  obtain⟨h1,h2⟩:=mapM_get hys
  refine⟨by simp[h1],fun i a b ha hb=>?_⟩
  cases i with
  | zero=>simp at ha hb; subst ha; subst hb; exact hy
  | succ i=>exact h2 i a b (by simpa using ha) (by simpa using hb)
theorem uptoBulk_pos:∀ d:DataW H,1≤uptoBulk d
 | .lit l=>by unfold uptoBulk; split <;> omega
 | .nil=>by simp[uptoBulk]
 | .ptr d=>by simp[uptoBulk]
 | .slice e s=>by simp[uptoBulk]
 | .agg p=>by simp[uptoBulk]
 | .iface t d=>by simp[uptoBulk]
 | .map e=>by simp[uptoBulk]
 | .held h=>by simp[uptoBulk]
theorem bulkAll_len:∀ l:List (DataW H),l.length≤uptoBulkAll l
 | []=>by simp
 | d::l=>by simp only[uptoBulkAll,List.length_cons]; have:=uptoBulk_pos d; have:=bulkAll_len l; omega
theorem bulkAll_mem:∀ {l:List (DataW H)} {d:DataW H},d∈l→uptoBulk d≤uptoBulkAll l
 | x::l,d,h=>by
  simp only[uptoBulkAll]
  rcases List.mem_cons.1 h with rfl | h
  ·omega
  ·have:=bulkAll_mem h; omega
def okL{X:Type}(_b:Nat)(ok:X→Prop)(xs:List X):Prop:=xs.length≤1048576∧∀ x,x∈xs→ok x
theorem opens_slice{t e b:Nat}(ht:P.underlying t=some (.slice e))(hn:Nat.blt 0 (P.cellsOf e)=true)(hb:P.bytesOf e=b){X:Type}[Inhabited X]{c:X→List T}{ok:X→Prop}{fuel:Nat}(he:Opens enc P W e c ok fuel)(mk:List X→T)
  (hmk:∀ xs,(mk xs).view=some (xs.length,fun i=>c (xs.getD i default))):Opens enc P W t (fun xs=>[mk xs]) (okL b ok) (fuel+1):=by
 have hz:0<P.cellsOf e:=by simpa[Nat.blt_eq] using hn
 clear hn
 subst hb
 intro cs d ps h hw
 unfold DataW.trod at h
 rw[ht]at h
 split at h <;> try (simp_all; done)
 ·
  rename_i hk
  cases hk
  refine⟨[],RdL.one (.nil (hmk [])),by simp,by simp⟩
 ·rename_i e' a len cap hk
  cases hk
  simp only at h
  split at h
  ·rename_i hcap
   simp only[Option.bind_eq_some_iff,Option.map_eq_some_iff]at h
   obtain⟨elems,hel,rest,hrest,hd⟩:=h
   simp only[Prod.mk.injEq]at hd
   obtain⟨rfl,rfl⟩:=hd
   obtain⟨hlen,hget⟩:=mapM_get hel
   simp only[List.length_range]at hlen
   have hwt:uptoBulkAll (elems.map (·.1))≤1048576:=by
    have hw2:uptoBulkAll (elems.map (·.1))+uptoBulkAll (rest.map (·.1))+1≤1048576:=hw
    omega
   have hl:len≤1048576:=by
    have:=bulkAll_len (elems.map (·.1))
    simp only[List.length_map,hlen]at this
    omega
   have each:∀ i,i<len→∃ x vs,W.cells? 0 (a.add (i*P.cellsOf e)) (P.cellsOf e)=some vs∧RdL (fun b=>b<W.heap.size) W (c x) vs∧ok x:=by
    intro i hi
    have hi':i<elems.length:=by omega
    have:=hget i i elems[i] (by simp[hi]) (by simp[hi'])
    simp only[Option.bind_eq_some_iff]at this
    obtain⟨vs,hvs,htr⟩:=this
    obtain⟨x,h1,h2⟩:=he vs elems[i].1 elems[i].2 htr (Nat.le_trans (bulkAll_mem (List.mem_map_of_mem (List.getElem_mem hi'))) hwt)
    exact⟨x,vs,hvs,h1,h2⟩
   have all:∃ xs:List X,xs.length=len∧∀ i,i<len→∃ vs,W.cells? 0 (a.add (i*P.cellsOf e)) (P.cellsOf e)=some vs∧RdL (fun b=>b<W.heap.size) W (c (xs.getD i default)) vs∧ok (xs.getD i default):=by
    clear hel hrest hget hw hwt hl hlen hcap
    induction len with
    | zero=>exact⟨[],rfl,fun i hi=>absurd hi (Nat.not_lt_zero _)⟩
    | succ len ih=>
     obtain⟨xs,h1,h2⟩:=ih fun i hi=>each i (by omega)
     obtain⟨x,vs,h3,h4,h5⟩:=each len (by omega)
     refine⟨xs++[x],by simp[h1],fun i hi=>?_⟩
     by_cases hil:i<len
     ·have:(xs++[x]).getD i default=xs.getD i default:=by simp[List.getD_eq_getElem?_getD,List.getElem?_append_left (show i<xs.length by omega)]
      rw[this]; exact h2 i hil
     ·have hil:i=len:=by omega
      subst hil
      have:(xs++[x]).getD i default=x:=by simp[List.getD_eq_getElem?_getD,←h1]
      rw[this]; exact⟨vs,h3,h4,h5⟩
   obtain⟨xs,hxl,hxs⟩:=all
   refine⟨xs,RdL.one ?_,by rw[hxl]; exact hl,fun x hx=>?_⟩
   ·have hsz:∀ i,i<len→(c (xs.getD i default)).length=P.cellsOf e:=by
     intro i hi
     obtain⟨vs,h1,h2,_⟩:=hxs i hi
     rw[←h2.1]
     unfold World.cells? at h1
     rw[if_pos (Nat.zero_le _)]at h1
     have:=(mapM_get h1).1; simpa using this
    have hcell:∀ i j,i<len→j<P.cellsOf e→∃ u,W.cell? (a.add (i*P.cellsOf e+j))=some u∧∀ x,(c (xs.getD i default))[j]? = some x→Rd (fun b=>b<W.heap.size) W x u:=by
     intro i j hi hj
     obtain⟨vs,h1,h2,_⟩:=hxs i hi
     unfold World.cells? at h1
     rw[if_pos (Nat.zero_le _)]at h1
     obtain⟨h3,h4⟩:=mapM_get h1
     simp only[List.length_range]at h3
     have:=h4 j j vs[j] (by simp[hj]) (by simp[h3,hj])
     rw[Addr.add_add]at this
     exact⟨vs[j],this,fun x hx=>h2.2 j x vs[j] hx (by simp[h3,hj])⟩
    let vsf:Nat→Nat→Value:=fun i j=>(W.cell? (a.add (i*P.cellsOf e+j))).getD undef
    refine .sl a cap (P.cellsOf e) vsf (n:=len) (f:=fun i=>c (xs.getD i default)) (by rw[hmk,hxl]) hcap.2.1 (fun hn=>?_) hsz (fun i j hi hj=>?_) (fun i j x hi hx=>?_)
    ·obtain⟨u,hu,_⟩:=hcell 0 0 hn hz
     have hb:=World.block_lt_of_cell? W _ hu
     have:(a.add (0*P.cellsOf e+0)).block=a.block:=by unfold Addr.add; split <;> rfl
     rw[this]at hb
     exact hb
    ·obtain⟨u,hu,_⟩:=hcell i j hi hj
     simp[vsf,hu]
    ·have hj:j<P.cellsOf e:=by rw[←hsz i hi]; exact(List.getElem?_eq_some_iff.1 hx).1
     obtain⟨u,hu,hr⟩:=hcell i j hi hj
     simp only[vsf,hu,Option.getD_some]
     exact hr x hx
   ·obtain⟨i,hi,rfl⟩:=List.getElem_of_mem hx
    obtain⟨_,_,_,h⟩:=hxs i (by omega)
    simpa[List.getD_eq_getElem?_getD,hi] using h
  ·cases h
def OpensF(enc:TypeId×Value→H)(P:Program)(W:World)(off:Nat)(fs:List Field){X:Type}(c:X→List T)(ok:X→Prop)(fuel:Nat):Prop:=
 ∀ (cs:List Value) xs,fs.mapM (fun f=>DataW.trod enc P W 0 (fun _=>true) true fuel f.type ((cs.drop f.offset).take (P.cellsOf f.type)))=some xs →
  uptoBulkAll (xs.map (·.1))≤1048576→cs.length=off+(fs.map fun f=>P.cellsOf f.type).sum→∃ x,RdL (fun b=>b<W.heap.size) W (c x) (cs.drop off)∧ok x
theorem opensF_nil{off fuel:Nat}:OpensF enc P W off [] (fun (_:Unit)=>[]) (fun _=>True) fuel:=by
 intro cs xs _ _ hl
 simp at hl
 exact⟨(),⟨by simp[hl],by simp⟩,trivial⟩
theorem opensF_cons{off fuel:Nat}{f:Field}{fs:List Field}{X Y:Type}{c:X→List T}{c':Y→List T}{ok:X→Prop}{ok':Y→Prop}(ho:f.offset=off)(h:Opens enc P W f.type c ok fuel)
  (h':OpensF enc P W (off+P.cellsOf f.type) fs c' ok' fuel):OpensF enc P W off (f::fs) (fun (x:X×Y)=>c x.1++c' x.2) (fun x=>ok x.1∧ok' x.2) fuel:=by
 intro cs xs hx hw hl
 rw[List.mapM_cons]at hx
 simp only[Option.bind_eq_bind,Option.bind_eq_some_iff]at hx
 obtain⟨y,hy,ys,hys,hr⟩:=hx
 simp at hr; subst hr
 simp only[List.map_cons,uptoBulkAll]at hw
 obtain⟨x,h1,h2⟩:=h _ _ _ hy (by omega)
 simp only[List.map_cons,List.sum_cons]at hl
 obtain⟨x',h3,h4⟩:=h' cs ys hys (by omega) (by omega)
 refine⟨(x,x'),?_,h2,h4⟩
 have:cs.drop off=(cs.drop f.offset).take (P.cellsOf f.type)++cs.drop (off+P.cellsOf f.type):=by
  rw[ho,←List.drop_drop,List.take_append_drop]
 rw[this]
 exact h1.append h3
theorem opens_struct{t:TypeId}{fs:Array Field}(ht:P.underlying t=some (.struct fs)){X:Type}{c:X→List T}{ok:X→Prop}{fuel:Nat}(h:OpensF enc P W 0 fs.toList c ok fuel)
  (hs:P.cellsOf t=(fs.toList.map fun f=>P.cellsOf f.type).sum):Opens enc P W t c ok (fuel+1):=by
 intro cs d ps hd hw
 unfold DataW.trod at hd
 rw[ht]at hd
 split at hd <;> try (simp_all; done)
 rename_i cs0 _ _ fs' hk
 cases hk
 split at hd
 ·rename_i hl
  simp only[Option.map_eq_some_iff]at hd
  obtain⟨xs,hxs,hd⟩:=hd
  simp only[Prod.mk.injEq]at hd
  obtain⟨rfl,_⟩:=hd
  have hw2:uptoBulkAll (xs.map (·.1))+1≤1048576:=hw
  have:=h _ xs hxs (by omega) (by rw[hl,hs]; simp)
  simpa using this
 ·cases hd
theorem Opens.map{t:TypeId}{X Y:Type}{c:X→List T}{ok:X→Prop}{c':Y→List T}{ok':Y→Prop}{fuel:Nat}(h:Opens enc P W t c ok fuel)(g:X→Y)(hc:∀ x,c' (g x)=c x)(ho:∀ x,ok x→ok' (g x)):
  Opens enc P W t c' ok' fuel:=by
 intro cs d ps hd hw
 obtain⟨x,h1,h2⟩:=h cs d ps hd hw
 exact⟨g x,by rw[hc]; exact h1,ho x h2⟩
end
theorem RdL.agg{F:Nat→Prop}{W:World}{l:List T}{v:Value}(h:RdL F W l v.cells.toList)(hv:∃ vs,v = .agg vs):Rd F W (.agg l) v:=by
 obtain⟨vs,rfl⟩:=hv
 simp only[Value.cells]at h
 exact .agg (by simpa using h.1) fun j x v hx hv=>h.2 j x v hx (by simpa using hv)
section
variable {H:Type} {enc:TypeId×Value→H} {P:Program} {W:World} {r:Reach} {base:Nat}
theorem arg_struct{t:TypeId}{fs:Array Field}(ht:P.underlying t=some (.struct fs)){X:Type}{c:X→List T}{ok:X→Prop}(hO:∀ fuel,Opens enc P W t c ok fuel){v:Value}{d:DataW H}{ps:List MemPlace}
  (hv:Value.okWide P W r base t v)(h:DataW.Trod enc P W 0 (fun _=>true) true t v d ps)(hw:uptoBulk d≤1048576):∃ x,Rd (fun b=>b<W.heap.size) W (.agg (c x)) v∧ok x:=by
 obtain⟨cs,rfl,_⟩:=Go.WideShapes.okWide_struct ht hv
 obtain⟨fuel,hf⟩:=h
 obtain⟨x,h1,h2⟩:=hO fuel _ _ _ hf hw
 exact⟨x,h1.agg ⟨cs,rfl⟩,h2⟩
theorem arg_one{t:TypeId}{X:Type}{c:X→T}{ok:X→Prop}(hO:∀ fuel,Opens enc P W t (fun x=>[c x]) ok fuel){v:Value}{d:DataW H}{ps:List MemPlace}
  (hv:v.cells=#[v])(h:DataW.Trod enc P W 0 (fun _=>true) true t v d ps)(hw:uptoBulk d≤1048576):∃ x,Rd (fun b=>b<W.heap.size) W (c x) v∧ok x:=by
 obtain⟨fuel,hf⟩:=h
 obtain⟨x,h1,h2⟩:=hO fuel _ _ _ hf hw
 exact⟨x,h1.2 0 _ _ (by simp) (by simp[hv]),h2⟩
theorem arg_int{t:TypeId}(ht:P.underlying t=some (.int .i64)){v:Value}{d:DataW H}{ps:List MemPlace}
  (hv:Value.okWide P W r base t v)(h:DataW.Trod enc P W 0 (fun _=>true) true t v d ps)(hw:uptoBulk d≤1048576):∃ x,Rd (fun b=>b<W.heap.size) W (.int .i64 x) v∧inI64 x:=by
 obtain⟨n,rfl⟩:=Go.WideShapes.okWide_int ht hv
 exact arg_one (c:=fun x=>.int .i64 x) (opens_int ht) rfl h hw
theorem arg_string{t:TypeId}(ht:P.underlying t=some .string){v:Value}{d:DataW H}{ps:List MemPlace}
  (hv:Value.okWide P W r base t v)(h:DataW.Trod enc P W 0 (fun _=>true) true t v d ps)(hw:uptoBulk d≤1048576):∃ x,Rd (fun b=>b<W.heap.size) W (.str x) v∧okStr x:=by
 obtain⟨n,rfl⟩:=Go.WideShapes.okWide_string ht hv
 exact arg_one (c:=fun x=>.str x) (opens_string ht) rfl h hw
theorem arg_slice{t e:TypeId}(ht:P.underlying t=some (.slice e)){X:Type}{c:X→T}{ok:X→Prop}(hO:∀ fuel,Opens enc P W t (fun x=>[c x]) ok fuel){v:Value}{d:DataW H}{ps:List MemPlace}
  (hv:Value.okWide P W r base t v)(h:DataW.Trod enc P W 0 (fun _=>true) true t v d ps)(hw:uptoBulk d≤1048576):∃ x,Rd (fun b=>b<W.heap.size) W (c x) v∧ok x:=by
 obtain⟨a,l,q,rfl⟩:=Go.WideShapes.okWide_slice ht hv
 exact arg_one hO rfl h hw
end
theorem kept_of_below{W W':World}(h:Below W.heap.size W W')(may:MemPlace→Prop):W.keptBut W' may:=by
 refine⟨h.os,h.output,fun i hi=>?_⟩
 rw[h.block i hi]
 cases W.heap[i]? with
 | none=>trivial
 | some o=>cases o <;> simp
section
variable {H:Type} {enc:TypeId×Value→H} {P:Program}
theorem trodAll_below(hl:laidOutB P=true){W W':World}(hb:Below W.heap.size W W'):∀ {ts:List TypeId} {vs:List Value} {ds:List (DataW H)} {ps:List MemPlace},
  (∀ t,t∈ts→P.readableRec t=true∧t<P.types.size)→DataW.TrodAll enc P W 0 (fun _=>true) true ts vs ds ps→(∀ x,x∈ps→x.block<W.heap.size) →
  DataW.TrodAll enc P W' 0 (fun b=>decide (b<W.heap.size)) true ts vs ds ps
 | [],[],[],ps,_,h,_=>h
 | t::ts,v::vs,d::ds,ps,hr,h,hp=>by
  obtain⟨p,q,h1,h2,rfl⟩:=h
  obtain⟨r1,r2⟩:=hr t (by simp)
  exact⟨p,q,Go.RowKit.Below.trod hl r1 r2 h1 hb (fun x hx=>hp x (List.mem_append_left _ hx)),trodAll_below hl hb (fun t ht=>hr t (List.mem_cons_of_mem _ ht)) h2 (fun x hx=>hp x (List.mem_append_right _ hx)),rfl⟩
 | [],_::_,_,_,_,h,_=>by simp[DataW.TrodAll]at h
 | [],[],_::_,_,_,h,_=>by simp[DataW.TrodAll]at h
 | _::_,[],_,_,_,h,_=>by simp[DataW.TrodAll]at h
 | _::_,_::_,[],_,_,h,_=>by simp[DataW.TrodAll]at h
theorem law_post(hlay:laidOutB P=true){f:Func}{s:ChangeSpec}{W W':World}{args:Array Value}{ds gs:List (DataW H)}{before:List MemPlace}{tb:TypeId}(hvars:s.vars=[])
  (hW:DataW.Whole enc P f.params.toList s.vars false W args.toList ds gs before)(hb:Below W.heap.size W W')(hres:f.resultTypes=#[tb])(htb:P.underlying tb=some .bool)
  (hread:∀ t,t∈f.params.toList→P.readableRec t=true∧t<P.types.size)(hfn:s.fn H (ds++gs)={ results:=[.lit (.bool true)],args:=ds }):
  s.post enc P f false true false false W args (.bool true) W':=by
 have hW':=hW
 obtain⟨p,q,hA,hV,rfl,_⟩:=hW
 rw[hvars]at hV
 cases gs with
 | cons g gs=>simp[DataW.TrodVars]at hV
 | nil=>
  simp only[DataW.TrodVars]at hV
  subst hV
  have hlt:∀ x,x∈p→x.block<W.heap.size:=fun x hx=>by simpa using hW'.lt x (by simp[hx])
  refine⟨ds,[],p++[],[],p,[],hW',?_,?_,?_,kept_of_below hb _,fun h=>by cases h⟩
  ·rw[hfn,hres]
   exact⟨[],[],⟨1,by simp[DataW.trod,htb,Value.cells]⟩,rfl,rfl⟩
  ·rw[hfn]
   exact trodAll_below hlay hb hread hA hlt
  ·rw[hvars,hfn]; exact rfl
theorem PCall.law{P:Program}{k:FuncId}{args:List PV}(h:PCall P k args [] [] (Ret (.t (.bool true)))){W:World}{vs:Array Value}(hs:vs.size=args.length)
  (hv:∀ (j:Nat) x v,args[j]? = some x→vs[j]? = some v→VR (fun b=>b<W.heap.size) (fun _=>undef) W x v)(hg:GLP P (fun b=>b<W.heap.size) W):
  Calls P k vs W fun e W'=>e = .returned (.bool true)∧Below W.heap.size W W':=by
 refine(h (fun b=>b<W.heap.size) (fun _=>undef) W vs hs hv ⟨by simp,by simp,by simp⟩ (fun _ h=>h) hg).mono ?_
 rintro e w' ⟨v,r,H',F',g',rfl,hr,hvr,hW⟩
 unfold Ret at hr
 subst hr
 have:=hvr.inv_bool
 subst this
 exact⟨rfl,⟨hW.ext.os,hW.ext.tape,hW.ext.output,hW.ext.size,fun b hb=>hW.ext.block b hb (by rintro⟨o,x,hx,_⟩; simp at hx)⟩⟩
end
set_option maxRecDepth 20000
theorem o22{H:Type}{enc:TypeId×Value→H}{W:World}(fuel:Nat):Opens enc Proofs.Tryz.prog W 22 (fun xs=>[eL cInt (xs)]) (okL 8 inI64) fuel:=by
 cases fuel with
 | zero=>exact opens_zero
 | succ fuel=>exact opens_slice Proofs.Tryz.underlying22 (by kernel_rfl) (by kernel_rfl) (opens_int Proofs.Tryz.underlying3 fuel) (fun xs=>eL cInt (xs)) (fun _=>rfl)
inductive okExpr:Expr→Prop
 | mk0 {a b:Int} {s:ByteArray} {l:List Expr} (ha:inI64 a) (hb:inI64 b) (hs:okStr s) (hn:l.length≤1048576) (hl:∀ x,x∈l→okExpr x):okExpr (.mk a b s l)
theorem okExpr.mk{a b:Int}{s:ByteArray}{l:List Expr}(ha:inI64 a)(hb:inI64 b)(hs:okStr s)(hl:okL 56 okExpr l):okExpr (.mk a b s l):=.mk0 ha hb hs hl.1 hl.2
theorem oExpr{H:Type}{enc:TypeId×Value→H}{W:World}:∀ fuel,Opens enc Proofs.Tryz.prog W 98 exprCells okExpr fuel∧Opens enc Proofs.Tryz.prog W 23 (fun xs=>[.lz (.exprs xs)]) (okL 56 okExpr) fuel
 | 0=>⟨opens_zero,opens_zero⟩
 | fuel+1=>by
  have ih:=oExpr (enc:=enc) (W:=W) fuel
  exact⟨(opens_struct Proofs.Tryz.underlying98 (opensF_cons (by kernel_rfl) (opens_int Proofs.Tryz.underlying3 fuel) (opensF_cons (by kernel_rfl) (opens_int Proofs.Tryz.underlying3 fuel) (opensF_cons (by kernel_rfl) (opens_string Proofs.Tryz.underlying9 fuel) (opensF_cons (by kernel_rfl) ih.2 opensF_nil)))) (by kernel_rfl)).map (fun x=>Expr.mk x.1 x.2.1 x.2.2.1 x.2.2.2.1) (fun _=>rfl) (fun x h=>.mk h.1 h.2.1 h.2.2.1 h.2.2.2.1),opens_slice Proofs.Tryz.underlying23 (by kernel_rfl) (by kernel_rfl) ih.1 (fun xs=>.lz (.exprs xs)) (fun _=>rfl)⟩
def okGAgg(x:GAgg):Prop:=inI64 x.Kind∧inI64 x.Col∧okStr x.Name
theorem o152{H:Type}{enc:TypeId×Value→H}{W:World}(fuel:Nat):Opens enc Proofs.Tryz.prog W 152 cGAgg okGAgg fuel:=by
 cases fuel with
 | zero=>exact opens_zero
 | succ fuel=>exact(opens_struct Proofs.Tryz.underlying152 (opensF_cons (by kernel_rfl) (opens_int Proofs.Tryz.underlying3 fuel) (opensF_cons (by kernel_rfl) (opens_int Proofs.Tryz.underlying3 fuel) (opensF_cons (by kernel_rfl) (opens_string Proofs.Tryz.underlying9 fuel) opensF_nil))) (by kernel_rfl)).map (fun x=>GAgg.mk x.1 x.2.1 x.2.2.1) (fun _=>rfl) (fun x h=>⟨h.1,h.2.1,h.2.2.1⟩)
theorem o24{H:Type}{enc:TypeId×Value→H}{W:World}(fuel:Nat):Opens enc Proofs.Tryz.prog W 24 (fun xs=>[eL cGAgg (xs)]) (okL 32 okGAgg) fuel:=by
 cases fuel with
 | zero=>exact opens_zero
 | succ fuel=>exact opens_slice Proofs.Tryz.underlying24 (by kernel_rfl) (by kernel_rfl) (o152 fuel) (fun xs=>eL cGAgg (xs)) (fun _=>rfl)
def okGPat(x:GPat):Prop:=okExpr x.Pred∧inI64 x.Rep
theorem o103{H:Type}{enc:TypeId×Value→H}{W:World}(fuel:Nat):Opens enc Proofs.Tryz.prog W 103 cGPat okGPat fuel:=by
 cases fuel with
 | zero=>exact opens_zero
 | succ fuel=>exact(opens_struct Proofs.Tryz.underlying103 (opensF_cons (by kernel_rfl) (oExpr fuel).1 (opensF_cons (by kernel_rfl) (opens_int Proofs.Tryz.underlying3 fuel) opensF_nil)) (by kernel_rfl)).map (fun x=>GPat.mk x.1 x.2.1) (fun _=>rfl) (fun x h=>⟨h.1,h.2.1⟩)
theorem o25{H:Type}{enc:TypeId×Value→H}{W:World}(fuel:Nat):Opens enc Proofs.Tryz.prog W 25 (fun xs=>[eL cGPat (xs)]) (okL 64 okGPat) fuel:=by
 cases fuel with
 | zero=>exact opens_zero
 | succ fuel=>exact opens_slice Proofs.Tryz.underlying25 (by kernel_rfl) (by kernel_rfl) (o103 fuel) (fun xs=>eL cGPat (xs)) (fun _=>rfl)
def okGCol(x:GCol):Prop:=okStr x.Name∧inI64 x.Type_∧okStr x.Unit
theorem o231{H:Type}{enc:TypeId×Value→H}{W:World}(fuel:Nat):Opens enc Proofs.Tryz.prog W 231 cGCol okGCol fuel:=by
 cases fuel with
 | zero=>exact opens_zero
 | succ fuel=>exact(opens_struct Proofs.Tryz.underlying231 (opensF_cons (by kernel_rfl) (opens_string Proofs.Tryz.underlying9 fuel) (opensF_cons (by kernel_rfl) (opens_int Proofs.Tryz.underlying3 fuel) (opensF_cons (by kernel_rfl) (opens_string Proofs.Tryz.underlying9 fuel) opensF_nil))) (by kernel_rfl)).map (fun x=>GCol.mk x.1 x.2.1 x.2.2.1) (fun _=>rfl) (fun x h=>⟨h.1,h.2.1,h.2.2.1⟩)
theorem o26{H:Type}{enc:TypeId×Value→H}{W:World}(fuel:Nat):Opens enc Proofs.Tryz.prog W 26 (fun xs=>[eL cGCol (xs)]) (okL 40 okGCol) fuel:=by
 cases fuel with
 | zero=>exact opens_zero
 | succ fuel=>exact opens_slice Proofs.Tryz.underlying26 (by kernel_rfl) (by kernel_rfl) (o231 fuel) (fun xs=>eL cGCol (xs)) (fun _=>rfl)
def okGNode(x:GNode):Prop:=inI64 x.Op∧okL 8 inI64 x.In∧okStr x.Source∧inI64 x.Schema∧okL 56 okExpr x.Exprs∧inI64 x.Kind∧inI64 x.Size∧inI64 x.Step∧okL 8 inI64 x.Key∧okL 8 inI64 x.Key2∧inI64 x.Before∧inI64 x.After∧inI64 x.Keep∧okL 32 okGAgg x.Aggs∧okL 64 okGPat x.Seq∧okL 40 okGCol x.Cols
theorem o28{H:Type}{enc:TypeId×Value→H}{W:World}(fuel:Nat):Opens enc Proofs.Tryz.prog W 28 cGNode okGNode fuel:=by
 cases fuel with
 | zero=>exact opens_zero
 | succ fuel=>exact(opens_struct Proofs.Tryz.underlying28 (opensF_cons (by kernel_rfl) (opens_int Proofs.Tryz.underlying3 fuel) (opensF_cons (by kernel_rfl) (o22 fuel) (opensF_cons (by kernel_rfl) (opens_string Proofs.Tryz.underlying9 fuel) (opensF_cons (by kernel_rfl) (opens_int Proofs.Tryz.underlying3 fuel) (opensF_cons (by kernel_rfl) (oExpr fuel).2 (opensF_cons (by kernel_rfl) (opens_int Proofs.Tryz.underlying3 fuel) (opensF_cons (by kernel_rfl) (opens_int Proofs.Tryz.underlying3 fuel) (opensF_cons (by kernel_rfl) (opens_int Proofs.Tryz.underlying3 fuel) (opensF_cons (by kernel_rfl) (o22 fuel) (opensF_cons (by kernel_rfl) (o22 fuel) (opensF_cons (by kernel_rfl) (opens_int Proofs.Tryz.underlying3 fuel) (opensF_cons (by kernel_rfl) (opens_int Proofs.Tryz.underlying3 fuel) (opensF_cons (by kernel_rfl) (opens_int Proofs.Tryz.underlying3 fuel) (opensF_cons (by kernel_rfl) (o24 fuel) (opensF_cons (by kernel_rfl) (o25 fuel) (opensF_cons (by kernel_rfl) (o26 fuel) opensF_nil)))))))))))))))) (by kernel_rfl)).map (fun x=>GNode.mk x.1 x.2.1 x.2.2.1 x.2.2.2.1 x.2.2.2.2.1 x.2.2.2.2.2.1 x.2.2.2.2.2.2.1 x.2.2.2.2.2.2.2.1 x.2.2.2.2.2.2.2.2.1 x.2.2.2.2.2.2.2.2.2.1 x.2.2.2.2.2.2.2.2.2.2.1 x.2.2.2.2.2.2.2.2.2.2.2.1 x.2.2.2.2.2.2.2.2.2.2.2.2.1 x.2.2.2.2.2.2.2.2.2.2.2.2.2.1 x.2.2.2.2.2.2.2.2.2.2.2.2.2.2.1 x.2.2.2.2.2.2.2.2.2.2.2.2.2.2.2.1) (fun _=>rfl) (fun x h=>⟨h.1,h.2.1,h.2.2.1,h.2.2.2.1,h.2.2.2.2.1,h.2.2.2.2.2.1,h.2.2.2.2.2.2.1,h.2.2.2.2.2.2.2.1,h.2.2.2.2.2.2.2.2.1,h.2.2.2.2.2.2.2.2.2.1,h.2.2.2.2.2.2.2.2.2.2.1,h.2.2.2.2.2.2.2.2.2.2.2.1,h.2.2.2.2.2.2.2.2.2.2.2.2.1,h.2.2.2.2.2.2.2.2.2.2.2.2.2.1,h.2.2.2.2.2.2.2.2.2.2.2.2.2.2.1,h.2.2.2.2.2.2.2.2.2.2.2.2.2.2.2.1⟩)
theorem o29{H:Type}{enc:TypeId×Value→H}{W:World}(fuel:Nat):Opens enc Proofs.Tryz.prog W 29 (fun xs=>[eL cL_cInt (xs)]) (okL 24 (okL 8 inI64)) fuel:=by
 cases fuel with
 | zero=>exact opens_zero
 | succ fuel=>exact opens_slice Proofs.Tryz.underlying29 (by kernel_rfl) (by kernel_rfl) (o22 fuel) (fun xs=>eL cL_cInt (xs)) (fun _=>rfl)
def okGValue(x:GValue):Prop:=inI64 x.Kind∧inI64 x.N∧okStr x.S
theorem o90{H:Type}{enc:TypeId×Value→H}{W:World}(fuel:Nat):Opens enc Proofs.Tryz.prog W 90 cGValue okGValue fuel:=by
 cases fuel with
 | zero=>exact opens_zero
 | succ fuel=>exact(opens_struct Proofs.Tryz.underlying90 (opensF_cons (by kernel_rfl) (opens_int Proofs.Tryz.underlying3 fuel) (opensF_cons (by kernel_rfl) (opens_int Proofs.Tryz.underlying3 fuel) (opensF_cons (by kernel_rfl) (opens_string Proofs.Tryz.underlying9 fuel) opensF_nil))) (by kernel_rfl)).map (fun x=>GValue.mk x.1 x.2.1 x.2.2.1) (fun _=>rfl) (fun x h=>⟨h.1,h.2.1,h.2.2.1⟩)
theorem o50{H:Type}{enc:TypeId×Value→H}{W:World}(fuel:Nat):Opens enc Proofs.Tryz.prog W 50 (fun xs=>[eL cGValue (xs)]) (okL 32 okGValue) fuel:=by
 cases fuel with
 | zero=>exact opens_zero
 | succ fuel=>exact opens_slice Proofs.Tryz.underlying50 (by kernel_rfl) (by kernel_rfl) (o90 fuel) (fun xs=>eL cGValue (xs)) (fun _=>rfl)
def okGDelta(x:GDelta):Prop:=inI64 x.Time∧okL 32 okGValue x.Row∧inI64 x.N
theorem o52{H:Type}{enc:TypeId×Value→H}{W:World}(fuel:Nat):Opens enc Proofs.Tryz.prog W 52 cGDelta okGDelta fuel:=by
 cases fuel with
 | zero=>exact opens_zero
 | succ fuel=>exact(opens_struct Proofs.Tryz.underlying52 (opensF_cons (by kernel_rfl) (opens_int Proofs.Tryz.underlying3 fuel) (opensF_cons (by kernel_rfl) (o50 fuel) (opensF_cons (by kernel_rfl) (opens_int Proofs.Tryz.underlying3 fuel) opensF_nil))) (by kernel_rfl)).map (fun x=>GDelta.mk x.1 x.2.1 x.2.2.1) (fun _=>rfl) (fun x h=>⟨h.1,h.2.1,h.2.2.1⟩)
theorem o38{H:Type}{enc:TypeId×Value→H}{W:World}(fuel:Nat):Opens enc Proofs.Tryz.prog W 38 (fun xs=>[eL cGDelta (xs)]) (okL 40 okGDelta) fuel:=by
 cases fuel with
 | zero=>exact opens_zero
 | succ fuel=>exact opens_slice Proofs.Tryz.underlying38 (by kernel_rfl) (by kernel_rfl) (o52 fuel) (fun xs=>eL cGDelta (xs)) (fun _=>rfl)
def okGAct(x:GAct):Prop:=inI64 x.Do∧inI64 x.C∧okL 40 okGDelta x.L
theorem o41{H:Type}{enc:TypeId×Value→H}{W:World}(fuel:Nat):Opens enc Proofs.Tryz.prog W 41 cGAct okGAct fuel:=by
 cases fuel with
 | zero=>exact opens_zero
 | succ fuel=>exact(opens_struct Proofs.Tryz.underlying41 (opensF_cons (by kernel_rfl) (opens_int Proofs.Tryz.underlying3 fuel) (opensF_cons (by kernel_rfl) (opens_int Proofs.Tryz.underlying3 fuel) (opensF_cons (by kernel_rfl) (o38 fuel) opensF_nil))) (by kernel_rfl)).map (fun x=>GAct.mk x.1 x.2.1 x.2.2.1) (fun _=>rfl) (fun x h=>⟨h.1,h.2.1,h.2.2.1⟩)
theorem o30{H:Type}{enc:TypeId×Value→H}{W:World}(fuel:Nat):Opens enc Proofs.Tryz.prog W 30 (fun xs=>[eL cGAct (xs)]) (okL 40 okGAct) fuel:=by
 cases fuel with
 | zero=>exact opens_zero
 | succ fuel=>exact opens_slice Proofs.Tryz.underlying30 (by kernel_rfl) (by kernel_rfl) (o41 fuel) (fun xs=>eL cGAct (xs)) (fun _=>rfl)
end Go.PL
namespace Go.PL
open Go
set_option linter.unusedVariables false
set_option maxRecDepth 20000
theorem sq_count{S R:Type}{b:Bool}{bd:S→Option (S⊕R)}(idx:S→Int)(N:Nat)(hN:N≤1000000000000000)(I:S→Prop){Q:R→Prop}
  (h:∀ s (k:Nat),I s→idx s=k→k≤N→Sq b (bd s) (sel (fun s'=>idx s'=IntKind.i64.wrap ((k:Int)+1)∧k<N∧I s') Q)){s:S}(hs:I s)(h0:idx s=0):Sq b (whileM bd s) Q:=by
 refine Sq.while (fun s=>I s∧∃ k:Nat,idx s=k∧k≤N) (fun s=>N-(idx s).toNat) (fun s hs=>?_) ⟨hs,0,h0,by omega⟩
 obtain⟨hI,k,hk,hkN⟩:=hs
 refine(h s k hI hk hkN).imp fun z hz=>?_
 cases z with
 | inr r=>exact hz
 | inl s'=>
  obtain⟨q1,q2,q3⟩:=hz
  rw[wrap_inc (by omega)]at q1
  exact⟨⟨q3,k+1,q1,by omega⟩,by rw[q1,hk]; omega⟩
theorem okExpr.len{e:Expr}(h:okExpr e):e.Args.length≤1048576:=by cases h; assumption
theorem okExpr.arg{e:Expr}(h:okExpr e):∀ x,x∈e.Args→okExpr x:=by cases h; assumption
theorem sizeOf_arg{e x:Expr}(h:x∈e.Args):SizeOf.sizeOf x<SizeOf.sizeOf e:=by
 cases e with
 | mk a b s l=>
  have:=List.sizeOf_lt_of_mem h
  simp only[Expr.Args]at this
  simp only[Expr.mk.sizeOf_spec]
  omega
theorem G79_sp(e:Expr)(h:okExpr e):Sp (G79 e) (fun _=>True):=by
 refine fixF_sq (C:=fun (a:Expr) (x:Option Int)=>Con Proofs.Tryz.prog 50 [.t (eExpr a)] x (fun (y:Int)=>.t (.int .i64 (y)))) (fun a=>⟨callable_of Proofs.Tryz.func50 (by kernel_rfl),fun _ h=>nomatch h⟩) (fun rec a=>T79 rec a) (fun rec a=>T79_ok rec a)
  okExpr (fun e=>SizeOf.sizeOf e) (fun _ _=>True) (fun b f e he hrec=>?_) true e h
 have hl:=he.len
 unfold T79
 simp only[Tr.den,sq_bind]
 refine sq_count (fun s:Int×Int=>s.2) e.Args.length (by omega) (fun _=>True) (fun s k _ hk hkN=>?_) trivial rfl
 obtain⟨v1,v2⟩:=s
 simp only at hk
 subst hk
 unfold T79_L0
 simp only[Tr.den,Int.toNat_natCast]
 by_cases hc:k<e.Args.length
 ·rw[if_pos (decT (by omega)),if_pos (by omega)]
  refine Sq.bind _ (hrec _ (he.arg _ (getD_mem hc)) (sizeOf_arg (getD_mem hc))) fun r _=>sq_some.2 ⟨rfl,hc,trivial⟩
 ·rw[if_neg (decF (by omega))]
  exact sq_some.2 (sq_some.2 trivial)
theorem G80_sp(e:Expr)(h:okExpr e):Sp (G80 e) (fun _=>True):=by
 refine fixF_sq (C:=fun (a:Expr) (x:Option Int)=>Con Proofs.Tryz.prog 51 [.t (eExpr a)] x (fun (y:Int)=>.t (.int .i64 (y)))) (fun a=>⟨callable_of Proofs.Tryz.func51 (by kernel_rfl),fun _ h=>nomatch h⟩) (fun rec a=>T80 rec a) (fun rec a=>T80_ok rec a)
  okExpr (fun e=>SizeOf.sizeOf e) (fun _ _=>True) (fun b f e he hrec=>?_) true e h
 have hl:=he.len
 unfold T80
 simp only[Tr.den,sq_bind]
 refine sq_count (fun s:Int×Int=>s.2) e.Args.length (by omega) (fun _=>True) (fun s k _ hk hkN=>?_) trivial rfl
 obtain⟨v1,v2⟩:=s
 simp only at hk
 subst hk
 unfold T80_L0
 simp only[Tr.den,Int.toNat_natCast]
 by_cases hc:k<e.Args.length
 ·rw[if_pos (decT (by omega)),if_pos (by omega)]
  refine Sq.bind _ (hrec _ (he.arg _ (getD_mem hc)) (sizeOf_arg (getD_mem hc))) fun r _=>sq_some.2 ⟨rfl,hc,trivial⟩
 ·rw[if_neg (decF (by omega))]
  exact sq_some.2 (sq_some.2 trivial)
theorem G150_sp(fs:List Int)(e:Expr)(hf:fs.length≤1100000)(h:okExpr e):Sp (G150 fs e) (fun _=>True):=by
 refine fixF_sq (C:=fun (a:(List Int)×Expr) (x:Option Int)=>Con Proofs.Tryz.prog 102 [.t (eL cInt (a.1)),.t (eExpr a.2)] x (fun (y:Int)=>.t (.int .i64 (y)))) (fun a=>⟨callable_of Proofs.Tryz.func102 (by kernel_rfl),fun _ h=>nomatch h⟩) (fun rec a=>T150 rec a.1 a.2) (fun rec a=>T150_ok rec a.1 a.2)
  (fun a=>a.1.length≤1100000∧okExpr a.2) (fun a=>SizeOf.sizeOf a.2) (fun _ _=>True) (fun b f a ha hrec=>?_) true (fs,e) ⟨hf,h⟩
 obtain⟨fs,e⟩:=a
 obtain⟨hf,he⟩:=ha
 simp only at hf he hrec ⊢
 have hl:=he.len
 unfold T150
 simp only[Tr.den,sq_bind]
 refine sq_count (fun s:List Int×Int=>s.2) e.Args.length (by omega) (fun s=>s.1.length=s.2.toNat) (fun s k hI hk hkN=>?_) rfl rfl
 obtain⟨v1,v2⟩:=s
 simp only at hk hI
 subst hk
 unfold T150_L0
 simp only[Tr.den,Int.toNat_natCast]at hI ⊢
 by_cases hc:k<e.Args.length
 ·rw[if_pos (decT (by omega)),if_pos (by omega)]
  refine Sq.bind _ (hrec (fs,e.Args.getD k default) ⟨hf,he.arg _ (getD_mem hc)⟩ (sizeOf_arg (getD_mem hc))) fun r _=>?_
  rw[if_pos (by simp only[List.length_cons,List.length_nil]; omega)]
  refine sq_some.2 ⟨rfl,hc,?_⟩
  rw[wrap_inc (by omega)]; simp; omega
 ·rw[if_neg (decF (by omega))]
  refine sq_some.2 ?_
  simp only[sel]
  have hv:v1.length=e.Args.length:=by omega
  have rest:Sq b ((whileM (fun s=>(T150_L1 s).den) (1,v1,0)).bind (sel (fun b10=>((if (e.Op==22)=true then (if decide (e.N≥0)=true then some (decide (e.N<(fs.length:Int))) else some false) else some false)).bind fun j11=>
    ((if j11=true then (if 0≤e.N∧e.N<(fs.length:Int) then some (if (1099511627776:Int)<IntKind.i64.wrap (b10+fs.getD e.N.toNat default) then (1099511627776:Int) else IntKind.i64.wrap (b10+fs.getD e.N.toNat default)) else none) else some b10)).bind fun j12=>some j12) some)) (fun _=>True):=by
   rw[sq_bind]
   refine sq_count (fun s:Int×List Int×Int=>s.2.2) v1.length (by omega) (fun s=>s.2.1=v1) (fun s k hI hk hkN=>?_) rfl rfl
   obtain⟨w1,w2,w3⟩:=s
   simp only at hk hI
   subst hk hI
   unfold T150_L1
   simp only[Tr.den,Int.toNat_natCast]
   by_cases hc:k<w2.length
   ·rw[if_pos (decT (by omega)),if_pos (by omega),if_pos hc]
    exact sq_some.2 ⟨rfl,hc,rfl⟩
   ·rw[if_neg (decF (by omega))]
    refine sq_some.2 ?_
    simp only[sel,dec_and]
    by_cases h22:(e.Op==22)=true
    ·rw[if_pos h22]
     simp only[Option.bind_some]
     by_cases hr:e.N≥0∧e.N<(fs.length:Int)
     ·rw[if_pos (decT hr),if_pos hr]; exact sq_some.2 trivial
     ·rw[if_neg (decF hr)]; exact sq_some.2 trivial
    ·rw[if_neg h22]; exact sq_some.2 trivial
  by_cases h21:(e.Op==21)=true
  ·rw[if_pos h21]
   simp only[Option.bind_some]
   by_cases h3:((v1.length:Int)==3)=true
   ·rw[if_pos h3]
    have h3':v1.length=3:=by have:=beq_iff_eq.1 h3; omega
    rw[if_pos (by omega),if_pos (by simp; omega),if_pos (by omega),if_pos (by simp; omega),if_pos (by omega),if_pos (by simp; omega)]
    exact sq_some.2 trivial
   ·rw[if_neg h3]; exact rest
  ·rw[if_neg h21]
   simp only[Option.bind_some,Bool.false_eq_true,if_false]
   exact rest
theorem G81_sp(e:Expr)(h:okExpr e):Sp (G81 [] e) (fun _=>True):=by
 unfold G81 T81
 simp only[Tr.den]
 rw[whileM_stop (r:=.inl []) (by unfold T81_L0; simp[Tr.den])]
 simp only[Option.bind_some,sel,sq_bind]
 exact(G150_sp [] e (by simp) h).imp fun _ _=>sq_some.2 trivial
theorem okEs.get{l:List Expr}(h:okL 56 okExpr l){k:Nat}(hk:k<l.length):okExpr (l.getD k default):=h.2 _ (getD_mem hk)
theorem G33_sp(n:GNode)(h:okGNode n):Sp (G33 [] n) (fun r=>r=true→n.Key.length≤20∧n.Key2.length≤20):=by
 obtain⟨_,_,_,_,hE,_,_,_,_,_,_,_,_,_,hS,_⟩:=h
 have hE1:=hE.1
 have hS1:=hS.1
 unfold G33 T33
 simp only[Tr.den]
 rw[whileM_stop (r:=.inl ()) (by unfold T33_L0; simp[Tr.den])]
 simp only[Option.bind_some,sel,sq_bind]
 refine sq_count (fun s:Int=>s) n.Exprs.length (by omega) (fun _=>True) (fun s k _ hk hkN=>?_) trivial rfl
 subst hk
 unfold T33_L1
 simp only[Tr.den,Int.toNat_natCast,dec_and,Option.bind_some]
 by_cases hc:((k:Int)<(n.Exprs.length:Int))∧(k:Int)<13
 ·rw[if_pos (decT hc),if_pos (by omega)]
  have he:=okEs.get hE (show k<n.Exprs.length by omega)
  refine Sq.bind _ (G79_sp _ he) fun r _=>?_
  refine Sq.bind (fun _=>True) ?_ (fun j _=>?_)
  ·by_cases h1:r>200
   ·rw[if_pos (decT h1)]; exact sq_some.2 trivial
   ·rw[if_neg (decF h1),if_pos (by omega)]
    refine Sq.bind _ (G80_sp _ he) fun r _=>?_
    by_cases h2:r>12
    ·rw[if_pos (decT h2)]; exact sq_some.2 trivial
    ·rw[if_neg (decF h2),if_pos (by omega)]
     refine Sq.bind _ (G81_sp _ he) fun r _=>sq_some.2 trivial
  ·cases j with
   | true=>exact sq_some.2 (sq_some.2 fun h=>by cases h)
   | false=>exact sq_some.2 ⟨rfl,by omega,trivial⟩
 ·rw[if_neg (decF hc)]
  refine sq_some.2 ?_
  simp only[sel,sq_bind]
  refine sq_count (fun s:Int=>s) n.Seq.length (by omega) (fun _=>True) (fun s k _ hk hkN=>?_) trivial rfl
  subst hk
  unfold T33_L2
  simp only[Tr.den,Int.toNat_natCast,dec_and,Option.bind_some]
  by_cases hc:((k:Int)<(n.Seq.length:Int))∧(k:Int)<9
  ·rw[if_pos (decT hc),if_pos (by omega)]
   have he:okExpr (n.Seq.getD k default).Pred:=(hS.2 _ (getD_mem (show k<n.Seq.length by omega))).1
   refine Sq.bind _ (G79_sp _ he) fun r _=>?_
   refine Sq.bind (fun _=>True) ?_ (fun j _=>?_)
   ·by_cases h1:r>200
    ·rw[if_pos (decT h1)]; exact sq_some.2 trivial
    ·rw[if_neg (decF h1),if_pos (by omega)]
     refine Sq.bind _ (G80_sp _ he) fun r _=>?_
     by_cases h2:r>12
     ·rw[if_pos (decT h2)]; exact sq_some.2 trivial
     ·rw[if_neg (decF h2),if_pos (by omega)]
      refine Sq.bind _ (G81_sp _ he) fun r _=>sq_some.2 trivial
   ·cases j with
    | true=>exact sq_some.2 (sq_some.2 fun h=>by cases h)
    | false=>exact sq_some.2 ⟨rfl,by omega,trivial⟩
  ·rw[if_neg (decF hc)]
   refine sq_some.2 ?_
   simp only[sel]
   refine sq_some.2 fun h=>?_
   have h:=of_decide_eq_true h
   omega
theorem G82_nil:G82 []=some true:=by
 unfold G82 T82
 simp only[Tr.den]
 rw[whileM_stop (r:=.inl ()) (by unfold T82_L0; simp[Tr.den])]
 rfl
theorem G153_eq(a b c:Int):G153 a b c=some (decide (b≤a∧a≤c)):=by
 unfold G153 T153
 simp only[Tr.den,dec_and,Option.bind_some]
theorem G88_sp(l types:List Int)(h:l.length≤1048576):Sp (G88 l types) (fun r=>r=true→∀ c,c∈l→0≤c∧c<types.length):=by
 unfold G88 T88
 simp only[Tr.den,sq_bind]
 refine sq_count (fun s:Int=>s) l.length (by omega) (fun s=>∀ c,c∈l.take s.toNat→0≤c∧c<types.length) (fun s k hI hk hkN=>?_) (by simp) rfl
 subst hk
 unfold T88_L0
 simp only[Tr.den,Int.toNat_natCast]at hI ⊢
 by_cases hc:k<l.length
 ·rw[if_pos (decT (by omega)),if_pos (by omega)]
  by_cases h1:l.getD k default<0
  ·rw[if_pos (decT h1)]
   exact sq_some.2 (sq_some.2 fun h=>by cases h)
  ·rw[if_neg (decF h1),if_pos (by omega)]
   simp only[Option.bind_some]
   by_cases h2:l.getD k default≥types.length
   ·rw[if_pos (decT h2)]
    exact sq_some.2 (sq_some.2 fun h=>by cases h)
   ·rw[if_neg (decF h2)]
    refine sq_some.2 ⟨rfl,hc,fun c hcm=>?_⟩
    rw[wrap_inc (by omega),Int.toNat_natCast,take_succ_getD hc,List.mem_append,List.mem_singleton]at hcm
    rcases hcm with hcm | rfl
    ·exact hI c hcm
    ·omega
 ·rw[if_neg (decF (by omega))]
  refine sq_some.2 (sq_some.2 fun _=>?_)
  rwa [List.take_of_length_le (by omega)]at hI
theorem G90_sp(n:GNode)(a b:List Int)(h:n.Key.length≤1048576)(ha:∀ c,c∈n.Key→0≤c∧c<a.length)(hb:∀ c,c∈n.Key2→0≤c∧c<b.length):Sp (G90 n a b) (fun _=>True):=by
 unfold G90 T90
 simp only[Tr.den]
 by_cases hl:(n.Key.length:Int)=n.Key2.length
 ·rw[if_neg (bneF hl)]
  refine sq_bind.2 ?_
  refine sq_count (fun s:Int=>s) n.Key.length (by omega) (fun s=>True) (fun s k hI hk hkN=>?_) trivial rfl
  subst hk
  unfold T90_L0
  simp only[Tr.den,Int.toNat_natCast]
  by_cases hc:k<n.Key.length
  ·have h1:=ha _ (getD_mem hc)
   have h2:=hb _ (getD_mem (show k<n.Key2.length by omega))
   rw[if_pos (decT (by omega)),if_pos (by omega),if_pos h1,if_pos (by omega),if_pos h2]
   split
   ·exact sq_some.2 (sq_some.2 trivial)
   ·exact sq_some.2 ⟨rfl,hc,trivial⟩
  ·rw[if_neg (decF (by omega))]
   exact sq_some.2 (sq_some.2 trivial)
 ·rw[if_pos (bneT hl)]; exact sq_some.2 trivial
structure RightN (n:GNode)(a b:List Int):Prop where
 op:(n.Op=6∧okB n)∨(n.Op=7∧1≤n.Keep∧n.Keep≤10000)
 k1:∀ c,c∈n.Key→0≤c∧c<a.length
 k2:∀ c,c∈n.Key2→0≤c∧c<b.length
 la:a.length≤12
 lb:b.length≤12
theorem G83_sp(n:GNode)(hop:n.Op=6∨n.Op=7):Sp (G83 n) (fun r=>r=true→(n.Op=6∧okB n)∨(n.Op=7∧1≤n.Keep∧n.Keep≤10000)):=by
 unfold G83 T83
 simp only[Tr.den,G153_eq,Option.bind_some]
 rw[if_neg (beqF (by omega)),if_neg (beqF (by omega))]
 rcases hop with h | h
 ·rw[if_pos (beqT h)]
  by_cases h1:0≤n.Before∧n.Before≤10000
  ·rw[if_pos (decT h1)]
   exact sq_some.2 fun h2=>.inl ⟨h,h1,of_decide_eq_true h2⟩
  ·rw[if_neg (decF h1)]
   exact sq_some.2 fun h=>by cases h
 ·rw[if_neg (beqF (by omega)),if_pos (beqT h)]
  exact sq_some.2 fun h2=>.inr ⟨h,of_decide_eq_true h2⟩
theorem G84_eq(n:GNode)(hop:n.Op=6∨n.Op=7):G84 n=some 2:=by
 unfold G84 T84
 simp only[Tr.den]
 rcases hop with h | h <;> simp[h]
theorem G34_sp(n:GNode)(a b:List Int)(hop:n.Op=6∨n.Op=7)(h1:n.Key.length≤1048576)(h2:n.Key2.length≤1048576)(ha:a.length≤1048576)(hb:b.length≤1048576):Sp (G34 [] n [a,b]) (fun r=>r=true→RightN n a b):=by
 unfold G34 T34
 simp only[Tr.den]
 rw[G82_nil]
 simp only[Option.bind_some,Bool.not_true,Bool.false_eq_true,if_false]
 refine Sq.bind (fun j:Bool=>j=false→(n.Op=6∧okB n)∨(n.Op=7∧1≤n.Keep∧n.Keep≤10000)) ?_ (fun j hj=>?_)
 ·refine Sq.bind _ (G83_sp n hop) fun r hr=>?_
  cases r with
  | false=>exact sq_some.2 fun h=>by cases h
  | true=>
   simp only[Bool.not_true,Bool.false_eq_true,if_false]
   rw[G84_eq n hop]
   simp only[Option.bind_some]
   rw[if_neg (bneF (by rfl))]
   exact sq_some.2 fun _=>hr rfl
 ·cases j with
  | true=>exact sq_some.2 fun h=>by cases h
  | false=>
   have hop':=hj rfl
   simp only[Bool.false_eq_true,if_false]
   have w:IntKind.i64.wrap ((([a,b]:List (List Int)).length:Int)-1)=1:=by
    show IntKind.i64.wrap (2-1)=1
    rw[wrap_id] <;> omega
   rw[if_pos (by simp),w,if_pos (by simp)]
   have e0:([a,b]:List (List Int)).getD (0:Int).toNat default=a:=rfl
   have e1:([a,b]:List (List Int)).getD (1:Int).toNat default=b:=rfl
   rw[e0,e1]
   refine Sq.bind (fun j:Bool=>j=false→a.length≤12∧b.length≤12) ?_ (fun j hj=>?_)
   ·refine sq_iteB (fun _=>sq_some.2 fun h=>by cases h) fun _=>sq_iteB (fun _=>sq_some.2 fun h=>by cases h) fun q1=>sq_iteB (fun _=>sq_some.2 fun h=>by cases h) fun _=>sq_some.2 fun q2=>?_
    have q1:=of_decide_eq_false q1
    have q2:=of_decide_eq_false q2
    omega
   ·cases j with
    | true=>exact sq_some.2 fun h=>by cases h
    | false=>
     have hlen:=hj rfl
     simp only[Bool.false_eq_true,if_false]
     rw[if_neg (beqF (by omega)),if_neg (beqF (by omega)),if_neg (beqF (by omega)),if_neg (beqF (by omega)),if_neg (beqF (by omega))]
     have hor:((if (n.Op==6)=true then some (n.Op==6) else some (n.Op==7)):Option Bool)=some true:=by
      rcases hop with h | h
      ·rw[if_pos (beqT h),h]; rfl
      ·rw[if_neg (beqF (by omega)),h]; rfl
     rw[hor]
     simp only[Option.bind_some,if_true]
     refine Sq.bind _ (G88_sp n.Key a h1) fun r hr=>?_
     cases r with
     | false=>exact sq_some.2 fun h=>by cases h
     | true=>
      simp only[if_true]
      refine Sq.bind (fun r:Bool=>r=true→RightN n a b) ?_ (fun r hr=>sq_some.2 hr)
      refine Sq.bind _ (G88_sp n.Key2 b h2) fun r hr2=>?_
      cases r with
      | false=>exact sq_some.2 fun h=>by cases h
      | true=>
       simp only[if_true]
       refine Sq.bind _ (G90_sp n a b h1 (hr rfl) (hr2 rfl)) fun r _=>?_
       cases r with
       | false=>exact sq_some.2 fun h=>by cases h
       | true=>exact sq_some.2 fun _=>⟨hop',hr rfl,hr2 rfl,hlen.1,hlen.2⟩
theorem G184_sp(v:GValue):Sp (G184 v) (fun _=>True):=by
 unfold G184 T184
 simp only[Tr.den]
 refine sq_iteB (fun _=>sq_some.2 trivial) fun _=>sq_iteB (fun _=>Sq.bind (fun _=>True) ?_ fun _ _=>sq_some.2 trivial) fun _=>Sq.bind (fun _=>True) ?_ fun _ _=>sq_some.2 trivial
 ·exact sq_iteB (fun _=>sq_some.2 trivial) fun _=>sq_some.2 trivial
 ·exact sq_iteB (fun _=>sq_iteB (fun _=>sq_some.2 trivial) fun _=>sq_iteB (fun _=>sq_some.2 trivial) fun _=>sq_some.2 trivial) fun _=>sq_some.2 trivial
theorem G149_sp(r:List GValue)(h:r.length≤1048576):Sp (G149 r) (fun _=>True):=by
 unfold G149 T149
 simp only[Tr.den,sq_bind]
 refine sq_count (fun s:Int=>s) r.length (by omega) (fun s=>True) (fun s k hI hk hkN=>?_) trivial rfl
 subst hk
 unfold T149_L0
 simp only[Tr.den,Int.toNat_natCast]
 by_cases hc:k<r.length
 ·rw[if_pos (decT (by omega)),if_pos (by omega)]
  refine Sq.bind _ (G184_sp _) fun q _=>?_
  cases q with
  | false=>exact sq_some.2 (sq_some.2 trivial)
  | true=>exact sq_some.2 ⟨rfl,hc,trivial⟩
 ·rw[if_neg (decF (by omega))]
  exact sq_some.2 (sq_some.2 trivial)
theorem G78_sp(r:List GValue)(h:r.length≤1048576):Sp (G78 r) (fun _=>True):=by
 unfold G78 T78
 simp only[Tr.den]
 refine Sq.bind (fun _=>True) ?_ fun _ _=>sq_some.2 trivial
 exact sq_iteB (fun _=>Sq.bind _ (G149_sp r h) fun _ _=>sq_some.2 trivial) fun _=>sq_some.2 trivial
theorem G30_sp(x:GDelta)(types:List Int)(h:x.Row.length≤1048576)(ht:types.length≤1048576):Sp (G30 [x] types 1) (fun r=>r=true→0≤x.Time∧x.Time≤2199023255552∧x.Row.length=types.length):=by
 unfold G30 T30
 simp only[Tr.den,sq_bind]
 refine sq_count (fun s:Int=>s) 1 (by omega) (fun s=>1≤s.toNat→0≤x.Time∧x.Time≤2199023255552∧x.Row.length=types.length) (fun s k hI hk hkN=>?_) (by simp) rfl
 subst hk
 unfold T30_L0
 simp only[Tr.den,Int.toNat_natCast,dec_and,Option.bind_some]at hI ⊢
 by_cases hc:k<1
 ·obtain rfl:k=0:=by omega
  have e0:([x]:List GDelta).getD 0 default=x:=rfl
  have el:(([x]:List GDelta).length:Int)=1:=rfl
  rw[if_pos (decT (by omega)),if_pos (by omega)]
  have rest:0≤x.Time∧x.Time≤2199023255552∧x.Row.length=types.length →
    Sp ((whileM (fun s=>(T30_L1 [x] types ((0:Nat):Int) s).den) 0).bind (sel (fun _=>some (Sum.inl (IntKind.i64.wrap (((0:Nat):Int)+1)))) some)) (sel (fun s':Int=>s'=IntKind.i64.wrap (((0:Nat):Int)+1)∧0<1∧(1≤s'.toNat→0≤x.Time∧x.Time≤2199023255552∧x.Row.length=types.length)) (fun r:Unit⊕Bool=>Sp (sel (fun _=>some (decide ((1:Int)≤1))) some r) (fun r=>r=true→0≤x.Time∧x.Time≤2199023255552∧x.Row.length=types.length))):=by
   intro hx
   have e2:(([x]:List GDelta).getD 0 default).Row.length=types.length:=hx.2.2
   refine sq_bind.2 ?_
   refine sq_count (fun s:Int=>s) types.length (by omega) (fun s=>True) (fun s k hI hk hkN=>?_) trivial rfl
   subst hk
   unfold T30_L1
   simp only[Tr.den,Int.toNat_natCast]
   by_cases hc:k<types.length
   ·rw[if_pos (decT (by omega)),if_pos (by omega),if_pos (by omega),if_pos (by omega)]
    split
    ·exact sq_some.2 (sq_some.2 (sq_some.2 fun h=>by cases h))
    ·exact sq_some.2 ⟨rfl,hc,trivial⟩
   ·rw[if_neg (decF (by omega))]
    exact sq_some.2 (sq_some.2 ⟨rfl,by omega,fun _=>hx⟩)
  refine Sq.bind (fun j:Bool=>j=false→0≤x.Time∧x.Time≤2199023255552∧x.Row.length=types.length) ?_ (fun j hj=>?_)
  ·refine sq_iteB (fun _=>sq_some.2 fun h=>by cases h) fun q1=>sq_grd (by omega) (sq_iteB (fun _=>sq_some.2 fun h=>by cases h) fun q2=>sq_grd (by omega) (sq_iteB (fun _=>sq_some.2 fun h=>by cases h) fun q3=>sq_grd (by omega) (sq_iteB (fun _=>sq_some.2 fun h=>by cases h) fun q4=>sq_grd (by omega) (sq_iteB (fun _=>sq_some.2 fun h=>by cases h) fun q5=>sq_grd (by omega) (Sq.bind _ (G78_sp _ h) fun r _=>sq_some.2 fun _=>?_)))))
   have q1:=of_decide_eq_false q1
   have q2:=of_decide_eq_false q2
   simp only[bne_eq_false_iff_eq]at q5
   rw[e0]at q1 q2 q5
   omega
  ·cases j with
   | true=>exact sq_some.2 (sq_some.2 fun h=>by cases h)
   | false=>exact rest (hj rfl)
 ·obtain rfl:k=1:=by omega
  rw[if_neg (decF (by simp))]
  exact sq_some.2 (sq_some.2 fun _=>hI (by omega))
abbrev inA (x:GAct):Int:=bitA .i64 x.Do 1
abbrev isCl (x:GAct):Bool:=bitA .i64 x.Do 3==3
def two{α:Type}(i:Int)(a b:α):α:=if i=0 then a else b
theorem two_get{α:Type}[Inhabited α]{i:Int}(hi:i=0∨i=1)(a b:α):([a,b]:List α).getD i.toNat default=two i a b:=by
 rcases hi with rfl | rfl <;> rfl
theorem two_set{α:Type}{i:Int}(hi:i=0∨i=1)(a b c:α):([a,b]:List α).set i.toNat c=[if i=0 then c else a,if i=0 then b else c]:=by
 rcases hi with rfl | rfl <;> rfl
theorem two_ite{α:Type}(i:Int)(x a b:α):two i (if i=0 then x else a) (if i=0 then b else x)=x:=by
 by_cases h:i=0 <;> simp[two,h]
theorem two_len(i:Int)(x a b:List GDelta)(c:Nat)(h:x.length≤(two i a b).length+c):(if i=0 then x else a).length+(if i=0 then b else x).length≤a.length+b.length+c:=by
 by_cases hi:i=0
 ·unfold two at h; rw[if_pos hi]at h; rw[if_pos hi,if_pos hi]; omega
 ·unfold two at h; rw[if_neg hi]at h; rw[if_neg hi,if_neg hi]; omega
def FitsR(ta tb:List Int):List GAct→List GDelta→List GDelta→Int→Prop
 | [],_,_,_=>True
 | x::l,s0,s1,c=>(isCl x=true→x.C≤2199023255552∧FitsR ta tb l s0 s1 (if x.C>c then x.C else c)) ∧
  (isCl x=false→x.L.length≤8∧(∀ d,d∈x.L→c<d.Time∧0≤d.Time∧d.Time≤2199023255552∧d.Row.length=(two (inA x) ta tb).length ∧ -3≤d.N∧d.N≤3)∧(∀ d,d∈cons (two (inA x) s0 s1++x.L)→1≤d.N∧d.N≤20) ∧
   FitsR ta tb l (if inA x=0 then cons (two (inA x) s0 s1++x.L) else s0) (if inA x=0 then s1 else cons (two (inA x) s0 s1++x.L)) c)
theorem okGDelta.okd{l:List GDelta}(h:okL 40 okGDelta l):okD l:=⟨fun d hd=>by
 have:=(h.2 d hd).2.1.1
 unfold okR; omega,fun d hd=>(h.2 d hd).2.2⟩
theorem fitsL1(ta tb:List Int)(acts:List GAct)(k:Nat)(hk:k<acts.length)(v3:Int)(v7:List (List GDelta))(hok:okGAct (acts.getD k default))(ha:ta.length≤1048576)(hb:tb.length≤1048576)(hL:(acts.getD k default).L.length≤8):
  Sp (whileM (fun s=>(T35_L1 [ta,tb] acts v3 (k:Int) s).den) (v7,0)) (fun z=>z = .inr (.inr (.inr (.inr false)))∨(z = .inl v7∧∀ d,d∈(acts.getD k default).L→v3<d.Time∧0≤d.Time∧d.Time≤2199023255552∧d.Row.length=(two (inA (acts.getD k default)) ta tb).length ∧ -3≤d.N∧d.N≤3)):=by
 have hi:=bit1 (acts.getD k default).Do
 have hd:=hok.2.2
 refine sq_count (fun s:List (List GDelta)×Int=>s.2) (acts.getD k default).L.length (by omega) (fun s=>s.1=v7∧∀ d,d∈(acts.getD k default).L.take s.2.toNat→v3<d.Time∧0≤d.Time∧d.Time≤2199023255552∧d.Row.length=(two (inA (acts.getD k default)) ta tb).length ∧ -3≤d.N∧d.N≤3) (fun s q hI hq hqN=>?_) ⟨rfl,by simp⟩ rfl
 obtain⟨w7,w8⟩:=s
 obtain⟨h1,hI⟩:=hI
 simp only at hq h1 hI
 subst hq h1
 unfold T35_L1
 simp only[Tr.den,Int.toNat_natCast]at hI ⊢
 rw[if_pos (by omega)]
 by_cases hc:q<(acts.getD k default).L.length
 ·have hm:=getD_mem hc
  have hx:=hd.2 _ hm
  rw[if_pos (decT (by omega)),if_pos (by omega),if_pos (by omega)]
  refine Sq.bind (fun j:List (List GDelta)×Bool=>j.1=w7∧(j.2=false→v3<((acts.getD k default).L.getD q default).Time ∧ -3≤((acts.getD k default).L.getD q default).N∧((acts.getD k default).L.getD q default).N≤3)) ?_ (fun j hj=>?_)
  ·refine sq_iteB (fun _=>sq_some.2 ⟨rfl,fun h=>by cases h⟩) fun q1=>sq_iteB (fun _=>sq_some.2 ⟨rfl,fun h=>by cases h⟩) fun q2=>sq_some.2 ⟨rfl,fun q3=>?_⟩
   have q1:=of_decide_eq_false q1
   have q2:=of_decide_eq_false q2
   have q3:=of_decide_eq_false q3
   omega
  ·obtain⟨j1,j2⟩:=j
   obtain⟨hj1,hj2⟩:=hj
   simp only at hj1 hj2
   subst hj1
   cases j2 with
   | true=>exact sq_some.2 (.inl rfl)
   | false=>
    have hj2:=hj2 rfl
    simp only[Bool.false_eq_true,if_false]
    rw[if_pos (by simp only[List.length_cons,List.length_nil]; omega),two_get hi]
    refine Sq.bind _ (G30_sp _ _ (by exact hx.2.1.1) (by unfold two; split <;> assumption)) (fun r hr=>?_)
    cases r with
    | false=>exact sq_some.2 (.inl rfl)
    | true=>
     have hr:=hr rfl
     simp only at hr
     refine sq_some.2 ⟨rfl,hc,rfl,fun d hdm=>?_⟩
     rw[wrap_inc (by omega),Int.toNat_natCast,take_succ_getD hc,List.mem_append,List.mem_singleton]at hdm
     rcases hdm with hdm | rfl
     ·exact hI d hdm
     ·exact⟨hj2.1,hr.1,hr.2.1,hr.2.2,hj2.2⟩
 ·rw[if_neg (decF (by omega))]
  refine sq_some.2 (.inr ⟨rfl,?_⟩)
  rwa [List.take_of_length_le (by omega)]at hI
theorem fitsL2(ta tb:List Int)(acts:List GAct)(k:Nat)(hk:k<acts.length)(v3:Int)(s0 s1:List GDelta)(h0:(two (inA (acts.getD k default)) s0 s1).length≤1000000):
  Sp (whileM (fun s=>(T35_L2 [ta,tb] acts v3 (k:Int) s).den) ([s0,s1],0)) (fun z=>z = .inr (.inr (.inr (.inr false)))∨(z = .inl [s0,s1]∧∀ d,d∈two (inA (acts.getD k default)) s0 s1→1≤d.N∧d.N≤20)):=by
 have hi:=bit1 (acts.getD k default).Do
 rw[←two_get hi s0 s1]at h0 ⊢
 refine sq_count (fun s:List (List GDelta)×Int=>s.2) (([s0,s1]:List (List GDelta)).getD (bitA .i64 (acts.getD k default).Do 1).toNat default).length (by omega) (fun s=>s.1=[s0,s1]∧∀ d,d∈(([s0,s1]:List (List GDelta)).getD (bitA .i64 (acts.getD k default).Do 1).toNat default).take s.2.toNat→1≤d.N∧d.N≤20) (fun s q hI hq hqN=>?_) ⟨rfl,by simp⟩ rfl
 obtain⟨w7,w8⟩:=s
 obtain⟨h1,hI⟩:=hI
 simp only at hq h1 hI
 subst hq h1
 unfold T35_L2
 simp only[Tr.den,Int.toNat_natCast]at hI ⊢
 have hlen:(([s0,s1]:List (List GDelta)).length:Int)=2:=rfl
 have g1:0≤bitA .i64 (acts.getD k default).Do 1∧bitA .i64 (acts.getD k default).Do 1<(([s0,s1]:List (List GDelta)).length:Int):=by omega
 have g2:(bitA .i64 (acts.getD k default).Do 1).toNat<([s0,s1]:List (List GDelta)).length:=by simp only[List.length_cons,List.length_nil]; omega
 rw[if_pos g1,if_pos g2]
 by_cases hc:q<(([s0,s1]:List (List GDelta)).getD (bitA .i64 (acts.getD k default).Do 1).toNat default).length
 ·rw[if_pos (decT (by omega)),if_pos g1,if_pos g2,if_pos (by omega)]
  refine Sq.bind (fun j:List (List GDelta)×Bool=>j.1=[s0,s1]∧(j.2=false→1≤((([s0,s1]:List (List GDelta)).getD (bitA .i64 (acts.getD k default).Do 1).toNat default).getD q default).N∧((([s0,s1]:List (List GDelta)).getD (bitA .i64 (acts.getD k default).Do 1).toNat default).getD q default).N≤20)) ?_ (fun j hj=>?_)
  ·refine sq_iteB (fun _=>sq_some.2 ⟨rfl,fun h=>by cases h⟩) fun q1=>sq_grd g1 (sq_grd g2 (sq_grd (by omega) (sq_some.2 ⟨rfl,fun q3=>?_⟩)))
   have q1:=of_decide_eq_false q1
   have q3:=of_decide_eq_false q3
   omega
  ·obtain⟨j1,j2⟩:=j
   obtain⟨hj1,hj2⟩:=hj
   simp only at hj1 hj2
   subst hj1
   cases j2 with
   | true=>exact sq_some.2 (.inl rfl)
   | false=>
    refine sq_some.2 ⟨rfl,hc,rfl,fun d hdm=>?_⟩
    rw[wrap_inc (by omega),Int.toNat_natCast,take_succ_getD hc,List.mem_append,List.mem_singleton]at hdm
    rcases hdm with hdm | rfl
    ·exact hI d hdm
    ·exact hj2 rfl
 ·rw[if_neg (decF (by omega))]
  refine sq_some.2 (.inr ⟨rfl,?_⟩)
  rwa [List.take_of_length_le (by omega)]at hI
theorem G35_sp(ta tb:List Int)(acts:List GAct)(most:Nat)(hm:most≤1000)(hok:okL 40 okGAct acts)(ha:ta.length≤1048576)(hb:tb.length≤1048576):
  Sp (G35 [ta,tb] acts (most:Int)) (fun r=>r=true→acts.length≤most∧FitsR ta tb acts [] [] (-1)):=by
 unfold G35 T35
 simp only[Tr.den]
 by_cases hlen:(acts.length:Int)>(most:Int)
 ·rw[if_pos (decT hlen)]
  exact sq_some.2 fun h=>by cases h
 ·rw[if_neg (decF hlen)]
  simp only[Option.bind_some]
  rw[if_neg (by simp)]
  refine sq_bind.2 ?_
  refine sq_count (fun s:List (List GDelta)×Int×Int=>s.2.2) acts.length (by omega) (fun s=>∃ s0 s1,s.1=[s0,s1]∧okD s0∧okD s1∧s0.length+s1.length≤8*s.2.2.toNat∧(FitsR ta tb (acts.drop s.2.2.toNat) s0 s1 s.2.1→FitsR ta tb acts [] [] (-1))) (fun s k hI hk hkN=>?_)
   ⟨[],[],rfl,.nil,.nil,by simp,by simp⟩ rfl
  obtain⟨v2,v3,v4⟩:=s
  obtain⟨s0,s1,e,o0,o1,hl,hI⟩:=hI
  simp only at hk e hl hI
  subst hk e
  simp only[Int.toNat_natCast]at hl hI
  unfold T35_L0
  simp only[Tr.den,Int.toNat_natCast]
  by_cases hc:k<acts.length
  ·have hok':=hok.2 _ (getD_mem hc)
   have hi:=bit1 (acts.getD k default).Do
   rw[drop_getD hc]at hI
   rw[if_pos (decT (by omega))]
   refine Sq.bind (fun z=>z = .inr (.inr (.inr false))∨∃ t0 t1 c,z = .inl ([t0,t1],c)∧okD t0∧okD t1∧t0.length+t1.length≤8*(k+1)∧(FitsR ta tb (acts.drop (k+1)) t0 t1 c→FitsR ta tb acts [] [] (-1))) ?_ (fun z hz=>?_)
   ·rw[if_pos (by omega)]
    refine sq_iteB (fun h3=>?_) (fun h3=>?_)
    ·rw[if_pos (by omega)]
     by_cases h4:(acts.getD k default).C>2199023255552
     ·rw[if_pos (decT h4)]; exact sq_some.2 (.inl rfl)
     ·rw[if_neg (decF h4),if_pos (by omega)]
      refine sq_some.2 (.inr ⟨s0,s1,_,rfl,o0,o1,by omega,fun hF=>hI ⟨fun _=>⟨by omega,hF⟩,fun h=>?_⟩⟩)
      rw[show isCl (acts.getD k default)=true from h3]at h; cases h
    ·rw[if_pos (by omega),if_pos (by omega)]
     by_cases h4:((acts.getD k default).L.length:Int)>8
     ·rw[if_pos (decT h4)]; exact sq_some.2 (.inl rfl)
     ·rw[if_neg (decF h4)]
      refine Sq.bind _ (fitsL1 ta tb acts k hc v3 [s0,s1] hok' ha hb (by omega)) (fun z hz=>?_)
      rcases hz with rfl | ⟨rfl,hz⟩
      ·exact sq_some.2 (.inl rfl)
      ·simp only[sel]
       have g1:0≤bitA .i64 (acts.getD k default).Do 1∧bitA .i64 (acts.getD k default).Do 1<(([s0,s1]:List (List GDelta)).length:Int):=by simp only[List.length_cons,List.length_nil]; omega
       have g2:(bitA .i64 (acts.getD k default).Do 1).toNat<([s0,s1]:List (List GDelta)).length:=by simp only[List.length_cons,List.length_nil]; omega
       have otw:okD (two (inA (acts.getD k default)) s0 s1):=by unfold two; split <;> assumption
       have ltw:(two (inA (acts.getD k default)) s0 s1).length≤8*k:=by unfold two; split <;> omega
       have okL':=okGDelta.okd hok'.2.2
       rw[if_pos g1,if_pos g2,if_pos (by omega),two_get hi,G47_eq _ _ otw okL' (by omega)]
       simp only[Option.bind_some]
       rw[if_pos g1,if_pos g2]
       refine sq_grd (by simp only[List.all_cons,List.all_nil,Bool.and_true,decide_eq_true_eq]; exact g2) ?_
       rw[two_set hi]
       have hcl:=cons_len (two (inA (acts.getD k default)) s0 s1++(acts.getD k default).L)
       rw[List.length_append]at hcl
       have okc:=(otw.app okL').cons
       have etw:two (inA (acts.getD k default)) (if inA (acts.getD k default)=0 then cons (two (inA (acts.getD k default)) s0 s1++(acts.getD k default).L) else s0) (if inA (acts.getD k default)=0 then s1 else cons (two (inA (acts.getD k default)) s0 s1++(acts.getD k default).L))=cons (two (inA (acts.getD k default)) s0 s1++(acts.getD k default).L):=two_ite _ _ _ _
       have h2:=fitsL2 ta tb acts k hc v3 (if inA (acts.getD k default)=0 then cons (two (inA (acts.getD k default)) s0 s1++(acts.getD k default).L) else s0) (if inA (acts.getD k default)=0 then s1 else cons (two (inA (acts.getD k default)) s0 s1++(acts.getD k default).L)) (by rw[etw]; omega)
       rw[etw]at h2
       refine Sq.bind _ h2 (fun z hz2=>?_)
       rcases hz2 with rfl | ⟨rfl,hz2⟩
       ·exact sq_some.2 (.inl rfl)
       ·refine sq_some.2 (.inr ⟨_,_,_,rfl,by split <;> assumption,by split <;> assumption,?_,fun hF=>hI ⟨fun h=>?_,fun _=>⟨by omega,hz,hz2,hF⟩⟩⟩)
        ·exact Nat.le_trans (two_len _ _ _ _ 8 (by omega)) (by omega)
        ·rw[show isCl (acts.getD k default)=false from h3]at h; cases h
   ·rcases hz with rfl | ⟨t0,t1,c,rfl,p0,p1,pl,hF⟩
    ·exact sq_some.2 (sq_some.2 fun h=>by cases h)
    ·refine sq_some.2 ⟨rfl,hc,t0,t1,rfl,p0,p1,?_,?_⟩
     ·simp only; rw[wrap_inc (by omega),Int.toNat_natCast]; exact pl
     ·simp only; rw[wrap_inc (by omega),Int.toNat_natCast]; exact hF
  ·rw[if_neg (decF (by omega))]
   refine sq_some.2 (sq_some.2 fun _=>⟨by omega,hI ?_⟩)
   rw[List.drop_eq_nil_of_le (by omega)]; trivial
theorem ofK_app(n:GNode)(i:Int)(k:ByteArray)(l r:List GDelta):ofK n i k (l++r)=ofK n i k l++ofK n i k r:=List.filter_append ..
theorem Same.ofK{l r:List GDelta}(h:Same l r)(n:GNode)(i:Int)(k:ByteArray):Same (ofK n i k l) (ofK n i k r):=h.filter (fun p=>decide (keyB n i p.2=k))
theorem Same.aft{l r:List GDelta}(h:Same l r)(t:Int):Same (l.filter (PL.aft t)) (r.filter (PL.aft t)):=h.filter (fun p=>decide (t<p.1))
theorem okN.sub{l r:List GDelta}(h:okN l)(hs:∀ x,x∈r→x∈l):okN r:=fun x hx=>h x (hs x hx)
theorem ofK_mem{n:GNode}{i:Int}{k:ByteArray}{l:List GDelta}{x:GDelta}:x∈ofK n i k l↔x∈l∧kd n i x=k:=by
 unfold ofK
 rw[List.mem_filter,decide_eq_true_eq]
theorem ofK_push{n:GNode}{i:Int}{k:ByteArray}{a l:List GDelta}{t:Int}(ha:Can a)(hl:okN l)(hal:∀ d,d∈l→aft t d=true):
  cons (ofK n i k (a.filter (aft t))++ofK n i k (cons l))=ofK n i k ((cons (a++l)).filter (aft t)):=by
 have hal':okN (a++l):=fun x hx=>(List.mem_append.1 hx).elim (ha.n64 x) (hl x)
 have hcl:=cons_can hl
 refine cons_eq ((((cons_can hal').filter _)).filter _) (fun x hx=>?_) ?_
 ·rcases List.mem_append.1 hx with hx | hx
  ·exact ha.n64 x (List.mem_filter.1 (ofK_mem.1 hx).1).1
  ·exact hcl.n64 x (ofK_mem.1 hx).1
 ·have h1:Same (ofK n i k ((cons (a++l)).filter (aft t))) (ofK n i k ((a++l).filter (aft t))):=((cons_same (a++l)).aft t).ofK n i k
  have h2:ofK n i k ((a++l).filter (aft t))=ofK n i k (a.filter (aft t))++ofK n i k l:=by
   rw[List.filter_append,List.filter_eq_self.2 hal,ofK_app]
  rw[h2]at h1
  exact h1.trans (Same.app (.refl _) ((cons_same l).ofK n i k).symm)
structure InOk (n:GNode)(i:Int)(a:List GDelta):Prop where
 can:Can a
 ok:okI n i a
 len:a.length≤900
 pos:∀ d,d∈a→1≤d.N∧d.N≤20
structure OInv (n:GNode)(a0 a1:List GDelta)(t:Int)(m:KS):Prop where
 mc:MC m
 look:∀ k,mlook m k=keepS ⟨⟨ofK n 0 k (a0.filter (aft t)),ofK n 1 k (a1.filter (aft t))⟩⟩
theorem keepS_some{s s':GSide}(h:keepS s=some s'):s'=s:=by
 unfold keepS at h; split at h
 ·cases h
 ·cases h; rfl
theorem keepS_getD(s:GSide):(keepS s).getD side0=s:=by
 unfold keepS
 split
 ·rename_i h
  obtain⟨⟨e0,e1⟩⟩:=s
  simp only at h
  have h0:e0=[]:=List.eq_nil_of_length_eq_zero (by omega)
  have h1:e1=[]:=List.eq_nil_of_length_eq_zero (by omega)
  subst h0 h1; rfl
 ·rfl
theorem OInv.okM{n:GNode}{a0 a1:List GDelta}{t:Int}{m:KS}(h:OInv n a0 a1 t m)(h0:InOk n 0 a0)(h1:InOk n 1 a1):okM n m:=by
 refine⟨h.mc,fun k s hs=>?_⟩
 rw[h.look]at hs
 rw[keepS_some hs]
 have f:∀ (i:Int) (a:List GDelta),(ofK n i k (a.filter (aft t))).length≤a.length:=fun i a=>Nat.le_trans (ofK_len _ _ _ _) (List.length_filter_le _ _)
 have l0:=f 0 a0
 have l1:=f 1 a1
 have q0:=h0.len
 have q1:=h1.len
 exact⟨(h0.can.filter _).filter _,(h1.can.filter _).filter _,h0.ok.sub fun x hx=>(List.mem_filter.1 (ofK_mem.1 hx).1).1,h1.ok.sub fun x hx=>(List.mem_filter.1 (ofK_mem.1 hx).1).1,by simp only; omega,by simp only; omega⟩
theorem OInv.push{n:GNode}{a0 a1:List GDelta}{t:Int}{m:KS}(h:OInv n a0 a1 t m)(c0:Can a0)(c1:Can a1){i:Int}(hi:i=0∨i=1){l:List GDelta}(hl:okN l)(hal:∀ d,d∈l→aft t d=true):
  OInv n (if i=0 then cons (two i a0 a1++l) else a0) (if i=0 then a1 else cons (two i a0 a1++l)) t (pushM n i (cons l) m):=by
 refine⟨pushM_mc n i _ h.mc,fun k=>?_⟩
 have e:mlook (pushM n i (cons l) m) k=keepS (updS i ⟨⟨ofK n 0 k (a0.filter (aft t)),ofK n 1 k (a1.filter (aft t))⟩⟩ (ofK n i k (cons l))):=by
  by_cases hk:k∈mkeys (groupM n i (cons l))
  ·rw[pushM_in hk]
   unfold newS
   rw[h.look,keepS_getD]
  ·rw[pushM_out hk,h.look]
   have hn:ofK n i k (cons l)=[]:=by
    refine Classical.byContradiction fun hne=>hk (mkeys_look.2 ⟨ofK n i k (cons l),?_⟩)
    rw[groupM_look,if_neg hne]
   rw[hn]
   congr 1
   unfold updS
   split
   ·rw[List.append_nil,show cons (ofK n 0 k (a0.filter (aft t)))=ofK n 0 k (a0.filter (aft t)) from cons_id (ofK_can (c0.filter _))]
   ·rw[List.append_nil,show cons (ofK n 1 k (a1.filter (aft t)))=ofK n 1 k (a1.filter (aft t)) from cons_id (ofK_can (c1.filter _))]
 rw[e]
 congr 1
 rcases hi with rfl | rfl
 ·unfold updS
  rw[if_pos rfl,if_pos rfl,if_pos rfl,show two 0 a0 a1=a0 from rfl,ofK_push c0 hl hal]
 ·unfold updS
  rw[if_neg (by omega),if_neg (by omega),if_neg (by omega),show two 1 a0 a1=a1 from rfl,ofK_push c1 hl hal]
theorem aft_aft{t t':Int}(h:t≤t')(l:List GDelta):(l.filter (aft t)).filter (aft t')=l.filter (aft t'):=by
 rw[List.filter_filter]
 congr 1
 funext d
 unfold aft
 rw[Bool.eq_iff_iff,Bool.and_eq_true,decide_eq_true_eq,decide_eq_true_eq]
 omega
theorem filter_comm'(p q:GDelta→Bool)(l:List GDelta):(l.filter p).filter q=(l.filter q).filter p:=by
 rw[List.filter_filter,List.filter_filter]
 congr 1
 funext d
 exact Bool.and_comm _ _
theorem OInv.close{n:GNode}{a0 a1:List GDelta}{t t':Int}{m:KS}(h:OInv n a0 a1 t m)(ht:t≤t'):OInv n a0 a1 t' (closeM t' m):=by
 refine⟨closeM_mc _ h.mc,fun k=>?_⟩
 rw[closeM_look,h.look]
 have e:∀ (i:Int) (a:List GDelta),(ofK n i k (a.filter (aft t))).filter (aft t')=ofK n i k (a.filter (aft t')):=by
  intro i a
  unfold ofK
  rw[filter_comm',aft_aft ht]
 have hc:cutS t' ⟨⟨ofK n 0 k (a0.filter (aft t)),ofK n 1 k (a1.filter (aft t))⟩⟩=⟨⟨ofK n 0 k (a0.filter (aft t')),ofK n 1 k (a1.filter (aft t'))⟩⟩:=by
  unfold cutS; simp only[e]
 by_cases hz:(ofK n 0 k (a0.filter (aft t))).length+(ofK n 1 k (a1.filter (aft t))).length=0
 ·have:keepS ⟨⟨ofK n 0 k (a0.filter (aft t)),ofK n 1 k (a1.filter (aft t))⟩⟩=none:=by unfold keepS; rw[if_pos hz]
  rw[this,←hc]
  unfold keepS cutS
  have q0:=List.length_filter_le (aft t') (ofK n 0 k (a0.filter (aft t)))
  have q1:=List.length_filter_le (aft t') (ofK n 1 k (a1.filter (aft t)))
  rw[if_pos (by simp only; omega)]
  rfl
 ·have:keepS ⟨⟨ofK n 0 k (a0.filter (aft t)),ofK n 1 k (a1.filter (aft t))⟩⟩=some ⟨⟨ofK n 0 k (a0.filter (aft t)),ofK n 1 k (a1.filter (aft t))⟩⟩:=by unfold keepS; rw[if_neg hz]
  rw[this,Option.bind_some,hc]
theorem OInv.init(n:GNode)(t:Int):OInv n [] [] t []:=⟨MC_nil,fun k=>rfl⟩
theorem sumK_congr{f g:ByteArray→Int}{ks:List ByteArray}(h:∀ k,k∈ks→f k=g k):sumK f ks=sumK g ks:=by
 induction ks with
 | nil=>rfl
 | cons k ks ih=>simp only[sumK,h k List.mem_cons_self,ih fun k' hk=>h k' (List.mem_cons_of_mem _ hk)]
theorem sumK_add(f g:ByteArray→Int)(ks:List ByteArray):sumK (fun k=>f k+g k) ks=sumK f ks+sumK g ks:=by
 induction ks with
 | nil=>rfl
 | cons k ks ih=>simp only[sumK,ih]; omega
theorem sumK_zero(ks:List ByteArray):sumK (fun _=>0) ks=0:=by
 induction ks with
 | nil=>rfl
 | cons k ks ih=>simp only[sumK,ih]; rfl
theorem sumK_one(q:ByteArray)(v:Int):∀ (ks:List ByteArray),ks.Nodup→q∈ks→sumK (fun k=>if q=k then v else 0) ks=v
 | [],_,h=>by simp at h
 | k::ks,hn,h=>by
  have h1:=List.nodup_cons.1 hn
  simp only[sumK]
  by_cases hq:q=k
  ·subst hq
   rw[if_pos rfl,sumK_congr (f:=fun k=>if q=k then v else 0) (g:=fun _=>0) (fun k' hk'=>if_neg (fun he:q=k'=>h1.1 (he▸hk'))),sumK_zero]; omega
  ·rw[if_neg hq,sumK_one q v ks h1.2 ((List.mem_cons.1 h).resolve_left hq)]; omega
theorem sumK_ofK(p:Pl→Bool)(n:GNode)(i:Int)(ks:List ByteArray)(hn:ks.Nodup):∀ (l:List GDelta),(∀ x,x∈l→kd n i x∈ks)→sumK (fun k=>wt p (ofK n i k l)) ks=wt p l
 | [],_=>by
  refine Eq.trans (sumK_congr (g:=fun _=>0) fun k _=>rfl) (sumK_zero ks)
 | x::l,h=>by
  have ih:=sumK_ofK p n i ks hn l fun y hy=>h y (List.mem_cons_of_mem _ hy)
  have e:∀ k,wt p (ofK n i k (x::l))=(if kd n i x=k then (if p (pl x)=true then x.N else 0) else 0)+wt p (ofK n i k l):=by
   intro k
   unfold ofK
   by_cases hk:kd n i x=k
   ·rw[List.filter_cons_of_pos (p:=fun d=>decide (kd n i d=k)) (decT hk),if_pos hk]; rfl
   ·rw[List.filter_cons_of_neg (p:=fun d=>decide (kd n i d=k)) (decF hk),if_neg hk]; omega
  rw[sumK_congr fun k _=>e k,sumK_add,ih,sumK_one _ _ ks hn (h x List.mem_cons_self)]
  rfl
theorem OInv.key{n:GNode}{a0 a1:List GDelta}{t:Int}{m:KS}(h:OInv n a0 a1 t m){x:GDelta}{k:ByteArray}(hx:x∈ofK n 0 k (a0.filter (aft t))∨x∈ofK n 1 k (a1.filter (aft t))):k∈mkeys m:=by
 refine mkeys_look.2 ⟨⟨⟨ofK n 0 k (a0.filter (aft t)),ofK n 1 k (a1.filter (aft t))⟩⟩,?_⟩
 rw[h.look]
 unfold keepS
 rw[if_neg]
 rcases hx with hx | hx
 ·have:=List.length_pos_of_mem hx; simp only; omega
 ·have:=List.length_pos_of_mem hx; simp only; omega
theorem OInv.rows{n:GNode}{a0 a1:List GDelta}{t:Int}{m:KS}(h:OInv n a0 a1 t m):sumK (cntK m) (mkeys m)=wt all1 (a0.filter (aft t))+wt all1 (a1.filter (aft t)):=by
 have hn:=h.mc.nodup LO.bytes
 have e:∀ k,k∈mkeys m→cntK m k=wt all1 (ofK n 0 k (a0.filter (aft t)))+wt all1 (ofK n 1 k (a1.filter (aft t))):=by
  intro k hk
  obtain⟨s,hs⟩:=mkeys_look.1 hk
  unfold cntK
  rw[hs]
  rw[h.look]at hs
  rw[keepS_some hs]; rfl
 rw[sumK_congr e,sumK_add,sumK_ofK all1 n 0 _ hn _ fun x hx=>h.key (.inl (ofK_mem.2 ⟨hx,rfl⟩)),sumK_ofK all1 n 1 _ hn _ fun x hx=>h.key (.inr (ofK_mem.2 ⟨hx,rfl⟩))]
theorem OInv.empty{n:GNode}{a0 a1:List GDelta}{t:Int}{m:KS}(h:OInv n a0 a1 t m):m=[]↔a0.filter (aft t)=[]∧a1.filter (aft t)=[]:=by
 constructor
 ·intro hm
  subst hm
  constructor
  ·refine List.eq_nil_iff_forall_not_mem.2 fun x hx=>?_
   have:=h.key (k:=kd n 0 x) (.inl (ofK_mem.2 ⟨hx,rfl⟩))
   simp[mkeys]at this
  ·refine List.eq_nil_iff_forall_not_mem.2 fun x hx=>?_
   have:=h.key (k:=kd n 1 x) (.inr (ofK_mem.2 ⟨hx,rfl⟩))
   simp[mkeys]at this
 ·rintro⟨h0,h1⟩
  refine h.mc.ext LO.bytes MC_nil fun k=>?_
  rw[h.look,h0,h1]; rfl
theorem wt_pos:∀ {l:List GDelta},(∀ d,d∈l→1≤d.N∧d.N≤20)→(l.length:Int)≤wt all1 l∧wt all1 l≤20*l.length
 | [],_=>by simp[wt]
 | x::l,h=>by
  have ih:=wt_pos (l:=l) fun d hd=>h d (List.mem_cons_of_mem _ hd)
  have hx:=h x List.mem_cons_self
  simp only[wt,all1,if_true,List.length_cons]at ih ⊢
  omega
def wc(c:Pl→Int):List GDelta→Int
 | []=>0
 | x::l=>x.N*c (pl x)+wc c l
def cA(n:GNode)(R:List GDelta)(p:Pl→Bool)(q:Pl):Int:=wt p (asofA n R ⟨q.1,q.2,1⟩)
theorem wt_flat(p:Pl→Bool)(f:ByteArray→List GDelta)(ks:List ByteArray):wt p (ks.flatMap f)=sumK (fun k=>wt p (f k)) ks:=by
 induction ks with
 | nil=>rfl
 | cons k ks ih=>rw[List.flatMap_cons,wt_app,ih]; rfl
theorem txtB_size2{s:ByteArray}(h:s.size≤1000000000000):(txtB s).size≤s.size+23:=by
 have:=itoaB_size (n:=(s.size:Int)) ⟨by omega,by omega⟩
 unfold txtB
 rw[ByteArray.size_append,ByteArray.size_append,ByteArray.size_append,sz1,sz1]
 omega
theorem G52_eq2{s:ByteArray}(h:s.size≤1000000000000):G52 s=some (txtB s):=by
 have h1:=itoaB_size (n:=(s.size:Int)) ⟨by omega,by omega⟩
 have h2:G117 (s.size:Int)=some (itoaB s.size):=G117_eq ⟨by omega,by omega⟩
 generalize hi:itoaB (s.size:Int)=z at h1 h2
 have e1:(z++(⟨#[58]⟩:ByteArray)).size=z.size+1:=ByteArray.size_append
 have e2:((z++(⟨#[58]⟩:ByteArray))++s).size=z.size+1+s.size:=by rw[ByteArray.size_append,e1]
 unfold G52 T52
 refine(den_ca h2).trans ?_
 refine(den_grd ?_).trans ((den_grd ?_).trans ((den_grd ?_).trans ?_))
 ·rw[sz1]; omega
 ·rw[e1]; omega
 ·rw[e2,sz1]; omega
 ·unfold txtB
  rw[hi]
  rfl
structure okZr (r:List GValue):Prop where
 l:r.length≤12
 v:okVs r
 s:∀ v,v∈r→v.S.size≤1048576
def okZ(l:List GDelta):Prop:=∀ d,d∈l→okZr d.Row
theorem okZ.sub{l r:List GDelta}(h:okZ l)(hs:∀ x,x∈r→x∈l):okZ r:=fun x hx=>h x (hs x hx)
theorem okZ.cons{l:List GDelta}(h:okZ l):okZ (PL.cons l):=fun x hx=>by
 obtain⟨z,hz,e⟩:=cons_mem hx
 have:x.Row=z.Row:=congrArg Prod.snd e
 rw[this]; exact h z hz
theorem okZ.app{l r:List GDelta}(h:okZ l)(h':okZ r):okZ (l++r):=fun x hx=>(List.mem_append.1 hx).elim (h x) (h' x)
theorem okZ.get{l:List GDelta}(h:okZ l)(k:Nat):okZr (l.getD k default).Row:=by
 by_cases hk:k<l.length
 ·exact h _ (getD_mem hk)
 ·rw[List.getD_eq_getElem?_getD,List.getElem?_eq_none (by omega)]
  exact⟨Nat.zero_le _,fun v hv=>(by cases hv),fun v hv=>(by cases hv)⟩
theorem foldB_size2(b:ByteArray):∀ (r:List GValue),okVs r→(∀ v,v∈r→v.S.size≤1048576)→(r.foldl (fun b v=>b++valB v) b).size≤b.size+r.length*1048700
 | [],_,_=>by simp
 | v::r,h,hs=>by
  have h1:=foldB_size2 (b++valB v) r (fun x hx=>h x (List.mem_cons_of_mem _ hx)) fun x hx=>hs x (List.mem_cons_of_mem _ hx)
  have hv:=h v List.mem_cons_self
  have q1:=numB_size hv.k
  have q2:=numB_size hv.n
  have q3:=txtB_size hv.s
  have q4:=hs v List.mem_cons_self
  have h2:(valB v).size≤1048700:=by
   unfold valB
   rw[ByteArray.size_append,ByteArray.size_append]
   omega
  rw[ByteArray.size_append]at h1
  simp only[List.foldl_cons,List.length_cons]
  omega
theorem rowB_size2{r:List GValue}(h:okZr r):(rowB r).size≤12600000:=by
 have h1:=foldB_size2 ((⟨#[]⟩:ByteArray)++numB (r.length:Int)) r h.v h.s
 have h2:=numB_size (n:=(r.length:Int)) ⟨by omega,by have:=h.l; omega⟩
 have h3:=h.l
 rw[ByteArray.size_append,show (⟨#[]⟩:ByteArray).size=0 from rfl]at h1
 have:r.length*1048700≤12*1048700:=Nat.mul_le_mul h3 (Nat.le_refl _)
 unfold rowB
 omega
def rowsOf(i:Int)(m:KS)(k:ByteArray):List GDelta:=match mlook m k with | some s=>two i s.rows_.e0 s.rows_.e1 | none=>[]
theorem pushOut_ok{n:GNode}{i:Int}{l:List GDelta}{m:KS}(hi:i=0∨i=1)(hl:okI n i l)(hm:okM n m)(hlen:l.length≤1000):
  okD ((mkeys (groupM n i l)).flatMap (pushO n i l m))∧((mkeys (groupM n i l)).flatMap (pushO n i l m)).length≤l.length*100000000:=by
 have hbig:∀ k,(pushO n i l m k).length≤100000000:=fun k=>chgF_len (hm.get k) (Nat.le_trans (ofK_len n i k l) (by omega))
 have hokO:∀ k,okD (pushO n i l m k):=fun k=>chgF_ok hi (ofK_okI hl) (hm.get k)
 refine⟨⟨fun x hx=>?_,fun x hx=>?_⟩,?_⟩
 ·obtain⟨a,ha,hx⟩:=List.mem_flatMap.1 hx
  exact(hokO a).r x hx
 ·obtain⟨a,ha,hx⟩:=List.mem_flatMap.1 hx
  exact(hokO a).n x hx
 ·refine Nat.le_trans (flatMapK_len hbig _) (Nat.mul_le_mul ?_ (Nat.le_refl _))
  rw[mkeys,List.length_map]
  exact groupM_len n i l
theorem okZ_act{ta tb:List Int}{n:GNode}(hR:RightN n ta tb){l:List GDelta}(h:okL 40 okGDelta l){i:Int}(hF:∀ d,d∈l→d.Row.length=(two i ta tb).length):okZ l:=by
 intro d hd
 have hl:=hF d hd
 have h1:=(h.2 d hd).2.1.2
 refine⟨?_,fun v hv=>?_,fun v hv=>(h1 v hv).2.2⟩
 ·have:=hR.la
  have:=hR.lb
  rw[hl]
  unfold two; split <;> omega
 ·have:=h1 v hv
  exact⟨this.1,this.2.1,Nat.le_trans this.2.2 (by omega)⟩
theorem aft_neg{n:GNode}{i:Int}{a:List GDelta}(h:okI n i a):∀ d,d∈a→aft (-1) d=true:=fun d hd=>decT (by have:=(h.t d hd).1; omega)
theorem aft_all{n:GNode}{i:Int}{a:List GDelta}(h:okI n i a):a.filter (aft (-1))=a:=List.filter_eq_self.2 (aft_neg h)
theorem rowsOf_eq{n:GNode}{A B:List GDelta}{m:KS}(h:OInv n A B (-1) m)(hA:okI n 0 A)(hB:okI n 1 B){i:Int}(hi:i=0∨i=1){k:ByteArray}(hk:k∈mkeys m):rowsOf i m k=ofK n i k (two i A B):=by
 obtain⟨s,hs⟩:=mkeys_look.1 hk
 unfold rowsOf
 rw[hs]
 rw[h.look]at hs
 rw[keepS_some hs]
 rcases hi with rfl | rfl
 ·show ofK n 0 k (A.filter (aft (-1)))=ofK n 0 k A
  rw[aft_all hA]
 ·show ofK n 1 k (B.filter (aft (-1)))=ofK n 1 k B
  rw[aft_all hB]
theorem keys_all{n:GNode}{A B:List GDelta}{m:KS}(h:OInv n A B (-1) m)(hA:okI n 0 A)(hB:okI n 1 B){i:Int}(hi:i=0∨i=1){x:GDelta}(hx:x∈two i A B):kd n i x∈mkeys m:=by
 rcases hi with rfl | rfl
 ·exact h.key (.inl (ofK_mem.2 ⟨by rw[aft_all hA]; exact hx,rfl⟩))
 ·exact h.key (.inr (ofK_mem.2 ⟨by rw[aft_all hB]; exact hx,rfl⟩))
def bl(b:ByteArray):List UInt8:=b.data.toList
theorem bl_app(a b:ByteArray):bl (a++b)=bl a++bl b:=by
 unfold bl; rw[ByteArray.data_append,Array.toList_append]
theorem bl_inj{a b:ByteArray}(h:bl a=bl b):a=b:=by
 cases a; cases b; simp[bl]at h; simp[h]
theorem dig_toNat{d:Nat}(h:d<10):(UInt8.ofNat (48+d)).toNat=48+d:=by
 rw[UInt8.toNat_ofNat']; omega
def decV(l:List UInt8):Nat:=l.foldl (fun a b=>a*10+(b.toNat-48)) 0
theorem decV_dig(u:Nat):decV (Lib.decDigits u)=u:=by
 induction u using Nat.strongRecOn with
 | _ u ih=>
  by_cases h:u<10
  ·rw[Lib.decDigits,dif_pos h]
   simp only[decV,List.foldl_cons,List.foldl_nil]
   rw[dig_toNat h]; omega
  ·rw[Lib.decDigits,dif_neg h]
   have:=ih (u / 10) (by omega)
   unfold decV at this ⊢
   rw[List.foldl_append,this]
   simp only[List.foldl_cons,List.foldl_nil]
   rw[dig_toNat (by omega)]; omega
theorem dig_mem(u:Nat):∀ b,b∈Lib.decDigits u→48≤b.toNat∧b.toNat≤57:=by
 induction u using Nat.strongRecOn with
 | _ u ih=>
  intro b hb
  by_cases h:u<10
  ·rw[Lib.decDigits,dif_pos h,List.mem_singleton]at hb
   rw[hb,dig_toNat h]; omega
  ·rw[Lib.decDigits,dif_neg h,List.mem_append,List.mem_singleton]at hb
   rcases hb with hb | rfl
   ·exact ih (u / 10) (by omega) b hb
   ·rw[dig_toNat (by omega)]; omega
theorem itoa_mem(n:Int):∀ b,b∈Lib.itoa n→b.toNat=45∨(48≤b.toNat∧b.toNat≤57):=by
 intro b hb
 unfold Lib.itoa at hb
 split at hb
 ·rcases List.mem_cons.1 hb with rfl | hb
  ·exact .inl rfl
  ·exact .inr (dig_mem _ b hb)
 ·exact .inr (dig_mem _ b hb)
theorem itoa_no(n:Int){c:UInt8}(h:58≤c.toNat):∀ b,b∈Lib.itoa n→b≠c:=by
 rintro b hb rfl
 have:=itoa_mem n b hb
 omega
theorem bl_itoa(n:Int):bl (itoaB n)=Lib.itoa n:=rfl
theorem bl_num(n:Int):bl (numB n)=Lib.itoa n++[59]:=by unfold numB; rw[bl_app,bl_itoa]; rfl
theorem bl_txt(s:ByteArray):bl (txtB s)=Lib.itoa s.size++58::(bl s++[44]):=by
 unfold txtB
 rw[bl_app,bl_app,bl_app,bl_itoa]
 simp[bl]
theorem bl_fold(b:ByteArray):∀ r:List GValue,bl (r.foldl (fun b v=>b++valB v) b)=bl b++r.flatMap (fun v=>bl (valB v))
 | []=>by simp
 | v::r=>by rw[List.foldl_cons,bl_fold,bl_app,List.flatMap_cons,List.append_assoc]
theorem bl_row(r:List GValue):bl (rowB r)=bl (numB r.length)++r.flatMap (fun v=>bl (valB v)):=by
 unfold rowB
 rw[bl_fold,bl_app]; rfl
def decS(a:Nat)(b:UInt8):Nat:=a*10+(b.toNat-48)
theorem decS_ge:∀ (l:List UInt8) (a:Nat),a≤l.foldl decS a
 | [],a=>Nat.le_refl _
 | b::l,a=>by
  rw[List.foldl_cons]
  refine Nat.le_trans ?_ (decS_ge l _)
  unfold decS; omega
theorem parseU_ok:∀ (l:List UInt8) (a:Nat),(∀ b,b∈l→48≤b.toNat∧b.toNat≤57)→l.foldl decS a<18446744073709551616→Lib.parseUint10 a l = .ok (l.foldl decS a)
 | [],a,_,_=>rfl
 | b::l,a,h,hl=>by
  have h0:=h b List.mem_cons_self
  rw[List.foldl_cons]at hl ⊢
  have h1:=decS_ge l (decS a b)
  have e:a*10+(b.toNat-48)=decS a b:=rfl
  unfold Lib.parseUint10
  rw[if_pos h0,if_neg (by omega),if_neg (by omega),e]
  exact parseU_ok l _ (fun c hc=>h c (List.mem_cons_of_mem _ hc)) hl
theorem decDig_ne(u:Nat):Lib.decDigits u≠[]:=by
 unfold Lib.decDigits
 split
 ·simp
 ·simp
theorem parseMag_dig(u:Nat)(h:u<18446744073709551616):Lib.parseMag (Lib.decDigits u) = .ok u:=by
 unfold Lib.parseMag
 rw[if_neg (decDig_ne u)]
 have e:(Lib.decDigits u).foldl decS 0=u:=decV_dig u
 rw[parseU_ok _ 0 (dig_mem u) (by rw[e]; exact h),e]
theorem atoi_itoa{n:Int}(h:in64 n):Lib.atoiAll (Lib.itoa n) = .ok n:=by
 obtain⟨h1,h2⟩:=h
 unfold Lib.itoa
 split
 ·rename_i hn
  unfold Lib.atoiAll
  have e:(45:UInt8).toNat=45:=rfl
  simp only[e,or_true,if_true]
  rw[parseMag_dig _ (by omega)]
  simp only[not_true_eq_false,false_and,if_false,true_and]
  rw[if_neg (by omega)]
  congr 1; omega
 ·rename_i hn
  have hm:=parseMag_dig n.toNat (by omega)
  have hd:=dig_mem n.toNat
  generalize hl:Lib.decDigits n.toNat=l at hm hd
  cases l with
  | nil=>exact absurd hl (decDig_ne _)
  | cons c r=>
   have hc:=hd c List.mem_cons_self
   unfold Lib.atoiAll
   simp only
   rw[if_neg (by omega),hm]
   have e:¬ (c.toNat=45):=by omega
   simp only[e,not_false_eq_true,true_and,if_false,false_and]
   rw[if_neg (by omega)]
   congr 1; omega
theorem nDig_le:∀ (k u:Nat),u<10 ^ (k+1)→Lib.nDigits u≤k+1
 | 0,u,h=>by
  rw[Lib.nDigits_small (by simpa using h)]; exact Nat.le_refl _
 | k+1,u,h=>by
  unfold Lib.nDigits
  split
  ·omega
  ·have:=nDig_le k (u / 10) (by rw[Nat.pow_succ]at h; omega)
   omega
theorem itoa_len{n:Int}(h:in64 n):(Lib.itoa n).length≤20:=by
 obtain⟨h1,h2⟩:=h
 have hk:∀ u:Nat,u≤9223372036854775808→(Lib.decDigits u).length≤19:=fun u hu=>by
  rw[Lib.decDigits_length]
  exact nDig_le 18 u (by omega)
 unfold Lib.itoa
 split
 ·have:=hk n.natAbs (by omega)
  rw[List.length_cons]; omega
 ·have:=hk n.toNat (by omega)
  omega
theorem indexByte_app{c:UInt8}:∀ (l t:List UInt8),(∀ b,b∈l→b≠c)→Lib.indexByte (l++c::t) c=(l.length:Int)
 | [],t,_=>by simp[Lib.indexByte]
 | b::l,t,h=>by
  have h1:=indexByte_app l t fun x hx=>h x (List.mem_cons_of_mem _ hx)
  have h2:(b==c)=false:=by simpa using h b List.mem_cons_self
  rw[List.cons_append]
  unfold Lib.indexByte
  rw[h2,h1]
  have h3:((l.length:Int) == -1)=false:=by
   rw[beq_eq_false_iff_ne]; omega
  simp only[h3,Bool.false_eq_true,if_false,List.length_cons]
  omega
theorem bl_ext(s:ByteArray)(a b:Nat):bl (s.extract a b)=((bl s).take b).drop a:=by
 unfold bl
 rw[ByteArray.data_extract,Array.toList_extract]
 simp[List.drop_take]
theorem bl_len(s:ByteArray):(bl s).length=s.size:=by
 unfold bl; rw[Array.length_toList]; rfl
theorem G54s0_eq(i:Int)(n:GNode)(cl:Int)(m:KS)(hi:i=0∨i=1)(hm:MC m){a:List GDelta}(hc:Can a)(ho:okD a)(hp:∀ d,d∈a→1≤d.N∧d.N≤20)(hl:a.length≤900)
  (hk:∀ k,k∈mkeys m→rowsOf i m k=ofK n i k a)(hall:∀ x,x∈a→kd n i x∈mkeys m):G54s0 i n cl m=some (a,m):=by
 have hnd:=hm.nodup LO.bytes
 have bnd:∀ done rest:List ByteArray,(done++rest).Perm (mkeys m)→(∀ d,d∈done.flatMap (rowsOf i m)→d∈a)∧wt all1 (done.flatMap (rowsOf i m))+wt all1 (rest.flatMap (rowsOf i m))=wt all1 a∧(done.flatMap (rowsOf i m)).length≤18000:=by
  intro done rest hpm
  have hmem:∀ ks:List ByteArray,(∀ k,k∈ks→k∈mkeys m)→∀ d,d∈ks.flatMap (rowsOf i m)→d∈a:=by
   intro ks hks d hd
   obtain⟨k,hk1,hk2⟩:=List.mem_flatMap.1 hd
   rw[hk k (hks k hk1)]at hk2
   exact(ofK_mem.1 hk2).1
  have m1:=hmem done fun k hk=>hpm.mem_iff.1 (List.mem_append_left _ hk)
  have m2:=hmem rest fun k hk=>hpm.mem_iff.1 (List.mem_append_right _ hk)
  have tot:wt all1 ((mkeys m).flatMap (rowsOf i m))=wt all1 a:=by
   rw[wt_flat,sumK_congr fun k hk'=>by rw[hk k hk']]
   exact sumK_ofK all1 n i _ hnd a hall
  have e:wt all1 (done.flatMap (rowsOf i m))+wt all1 (rest.flatMap (rowsOf i m))=wt all1 a:=by
   rw[←tot,←wt_app,←List.flatMap_append]
   exact wt_perm _ (flatMap_perm (rowsOf i m) hpm)
  refine⟨m1,e,?_⟩
  have w1:=wt_pos (l:=done.flatMap (rowsOf i m)) fun d hd=>hp d (m1 d hd)
  have w2:=wt_pos (l:=rest.flatMap (rowsOf i m)) fun d hd=>hp d (m2 d hd)
  have w3:=wt_pos hp
  omega
 unfold G54s0
 refine Det.eq ?_
 unfold T54s0
 simp only[Tr.wpT]
 refine loopWp (fun s:List ByteArray×KS×List GDelta=>s.2.1=m∧s.1.Nodup∧∃ done,(done++s.1).Perm (mkeys m)∧s.2.2=done.flatMap (rowsOf i m)) (fun s=>s.1.length) (fun s hs=>?_) (s:=(mkeys m,m,[])) ⟨rfl,hnd,[],.refl _,rfl⟩
 obtain⟨rem,m',acc⟩:=s
 obtain⟨e,h1,done,h2,h3⟩:=hs
 simp only at e h1 h2 h3
 subst e h3
 obtain⟨q1,q2,q3⟩:=bnd done rem h2
 unfold T54s0_L0
 simp only[Tr.wpT]
 refine⟨fun hr=>?_,fun k c hk' hc'=>?_,fun hr=>?_⟩
 ·subst hr
  simp only[sel]
  rw[List.append_nil]at h2
  have hs:Same a (done.flatMap (rowsOf i m')):=fun p=>by
   have:wt p (done.flatMap (rowsOf i m'))=wt p a:=by
    rw[wt_perm p (flatMap_perm (rowsOf i m') h2),wt_flat,sumK_congr fun k hk'=>by rw[hk k hk']]
    exact sumK_ofK p n i _ hnd a hall
   rw[this]
  have okd:okD (done.flatMap (rowsOf i m')):=ho.sub q1
  exact⟨_,G27_eq _ okd.r okd.n (by omega),by rw[cons_eq hc okd.n hs]⟩
 ·have hkm:k∈mkeys m':=h2.mem_iff.1 (List.mem_append_right _ hk')
  have hrow:rowsOf i m' k=two i c.rows_.e0 c.rows_.e1:=by unfold rowsOf; rw[hc']
  have hp2:=kerase_perm hk'
  have h2':((done++[k])++kerase rem k).Perm (mkeys m'):=by
   rw[List.append_assoc]
   exact((List.Perm.append_left done hp2).symm).trans h2
  obtain⟨r1,r2,r3⟩:=bnd (done++[k]) (kerase rem k) h2'
  rw[List.flatMap_append,List.length_append]at r3
  simp only[List.flatMap_cons,List.flatMap_nil,List.append_nil]at r3
  rw[hrow]at r3
  have fin:(fun s':List ByteArray×KS×List GDelta=>(s'.2.1=m'∧s'.1.Nodup∧∃ done,(done++s'.1).Perm (mkeys m')∧s'.2.2=done.flatMap (rowsOf i m'))∧s'.1.length<rem.length) (kerase rem k,mput m' k c,done.flatMap (rowsOf i m')++two i c.rows_.e0 c.rows_.e1):=by
   refine⟨⟨mput_self LO.bytes hm hc',kerase_nodup h1 k,done++[k],h2',?_⟩,kerase_len hk'⟩
   rw[List.flatMap_append]
   simp only[List.flatMap_cons,List.flatMap_nil,List.append_nil]
   rw[hrow]
  rcases hi with rfl | rfl
  ·rw[show two 0 c.rows_.e0 c.rows_.e1=c.rows_.e0 from rfl]at r3 fin
   rw[if_pos rfl]
   exact⟨by omega,fin⟩
  ·rw[show two 1 c.rows_.e0 c.rows_.e1=c.rows_.e1 from rfl]at r3 fin
   rw[if_neg (by omega),if_pos rfl]
   exact⟨by omega,fin⟩
 ·obtain⟨k,rest,rfl⟩:=List.exists_cons_of_ne_nil hr
  have hkm:k∈mkeys m':=h2.mem_iff.1 (List.mem_append_right _ List.mem_cons_self)
  obtain⟨c,hc⟩:=mkeys_look.1 hkm
  exact⟨k,c,List.mem_cons_self,hc⟩
def mkB(l:List UInt8):ByteArray:=⟨l.toArray⟩
theorem bl_mk(l:List UInt8):bl (mkB l)=l:=by unfold bl mkB; simp
theorem mk_of{b:ByteArray}{l:List UInt8}(h:bl b=l):b=mkB l:=bl_inj (by rw[h,bl_mk])
theorem tl_self(b:ByteArray):(!(b.toList==b.toList))=false:=by simp
theorem tl_self'(b:ByteArray):(b.toList==b.toList)=true:=by simp
theorem take_mark(l:List UInt8)(c:UInt8)(t:List UInt8)(k:Nat)(h:l.length<k):(l++c::t).take k=l++c::t.take (k-l.length-1):=by
 rw[List.take_append,List.take_of_length_le (by omega)]
 obtain⟨q,hq⟩:∃ q,k-l.length=q+1:=⟨k-l.length-1,by omega⟩
 rw[hq,List.take_succ_cons]; rfl
theorem G134_eq{n lo:Int}{c:UInt8}{rb:ByteArray}{t:List UInt8}(hn:in64 n)(hlo:lo≤n)(hc:58≤c.toNat)(hr:bl rb=Lib.itoa n++c::t)(hsz:rb.size≤100000000000):
  G134s0 (c.toNat:Int) lo ⟨rb,false⟩=some (n,mkB t):=by
 have hL:=itoa_len hn
 have hS:rb.size=(Lib.itoa n).length+1+t.length:=by
  rw[←bl_len,hr,List.length_append,List.length_cons]; omega
 obtain⟨hd,hhd⟩:∃ hd,rb.extract (0:Int).toNat (if (21:Int)<((rb:ByteArray).size:Int) then (21:Int) else ((rb:ByteArray).size:Int)).toNat=hd:=⟨_,rfl⟩
 have hm:(if (21:Int)<((rb:ByteArray).size:Int) then (21:Int) else ((rb:ByteArray).size:Int)).toNat=min 21 rb.size:=by split <;> omega
 have hm0:0≤(if (21:Int)<((rb:ByteArray).size:Int) then (21:Int) else ((rb:ByteArray).size:Int))∧(if (21:Int)<((rb:ByteArray).size:Int) then (21:Int) else ((rb:ByteArray).size:Int))≤(rb.size:Int):=by split <;> omega
 have hbl:bl hd=Lib.itoa n++c::t.take (min 21 rb.size-(Lib.itoa n).length-1):=by
  rw[←hhd,bl_ext,hr,hm,take_mark _ _ _ _ (by omega)]; rfl
 have hdl:(hd.size:Int)≥(Lib.itoa n).length:=by rw[←bl_len,hbl,List.length_append]; omega
 have e1:G178 hd (c.toNat:Int)=some ((Lib.itoa n).length:Int):=by
  unfold G178
  rw[show hd.data.toList=bl hd from rfl,hbl,show ((c.toNat:Int)).toNat.toUInt8=c by simp,indexByte_app _ _ (itoa_no n hc)]
 have e2:hd.extract (0:Int).toNat ((Lib.itoa n).length:Int).toNat=itoaB n:=bl_inj (by
  rw[bl_ext,hbl,bl_itoa,Int.toNat_natCast,List.take_left]; rfl)
 have e3:G179 (itoaB n)=some n:=by
  unfold G179
  rw[show (itoaB n).data.toList=Lib.itoa n from rfl,atoi_itoa hn]
  simp only
  rw[if_pos (by have:=itoaB_size hn; omega)]
 have e5:rb.extract (IntKind.i64.wrap (((Lib.itoa n).length:Int)+1)).toNat ((rb:ByteArray).size:Int).toNat=mkB t:=mk_of (by
  rw[bl_ext,hr,wrap_inc (by omega),Int.toNat_natCast,List.take_of_length_le (by rw[←hr,bl_len]; omega)]
  simp[List.drop_append])
 unfold G134s0 T134s0
 simp only[Tr.den,hhd,e1,e2,e3,G117_eq hn,Option.bind_some,tl_self]
 rw[if_pos ⟨by omega,hm0.1,hm0.2⟩,if_neg (decF (by omega)),if_pos ⟨by omega,by omega,by omega⟩,if_pos ⟨by omega,by omega,by omega⟩]
 simp only[Bool.false_eq_true,if_false,Option.bind_some]
 rw[if_neg (decF (by omega)),if_pos ⟨by rw[wrap_inc (by omega)]; omega,by rw[wrap_inc (by omega)]; omega,by omega⟩,e5]
theorem G66_eq{n:Int}{rb:ByteArray}{t:List UInt8}(hn:in64 n)(hr:bl rb=bl (numB n)++t)(hsz:rb.size≤100000000000):G66s0 ⟨rb,false⟩=some (n,mkB t):=by
 unfold G66s0 T66s0
 simp only[Tr.den]
 rw[show (59:Int)=((59:UInt8).toNat:Int) from rfl,G134_eq (t:=t) hn hn.1 (by decide) (by rw[hr,bl_num]; simp) hsz]
 rfl
theorem G135_eq{n:Int}{rb:ByteArray}{t:List UInt8}(hn:in64 n)(h0:0≤n)(hr:bl rb=bl (numB n)++t)(hsz:rb.size≤100000000000):G135s0 ⟨rb,false⟩=some (n,mkB t):=by
 unfold G135s0 T135s0
 simp only[Tr.den]
 rw[show (59:Int)=((59:UInt8).toNat:Int) from rfl,G134_eq (t:=t) hn h0 (by decide) (by rw[hr,bl_num]; simp) hsz]
 rfl
theorem G139_eq{p a:ByteArray}{b:Bool}{t:List UInt8}(h:bl a=bl p++t):G139s0 p ⟨a,b⟩=some (mkB t):=by
 have hS:a.size=p.size+t.length:=by rw[←bl_len,h,List.length_append,bl_len]
 have e1:a.extract (0:Int).toNat ((p:ByteArray).size:Int).toNat=p:=bl_inj (by
  rw[bl_ext,h,Int.toNat_natCast,←bl_len,List.take_left]; rfl)
 have e2:a.extract (((p:ByteArray).size:Int):Int).toNat (a.size:Int).toNat=mkB t:=mk_of (by
  rw[bl_ext,h,Int.toNat_natCast,Int.toNat_natCast,List.take_of_length_le (by rw[List.length_append,bl_len]; omega),←bl_len p,List.drop_left])
 have h1:G218 a p=some true:=by
  unfold G218 T218
  simp only[Tr.den,e1,tl_self']
  rw[if_pos (decT (by omega)),if_pos ⟨by omega,by omega,by omega⟩]
  rfl
 have h2:G199 a p=some (mkB t,true):=by
  unfold G199 T199
  simp only[Tr.den,h1,Option.bind_some,Bool.not_true,Bool.false_eq_true,if_false]
  rw[if_pos ⟨by omega,by omega,by omega⟩,e2]
 have h3:G182 a p=some (mkB t,true):=by
  unfold G182 T182
  simp only[Tr.den,h2,Option.bind_some]
 unfold G139s0 T139s0
 simp only[Tr.den,h3,Option.bind_some,Bool.not_true,Bool.false_eq_true,if_false]
theorem G68_eq{s:ByteArray}{rb:ByteArray}{t:List UInt8}(hs:s.size≤100000000000)(hr:bl rb=bl (txtB s)++t)(hsz:rb.size≤100000000000):G68s0 ⟨rb,false⟩=some (s,mkB t):=by
 have hr':bl rb=Lib.itoa (s.size:Int)++(58:UInt8)::(bl s++44::t):=by rw[hr,bl_txt]; simp
 have h1:=G134_eq (n:=(s.size:Int)) (lo:=0) (c:=58) ⟨by omega,by omega⟩ (by omega) (by decide) hr' hsz
 rw[show ((58:UInt8).toNat:Int)=58 from rfl]at h1
 obtain⟨q,hq⟩:∃ q,mkB (bl s++44::t)=q:=⟨_,rfl⟩
 rw[hq]at h1
 have hbq:bl q=bl s++44::t:=by rw[←hq,bl_mk]
 have hS:q.size=s.size+1+t.length:=by rw[←bl_len,hbq,List.length_append,List.length_cons,bl_len]; omega
 have e1:bl (q.extract ((s.size:Int):Int).toNat (q.size:Int).toNat)=bl (⟨#[44]⟩:ByteArray)++t:=by
  rw[bl_ext,hbq,Int.toNat_natCast,Int.toNat_natCast,List.take_of_length_le (by rw[←hbq,bl_len]; omega),←bl_len s,List.drop_left]; rfl
 have e2:q.extract (0:Int).toNat ((s.size:Int)).toNat=s:=bl_inj (by rw[bl_ext,hbq,Int.toNat_natCast,←bl_len,List.take_left]; rfl)
 unfold G68s0 T68s0
 simp only[Tr.den,h1,Option.bind_some]
 rw[if_neg (decF (by omega)),if_pos ⟨by omega,by omega,by omega⟩,if_pos ⟨by omega,by omega,by omega⟩,G139_eq e1]
 simp only[Option.bind_some,Bool.false_eq_true,if_false,e2]
theorem G181_eq{v:GValue}{rb:ByteArray}{t:List UInt8}(hv:okV v)(hr:bl rb=bl (valB v)++t)(hsz:rb.size≤100000000000):G181s0 ⟨rb,false⟩=some (v,mkB t):=by
 have hlen:=congrArg List.length hr
 unfold valB at hr
 rw[bl_app,bl_app,List.append_assoc,List.append_assoc]at hr
 have hl1:=congrArg List.length hr
 rw[bl_len,List.length_append,List.length_append]at hl1
 unfold G181s0 T181s0
 simp only[Tr.den]
 rw[G66_eq hv.k hr hsz]
 simp only[Option.bind_some]
 rw[G66_eq hv.n (bl_mk _) (by rw[←bl_len,bl_mk,List.length_append]; omega)]
 simp only[Option.bind_some]
 rw[G68_eq (by have:=hv.s; omega) (bl_mk _) (by rw[←bl_len,bl_mk]; omega)]
 rfl
theorem G71_eq:G71s0 ⟨mkB [],false⟩=some true:=by
 unfold G71s0 T71s0
 simp only[Tr.den,Bool.not_false,if_true,Option.bind_some]
 exact congrArg some (tl_self' _)
theorem valB_pos(v:GValue):0<(bl (valB v)).length:=by
 unfold valB numB
 rw[bl_app,bl_app,bl_app,List.length_append,List.length_append,List.length_append]
 have:(bl (⟨#[59]⟩:ByteArray)).length=1:=rfl
 omega
def valsL(r:List GValue):List UInt8:=r.flatMap fun v=>bl (valB v)
theorem valsL_cons(v:GValue)(r:List GValue):valsL (v::r)=bl (valB v)++valsL r:=rfl
theorem valsL_drop_len(r:List GValue):∀ i,(valsL (r.drop i)).length≤(valsL r).length
 | 0=>Nat.le_refl _
 | i+1=>by
  cases r with
  | nil=>simp
  | cons v r=>
   rw[List.drop_succ_cons,valsL_cons,List.length_append]
   have:=valsL_drop_len r i
   omega
theorem G136_eq{r:List GValue}(hv:okVs r)(hl:r.length≤1000)(hsz:(rowB r).size≤100000000000):G136 (rowB r)=some (r,true):=by
 have hb:bl (rowB r)=bl (numB (r.length:Int))++valsL r:=bl_row r
 have hl1:=congrArg List.length hb
 rw[bl_len,List.length_append]at hl1
 have h65:G65s0 (rowB r)=some ⟨rowB r,false⟩:=rfl
 unfold G136 T136
 simp only[Tr.den,h65,Option.bind_some]
 rw[G135_eq ⟨by omega,by omega⟩ (by omega) hb hsz]
 simp only[Option.bind_some]
 have key:whileM (fun s=>(T136_L0 ⟨rowB r,false⟩ s).den) (mkB (valsL r),([]:List GValue),(r.length:Int))=some (.inl (mkB [],r)):=by
  have:=while_trace (bd:=fun s=>(T136_L0 ⟨rowB r,false⟩ s).den) (fun i=>(mkB (valsL (r.drop i)),r.take i,((r.length-i:Nat):Int))) r.length (r:=.inl (mkB [],r)) (fun i hi=>?_) ?_
  ·simpa using this
  ·have hd:r.drop i=r.getD i default::r.drop (i+1):=by
    rw[List.drop_eq_getElem_cons hi]
    simp[List.getD_eq_getElem?_getD,hi]
   have hq:bl (mkB (valsL (r.drop i)))=bl (valB (r.getD i default))++valsL (r.drop (i+1)):=by rw[bl_mk,hd,valsL_cons]
   have hz:(mkB (valsL (r.drop i))).size≤100000000000:=by
    rw[←bl_len,bl_mk]
    have:=valsL_drop_len r i
    omega
   have hp:0<(mkB (valsL (r.drop i))).size:=by
    rw[←bl_len,hq,List.length_append]
    have:=valB_pos (r.getD i default)
    omega
   have ht:r.take i++[r.getD i default]=r.take (i+1):=by
    rw[List.take_succ_eq_append_getElem hi]
    simp[List.getD_eq_getElem?_getD,hi]
   have h180:G180s0 ⟨mkB (valsL (r.drop i)),false⟩=some ((mkB (valsL (r.drop i))).size:Int):=rfl
   unfold T136_L0
   simp only[Tr.den,h180,Option.bind_some]
   rw[if_pos (decT (by omega)),if_neg (by rw[beq_iff_eq]; omega),G181_eq (hv _ (getD_mem hi)) hq hz]
   simp only[Option.bind_some]
   rw[if_pos (by simp only[List.length_take,List.length_cons,List.length_nil]; omega),ht]
   congr 4
   rw[wrap_id (by omega) (by omega)]
   omega
  ·unfold T136_L0
   simp only[Tr.den]
   rw[if_neg (decF (by omega))]
   simp[valsL]
 rw[key]
 simp only[sel,Option.bind_some,G71_eq,Bool.not_true,Bool.false_eq_true,if_false]
theorem w8{n:Int}(h0:0≤n)(h1:n≤255):IntKind.u8.wrap n=n:=by
 simp only[IntKind.wrap,IntKind.bits,IntKind.signed]
 simp
 omega
theorem bstr1(x:Int):bstr (([x]:List Int)).length (eF cU8 ([x]:List Int))=⟨#[UInt8.ofNat x.toNat]⟩:=rfl
def digB(u:Nat):ByteArray:=⟨(Lib.decDigits u).toArray⟩
theorem digB_size(u:Nat)(h:u≤9223372036854775808):(digB u).size≤21:=by
 have h1:=Lib.itoa_length_le (-(u:Int)) (by omega) (by omega)
 show (Lib.decDigits u).toArray.size≤21
 rw[List.size_toArray]
 by_cases hu:u=0
 ·subst hu; rw[Lib.decDigits,dif_pos (by decide)]; decide
 ·rw[Lib.itoa_neg u (by omega)]at h1
  simp only[List.length_cons]at h1; omega
theorem G122_sq(b:Bool)(n:Int)(h:n≤0 ∧ -9223372036854775808≤n):Sq b (G122 n) (fun d=>d=digB n.natAbs):=by
 refine fixF_sq (C:=fun (a:Int) (x:Option (ByteArray))=>Con Proofs.Tryz.prog 153 [.t (.int .i64 (a))] x (fun (y:ByteArray)=>.t (.str (y)))) (fun a=>⟨callable_of Proofs.Tryz.func153 (by kernel_rfl),fun _ h=>nomatch h⟩) (fun rec a=>T122 rec a) (fun rec a=>T122_ok rec a)
  (fun n=>n≤0 ∧ -9223372036854775808≤n) (fun n=>n.natAbs) (fun n d=>d=digB n.natAbs) (fun b f n hn hrec=>?_) b n h
 obtain⟨u,rfl⟩:∃ u:Nat,n = -(u:Int):=⟨n.natAbs,by omega⟩
 have hu:u≤9223372036854775808:=by omega
 have e1:Int.tmod (-(u:Int)) 10 = -((u % 10:Nat):Int):=by rw[Int.neg_tmod]; rfl
 have e2:Int.tdiv (-(u:Int)) 10 = -((u / 10:Nat):Int):=by rw[Int.neg_tdiv]; rfl
 have e3:IntKind.u8.wrap (IntKind.i64.wrap (48-Int.tmod (-(u:Int)) 10))=((48+u % 10:Nat):Int):=by
  rw[e1,wrap_id (by omega) (by omega),w8 (by omega) (by omega)]; omega
 have e4:IntKind.i64.wrap (Int.tdiv (-(u:Int)) 10) = -((u / 10:Nat):Int):=by rw[e2,wrap_id (by omega) (by omega)]
 have ea:(-(u:Int)).natAbs=u:=by omega
 unfold T122
 simp only[Tr.den]
 rw[e3,e4,bstr1,Int.toNat_natCast,ea]
 by_cases hs:u<10
 ·rw[if_pos (decT (by omega))]
  refine sq_some.2 ?_
  unfold digB
  rw[Lib.decDigits,dif_pos hs,Nat.mod_eq_of_lt hs]
 ·rw[if_neg (decF (by omega))]
  refine Sq.bind _ (hrec _ ⟨by omega,by omega⟩ (by rw[ea]; omega)) fun r hr=>?_
  subst hr
  rw[show (-((u / 10:Nat):Int)).natAbs=u / 10 by omega]
  have hz:=digB_size (u / 10) (by omega)
  rw[if_pos (by rw[sz1]; omega)]
  refine sq_some.2 (bl_inj ?_)
  rw[bl_app]
  show Lib.decDigits (u / 10)++[UInt8.ofNat (48+u % 10)]=Lib.decDigits u
  rw[Lib.decDigits.eq_1 u,dif_neg hs]
theorem G122_eq(u:Nat)(h:u≤9223372036854775808):G122 (-(u:Int))=some (digB u):=by
 have:=Sp.eq (G122_sq true (-(u:Int)) ⟨by omega,by omega⟩)
 rw[show (-(u:Int)).natAbs=u by omega]at this
 exact this
theorem itoaB_pos(u:Nat):itoaB (u:Int)=digB u:=by unfold itoaB digB; rw[Lib.itoa_nonneg]
theorem itoaB_neg(u:Nat)(h:1≤u):itoaB (-(u:Int))=(⟨#[45]⟩:ByteArray)++digB u:=by
 refine bl_inj ?_
 rw[bl_app]
 show Lib.itoa (-(u:Int))=[45]++Lib.decDigits u
 rw[Lib.itoa_neg u h]; rfl
theorem den_itT{P:Program}{Y:Type}{n:Nat}{c:Bool}{t e:Tr P Y}(h:c=true):(Tr.ite n c t e).den=t.den:=if_pos h
theorem den_itF{P:Program}{Y:Type}{n:Nat}{c:Bool}{t e:Tr P Y}(h:¬ c=true):(Tr.ite n c t e).den=e.den:=if_neg h
theorem G55_eq{n:Int}(h:in64 n):G55 n=some (numB n):=by
 obtain⟨h0,h1⟩:=h
 unfold G55 T55
 by_cases hn:n<0
 ·obtain⟨u,rfl⟩:∃ u:Nat,n = -(u:Int):=⟨n.natAbs,by omega⟩
  have hz:=digB_size u (by omega)
  refine(den_itT (decT hn)).trans ((den_ca (G122_eq u (by omega))).trans ((den_grd ?_).trans ((den_grd ?_).trans ?_)))
  ·rw[sz1]; omega
  ·rw[ByteArray.size_append,sz1,sz1]; omega
  ·rw[←itoaB_neg u (by omega)]; rfl
 ·obtain⟨u,rfl⟩:∃ u:Nat,n=(u:Int):=⟨n.natAbs,by omega⟩
  have hz:=digB_size u (by omega)
  have e:IntKind.i64.wrap (0-(u:Int)) = -(u:Int):=by rw[show (0:Int)-(u:Int) = -(u:Int) by omega,wrap_id (by omega) (by omega)]
  refine(den_itF (decF hn)).trans ((den_ca (by rw[e]; exact G122_eq u (by omega))).trans ((den_grd ?_).trans ?_))
  ·rw[sz1]; omega
  ·rw[←itoaB_pos]; rfl
theorem G56_eq{s:ByteArray}(h:s.size≤1000000000000):G56 s=some (txtB s):=by
 have hz:=digB_size s.size (by omega)
 have e:IntKind.i64.wrap (0-(s.size:Int)) = -(s.size:Int):=by rw[show (0:Int)-(s.size:Int) = -(s.size:Int) by omega,wrap_id (by omega) (by omega)]
 have h2:G122 (IntKind.i64.wrap (0-(s.size:Int)))=some (itoaB (s.size:Int)):=by rw[e,itoaB_pos]; exact G122_eq s.size (by omega)
 rw[←itoaB_pos]at hz
 generalize hi:itoaB (s.size:Int)=z at hz h2
 have e1:(z++(⟨#[58]⟩:ByteArray)).size=z.size+1:=ByteArray.size_append
 have e2:((z++(⟨#[58]⟩:ByteArray))++s).size=z.size+1+s.size:=by rw[ByteArray.size_append,e1]
 unfold G56 T56
 refine(den_ca h2).trans ((den_grd ?_).trans ((den_grd ?_).trans ((den_grd ?_).trans ?_)))
 ·rw[sz1]; omega
 ·rw[e1]; omega
 ·rw[e2,sz1]; omega
 ·unfold txtB
  rw[hi]
  rfl
theorem G123_eq(n:Nat)(h:n≤1000000000000):G123 (n:Int)=some (numB (n:Int)):=by
 unfold G123 T123
 simp only[Tr.den]
 rw[if_neg (decF (by omega)),G55_eq (n:=(n:Int)) ⟨by omega,by omega⟩]
 rfl
theorem G169_eq{v:GValue}(h:okV v):G169 v=some (valB v):=by
 have h1:=numB_size h.k
 have h2:=numB_size h.n
 have h3:=txtB_size h.s
 have h4:=h.s
 unfold G169 T169
 simp only[Tr.den,G55_eq h.k,G55_eq h.n,G56_eq (s:=v.S) (by omega),Option.bind_some]
 rw[if_pos (by omega),ByteArray.size_append,if_pos (by omega)]
 rfl
theorem nil_app(b:ByteArray):(⟨#[]⟩:ByteArray)++b=b:=bl_inj (by rw[bl_app]; rfl)
theorem G124_eq(r:List GValue)(h:okVs r)(hn:r.length≤1000):G124 r=some (rowB r):=by
 have hs:=numB_size (n:=(r.length:Int)) ⟨by omega,by omega⟩
 have e0:rowB r=r.foldl (fun b v=>b++valB v) (numB (r.length:Int)):=by unfold rowB; rw[nil_app]
 unfold G124 T124
 simp only[Tr.den]
 rw[G123_eq r.length (by omega),e0]
 simp only[Option.bind_some]
 have h1:=while_trace (bd:=fun s=>(T124_L0 r s).den) (fun i=>((r.take i).foldl (fun b v=>b++valB v) (numB (r.length:Int)),(i:Int))) r.length (r:=.inl (r.foldl (fun b v=>b++valB v) (numB (r.length:Int)))) (fun i hi=>?_) ?_
 ·refine(congrArg (fun x=>Option.bind x _) h1).trans ?_
  rfl
 ·unfold T124_L0
  simp only[Tr.den,Int.toNat_natCast]
  have h2:=foldB_size (numB (r.length:Int)) (r.take i) fun v hv=>h v (List.mem_of_mem_take hv)
  have h3:=valB_size (h.get i)
  simp only[List.length_take]at h2
  rw[if_pos (decT (by omega)),if_pos (by omega),G169_eq (h.get i)]
  simp only[Option.bind_some]
  rw[if_pos (by
   have:min i r.length*1073742000≤1000*1073742000:=Nat.mul_le_mul (by omega) (Nat.le_refl _)
   omega)]
  rw[wrap_inc (by omega),take_succ_getD hi,List.foldl_append]
  rfl
 ·unfold T124_L0
  simp only[Tr.den]
  rw[if_neg (decF (by omega)),List.take_length]
def deltaB(d:GDelta):ByteArray:=(numB d.Time++txtB (rowB d.Row))++numB d.N
def listB(l:List GDelta):ByteArray:=l.foldl (fun b d=>b++deltaB d) (numB (l.length:Int))
structure okY (l:List GDelta):Prop where
 d:okD l
 z:okZ l
 t:okTm l
 n:l.length≤1000
theorem okY.cons{l:List GDelta}(h:okY l):okY (PL.cons l):=⟨h.d.cons,h.z.cons,fun x hx=>by
  obtain⟨z,hz,e⟩:=cons_mem hx
  have:x.Time=z.Time:=congrArg Prod.fst e
  rw[this]; exact h.t z hz,Nat.le_trans (cons_len l) h.n⟩
theorem okY.sub{l r:List GDelta}(h:okY l)(hs:∀ x,x∈r→x∈l)(hn:r.length≤1000):okY r:=⟨h.d.sub hs,h.z.sub hs,fun x hx=>h.t x (hs x hx),hn⟩
theorem deltaB_size{l:List GDelta}(h:okY l)(k:Nat)(hk:k<l.length):(deltaB (l.getD k default)).size≤12700000:=by
 have hm:=getD_mem hk
 have hT:=h.t.get k
 have hR:=h.z.get k
 have b1:=rowB_size2 hR
 have iT:in64 (l.getD k default).Time:=⟨by omega,by omega⟩
 have b2:=txtB_size2 (s:=rowB (l.getD k default).Row) (by omega)
 have b3:=numB_size iT
 have b4:=numB_size (h.d.n _ hm)
 unfold deltaB
 rw[ByteArray.size_append,ByteArray.size_append]
 omega
theorem foldD_size(b:ByteArray){l:List GDelta}(h:okY l):∀ k,k≤l.length→((l.take k).foldl (fun b d=>b++deltaB d) b).size≤b.size+k*12700000
 | 0,_=>by simp
 | k+1,hk=>by
  have h1:=foldD_size b h k (by omega)
  have h2:=deltaB_size h k (by omega)
  rw[take_succ_getD (by omega),List.foldl_append]
  simp only[List.foldl_cons,List.foldl_nil]
  rw[ByteArray.size_append]
  omega
theorem listB_size{l:List GDelta}(h:okY l):(listB l).size≤20000000000:=by
 have hn:=h.n
 have h1:=foldD_size (numB (l.length:Int)) h l.length (Nat.le_refl _)
 have h2:=numB_size (n:=(l.length:Int)) ⟨by omega,by omega⟩
 rw[List.take_length]at h1
 unfold listB
 have:l.length*12700000≤1000*12700000:=Nat.mul_le_mul hn (Nat.le_refl _)
 omega
theorem app3(a b c d:ByteArray):((a++b)++c)++d=a++((b++c)++d):=by
 refine bl_inj ?_
 simp only[bl_app,List.append_assoc]
theorem G57_eq{l:List GDelta}(h:okY l):G57 l=some (listB (PL.cons l)):=by
 have hY:=h.cons
 have hn:=h.n
 unfold G57 T57
 simp only[Tr.den]
 rw[G107_eq l h.d.r h.d.n (by omega)]
 simp only[Option.bind_some]
 generalize PL.cons l=r at *
 have hr:=hY.n
 rw[G123_eq r.length (by omega)]
 simp only[Option.bind_some]
 have hs:=numB_size (n:=(r.length:Int)) ⟨by omega,by omega⟩
 have h1:=while_trace (bd:=fun s=>(T57_L0 r s).den) (fun i=>((r.take i).foldl (fun b d=>b++deltaB d) (numB (r.length:Int)),(i:Int))) r.length (r:=.inl (listB r)) (fun i hi=>?_) ?_
 ·refine(congrArg (fun x=>Option.bind x _) h1).trans ?_
  rfl
 ·unfold T57_L0
  simp only[Tr.den,Int.toNat_natCast]
  have h2:=foldD_size (numB (r.length:Int)) hY i (by omega)
  have hmul:i*12700000≤1000*12700000:=Nat.mul_le_mul (by omega) (Nat.le_refl _)
  have hm:=getD_mem hi
  have hT:=hY.t.get i
  have hR:=hY.z.get i
  have b1:=rowB_size2 hR
  have iT:in64 (r.getD i default).Time:=⟨by omega,by omega⟩
  have b2:=txtB_size2 (s:=rowB (r.getD i default).Row) (by omega)
  have b3:=numB_size iT
  have b4:=numB_size (hY.d.n _ hm)
  have hl:=hR.l
  rw[if_pos (decT (by omega)),if_pos (by omega),G55_eq iT]
  simp only[Option.bind_some]
  rw[if_pos (by omega),if_pos (by omega),G124_eq _ hR.v (by omega)]
  simp only[Option.bind_some]
  rw[G56_eq (by omega)]
  simp only[Option.bind_some]
  rw[ByteArray.size_append,if_pos (by omega),if_pos (by omega),G55_eq (hY.d.n _ hm)]
  simp only[Option.bind_some]
  rw[ByteArray.size_append,ByteArray.size_append,if_pos (by omega),wrap_inc (by omega),take_succ_getD hi,List.foldl_append]
  simp only[List.foldl_cons,List.foldl_nil]
  rw[app3]
  rfl
 ·unfold T57_L0
  simp only[Tr.den]
  rw[if_neg (decF (by omega)),List.take_length]
  rfl
theorem G53_eq{l:List GDelta}(h:okY l):G53 l=some (listB (PL.cons l)):=by
 have hY:=h.cons
 have hn:=h.n
 unfold G53 T53
 simp only[Tr.den]
 rw[G27_eq l h.d.r h.d.n (by omega)]
 simp only[Option.bind_some]
 generalize PL.cons l=r at *
 have hr:=hY.n
 rw[G119_eq r.length (by omega)]
 simp only[Option.bind_some]
 have hs:=numB_size (n:=(r.length:Int)) ⟨by omega,by omega⟩
 rw[if_pos (by show 0+_≤_; omega),nil_app]
 simp only[Option.bind_some]
 have h1:=while_trace (bd:=fun s=>(T53_L0 r s).den) (fun i=>((r.take i).foldl (fun b d=>b++deltaB d) (numB (r.length:Int)),(i:Int))) r.length (r:=.inl (listB r)) (fun i hi=>?_) ?_
 ·refine(congrArg (fun x=>Option.bind x _) h1).trans ?_
  rfl
 ·unfold T53_L0
  simp only[Tr.den,Int.toNat_natCast]
  have h2:=foldD_size (numB (r.length:Int)) hY i (by omega)
  have h3:=deltaB_size hY i hi
  have hmul:i*12700000≤1000*12700000:=Nat.mul_le_mul (by omega) (Nat.le_refl _)
  have hm:=getD_mem hi
  have hT:=hY.t.get i
  have hR:=hY.z.get i
  have b1:=rowB_size2 hR
  have iT:in64 (r.getD i default).Time:=⟨by omega,by omega⟩
  have b2:=txtB_size2 (s:=rowB (r.getD i default).Row) (by omega)
  have b3:=numB_size iT
  have b4:=numB_size (hY.d.n _ hm)
  have hl:=hR.l
  rw[if_pos (decT (by omega)),if_pos (by omega),G51_eq iT]
  simp only[Option.bind_some]
  rw[G120_eq _ hR.v (by omega)]
  simp only[Option.bind_some]
  rw[G52_eq2 (by omega)]
  simp only[Option.bind_some]
  rw[if_pos (by omega),G51_eq (hY.d.n _ hm)]
  simp only[Option.bind_some]
  rw[ByteArray.size_append,if_pos (by omega),ByteArray.size_append,ByteArray.size_append,if_pos (by omega)]
  simp only[Option.bind_some]
  rw[wrap_inc (by omega),take_succ_getD hi,List.foldl_append]
  simp only[List.foldl_cons,List.foldl_nil]
  rfl
 ·unfold T53_L0
  simp only[Tr.den]
  rw[if_neg (decF (by omega)),List.take_length]
  rfl
theorem in64_0:in64 0:=⟨by omega,by omega⟩
theorem tl_bl{a b:ByteArray}(h:(a.toList==b.toList)=true):bl a=bl b:=by
 have h:=beq_iff_eq.1 h
 rw[ByteArray.toList_eq,ByteArray.toList_eq]at h
 exact h
theorem at_bl{b:ByteArray}{i:Nat}(h:i<b.size):(bl b)[i]? = some (b[i]?.getD 0):=by
 have h':i<b.data.size:=h
 rw[getElem?_pos b i h]
 unfold bl
 rw[Array.getElem?_toList,Array.getElem?_eq_getElem h']
 rfl
theorem bl_cut{b:ByteArray}{i:Nat}(h:i<b.size):bl b=(bl b).take i++(b[i]?.getD 0)::(bl b).drop (i+1):=by
 have hl:i<(bl b).length:=by rw[bl_len]; exact h
 have h1:=at_bl h
 rw[List.getElem?_eq_getElem hl]at h1
 have h1:=Option.some.inj h1
 conv=>lhs; rw[←List.take_append_drop i (bl b),List.drop_eq_getElem_cons hl,h1]
theorem ext_size(b:ByteArray)(i j:Nat):(b.extract i j).size≤b.size:=by
 rw[←bl_len,bl_ext,List.length_drop,List.length_take,bl_len]; omega
def RdP(q:GReader_errataref01)(p:List UInt8)(rest:ByteArray)(bad:Bool):Prop:=rest.size≤q.Rest.size∧(bad=true∨(bad=q.Bad∧bl q.Rest=p++bl rest))
theorem RdP.fail{q:GReader_errataref01}{p:List UInt8}:RdP q p ⟨#[]⟩ true:=⟨Nat.zero_le _,.inl rfl⟩
theorem RdP.ok{q:GReader_errataref01}{p:List UInt8}{rest:ByteArray}{bad:Bool}(h:RdP q p rest bad)(hb:bad=false):q.Bad=false∧bl q.Rest=p++bl rest:=by
 rcases h.2 with h | ⟨h1,h2⟩
 ·rw[hb]at h; cases h
 ·exact⟨by rw[←h1,hb],h2⟩
theorem RdP.trans{q:GReader_errataref01}{p p':List UInt8}{rest rest':ByteArray}{bad bad':Bool}(h:RdP q p rest bad)(h':RdP ⟨rest,bad⟩ p' rest' bad'):RdP q (p++p') rest' bad':=by
 refine⟨Nat.le_trans h'.1 h.1,?_⟩
 rcases h'.2 with hb | ⟨h1,h2⟩
 ·exact .inl hb
 ·simp only at h1 h2
  rcases h.2 with hb | ⟨h3,h4⟩
  ·exact .inl (by rw[h1,hb])
  ·exact .inr ⟨by rw[h1,h3],by rw[h4,h2,List.append_assoc]⟩
theorem G183_sp(a:ByteArray)(hs:a.size≤1000000000000):Sp (G183 a) (fun r=>in64 r.1∧(r.2=true→bl (numB r.1)=bl a++[59])):=by
 unfold G183 T183
 simp only[Tr.den]
 refine Sq.bind (fun _=>True) ?_ fun j1 _=>?_
 ·refine sq_iteB (fun h=>?_) (fun _=>sq_some.2 trivial)
  have h:=of_decide_eq_true h
  rw[if_pos (by omega)]; exact sq_some.2 trivial
 refine Sq.bind (fun j2:Int=>j2=0∨j2=1) (sq_iteB (fun _=>sq_some.2 (.inr rfl)) (fun _=>sq_some.2 (.inl rfl))) fun j2 hj=>?_
 refine Sq.bind (fun z:Int⊕(Int×Bool)=>match z with | .inl b=>in64 b | .inr r=>r=(0,false)) ?_ fun z hz=>?_
 ·refine Sq.while (fun s:Int×Int=>in64 s.1∧0≤s.2∧s.2≤(a.size:Int)+1) (fun s=>a.size+1-s.2.toNat) (fun s hI=>?_) ⟨⟨by omega,by omega⟩,by omega,by omega⟩
  obtain⟨v3,v4⟩:=s
  obtain⟨h1,h2,h3⟩:=hI
  simp only at h1 h2 h3
  unfold T183_L0
  simp only[Tr.den]
  by_cases hc:v4<(a.size:Int)
  ·rw[if_pos (decT hc),if_pos ⟨h2,hc⟩]
   refine Sq.bind (fun _=>True) (sq_iteB (fun _=>sq_some.2 trivial) fun _=>?_) fun j6 _=>?_
   ·rw[if_pos ⟨h2,hc⟩]
    exact sq_iteB (fun _=>sq_some.2 trivial) (fun _=>sq_some.2 trivial)
   ·refine sq_iteB (fun _=>sq_some.2 rfl) fun _=>?_
    rw[if_pos ⟨h2,hc⟩]
    have e:IntKind.i64.wrap (v4+1)=v4+1:=wrap_id (by omega) (by omega)
    refine sq_some.2 ⟨⟨wrap_in _,?_,?_⟩,?_⟩ <;> simp only <;> rw[e] <;> omega
  ·rw[if_neg (decF hc)]
   exact sq_some.2 h1
 ·cases z with
  | inr r=>subst hz; exact sq_some.2 ⟨in64_0,fun h=>by cases h⟩
  | inl b=>
   simp only[sel]
   refine Sq.bind in64 (sq_iteB (fun _=>sq_some.2 (wrap_in _)) (fun _=>sq_some.2 hz)) fun j7 h7=>?_
   rw[G55_eq h7]
   rw[Option.bind_some]
   refine sq_grd (by have:(⟨#[59]⟩:ByteArray).size=1:=rfl; omega) ?_
   refine sq_some.2 ⟨h7,fun h=>?_⟩
   rw[tl_bl h,bl_app]; rfl
theorem G142_sp(e:UInt8)(q:GReader_errataref01)(hs:q.Rest.size≤1000000000000):Sp (G142s0 (e.toNat:Int) q) (fun r=>in64 r.1∧RdP q (Lib.itoa r.1++[e]) r.2.1 r.2.2):=by
 have e0:G147s0 q=some (0,⟨#[]⟩,true):=rfl
 unfold G142s0 T142s0
 simp only[Tr.den]
 refine Sq.bind (fun z:Int⊕(Int×ByteArray×Bool)=>∃ v:Int,z = .inl v∧0≤v∧v≤(q.Rest.size:Int)) ?_ fun z hz=>?_
 ·refine Sq.while (fun v:Int=>0≤v∧v≤(q.Rest.size:Int)) (fun v=>q.Rest.size-v.toNat) (fun v hI=>?_) ⟨by omega,by omega⟩
  unfold T142s0_L0
  simp only[Tr.den]
  refine Sq.bind (fun j:Bool=>j=true→v<(q.Rest.size:Int)) ?_ fun j hj=>?_
  ·refine sq_iteB (fun h=>?_) (fun _=>sq_some.2 (fun h=>by cases h))
   have h:=of_decide_eq_true h
   refine sq_iteB (fun _=>?_) (fun _=>sq_some.2 (fun h=>by cases h))
   rw[if_pos ⟨hI.1,h⟩]
   exact sq_some.2 fun _=>h
  ·refine sq_iteB (fun h=>?_) (fun _=>sq_some.2 ⟨v,rfl,hI.1,hI.2⟩)
   have h:=hj h
   have e1:IntKind.i64.wrap (v+1)=v+1:=wrap_id (by omega) (by omega)
   rw[e1]
   exact sq_some.2 ⟨⟨by omega,by omega⟩,by omega⟩
 ·obtain⟨v,rfl,h0,h1⟩:=hz
  simp only[sel,e0,Option.bind_some]
  refine sq_iteB (fun _=>sq_some.2 ⟨in64_0,.fail⟩) fun h=>?_
  have h:=of_decide_eq_false h
  rw[if_pos ⟨h0,by omega⟩]
  refine sq_iteB (fun _=>sq_some.2 ⟨in64_0,.fail⟩) fun he=>?_
  have he:((q.Rest[v.toNat]?.getD 0).toNat:Int)=(e.toNat:Int):=by
   rw[bne_eq_false_iff_eq]at he; exact he
  have he:q.Rest[v.toNat]?.getD 0=e:=UInt8.toNat_inj.1 (by omega)
  rw[if_pos ⟨by omega,h0,h1⟩]
  refine Sq.bind _ (G183_sp _ (Nat.le_trans (ext_size _ _ _) hs)) fun r hr=>?_
  refine sq_iteB (fun _=>sq_some.2 ⟨in64_0,.fail⟩) fun h2=>?_
  have e1:IntKind.i64.wrap (v+1)=v+1:=wrap_id (by omega) (by omega)
  rw[e1,if_pos ⟨by omega,by omega,by omega⟩]
  have h3:=hr.2 (by simpa using h2)
  rw[bl_num,bl_ext]at h3
  have h3:=List.append_cancel_right h3
  refine sq_some.2 ⟨hr.1,ext_size _ _ _,.inr ⟨rfl,?_⟩⟩
  have hc:=bl_cut (b:=q.Rest) (i:=v.toNat) (by omega)
  rw[he]at hc
  have e2:bl (q.Rest.extract (v+1).toNat (q.Rest.size:Int).toNat)=(bl q.Rest).drop (v.toNat+1):=by
   rw[bl_ext,show (v+1).toNat=v.toNat+1 by omega,List.take_of_length_le (by rw[bl_len]; omega)]
  have e3:Lib.itoa r.1=(bl q.Rest).take v.toNat:=h3
  simp only
  rw[e2,e3,List.append_assoc]
  exact hc
theorem G146_sp(e:UInt8)(q:GReader_errataref01)(hs:q.Rest.size≤1000000000000):Sp (G146s0 (e.toNat:Int) q) (fun r=>in64 r.1∧0≤r.1∧RdP q (Lib.itoa r.1++[e]) r.2.1 r.2.2):=by
 unfold G146s0 T146s0
 simp only[Tr.den]
 refine Sq.bind _ (G142_sp e q hs) fun r hr=>?_
 refine sq_iteB (fun _=>?_) fun h=>sq_some.2 ⟨hr.1,by have:=of_decide_eq_false h; simp only; omega,hr.2⟩
 rw[show G147s0 ⟨r.2.1,r.2.2⟩=some (0,⟨#[]⟩,true) from rfl]
 exact sq_some.2 ⟨in64_0,Int.le_refl 0,.fail⟩
theorem G73_sp(q:GReader_errataref01)(hs:q.Rest.size≤1000000000000):Sp (G73s0 q) (fun r=>in64 r.1∧RdP q (bl (numB r.1)) r.2.1 r.2.2):=by
 unfold G73s0 T73s0
 simp only[Tr.den]
 refine Sq.bind _ (G142_sp 59 q hs) fun r hr=>sq_some.2 ?_
 rw[bl_num]; exact hr
theorem G143_sp(q:GReader_errataref01)(hs:q.Rest.size≤1000000000000):Sp (G143s0 q) (fun r=>in64 r.1∧0≤r.1∧RdP q (bl (numB r.1)) r.2.1 r.2.2):=by
 unfold G143s0 T143s0
 simp only[Tr.den]
 refine Sq.bind _ (G146_sp 59 q hs) fun r hr=>sq_some.2 ?_
 rw[bl_num]; exact hr
theorem G148_sp(e:UInt8)(q:GReader_errataref01)(hs:q.Rest.size≤1000000000000):Sp (G148s0 (e.toNat:Int) q) (fun r=>r.2.1.size≤q.Rest.size∧(r.1=false→r.2.2=true)∧(r.1=true→r.2.2=q.Bad∧bl q.Rest=e::bl r.2.1)):=by
 have e0:G147s0 q=some (0,⟨#[]⟩,true):=rfl
 unfold G148s0 T148s0
 simp only[Tr.den,e0,Option.bind_some]
 refine sq_iteB (fun _=>sq_some.2 ⟨Nat.zero_le _,fun _=>rfl,fun h=>by cases h⟩) fun h=>?_
 have h:0<q.Rest.size:=by
  rw[beq_eq_false_iff_ne]at h; omega
 rw[if_pos ⟨by omega,by omega⟩]
 refine sq_iteB (fun _=>sq_some.2 ⟨Nat.zero_le _,fun _=>rfl,fun h=>by cases h⟩) fun he=>?_
 have he:((q.Rest[(0:Int).toNat]?.getD 0).toNat:Int)=(e.toNat:Int):=by
  rw[bne_eq_false_iff_eq]at he; exact he
 have he:q.Rest[(0:Int).toNat]?.getD 0=e:=UInt8.toNat_inj.1 (by omega)
 rw[if_pos ⟨by omega,by omega,by omega⟩]
 refine sq_some.2 ⟨ext_size _ _ _,fun h=>Bool.noConfusion h,fun _=>⟨rfl,?_⟩⟩
 have hc:=bl_cut (b:=q.Rest) (i:=0) h
 simp only
 rw[bl_ext,List.take_of_length_le (by rw[bl_len]; omega)]
 refine hc.trans ?_
 rw[show q.Rest[(0:Nat)]?.getD 0=e from he]
 rfl
theorem G75_sp(q:GReader_errataref01)(hs:q.Rest.size≤1000000000000):Sp (G75s0 q) (fun r=>r.1.size≤q.Rest.size∧RdP q (bl (txtB r.1)) r.2.1 r.2.2):=by
 unfold G75s0 T75s0
 simp only[Tr.den]
 refine Sq.bind _ (G146_sp 58 q hs) fun r hr=>?_
 obtain⟨h1,h2,h3⟩:=hr
 have hsz:=h3.1
 refine Sq.bind (fun j:Bool=>j=false→r.2.2=false∧r.1<(r.2.1.size:Int)) ?_ fun j hj=>?_
 ·refine sq_iteB (fun _=>sq_some.2 (fun h=>by cases h)) fun hb=>sq_some.2 fun h=>⟨hb,?_⟩
  have:=of_decide_eq_false h; omega
 refine sq_iteB (fun _=>?_) fun hb=>?_
 ·rw[show G147s0 ⟨r.2.1,r.2.2⟩=some (0,⟨#[]⟩,true) from rfl]
  exact sq_some.2 ⟨Nat.zero_le _,.fail⟩
 ·obtain⟨h4,h5⟩:=hj hb
  obtain⟨h6,h7⟩:=h3.ok h4
  rw[if_pos ⟨by omega,h2,by omega⟩,if_pos ⟨by omega,by omega,by omega⟩]
  refine Sq.bind _ (G148_sp 44 ⟨r.2.1.extract (r.1:Int).toNat (r.2.1.size:Int).toNat,r.2.2⟩ (Nat.le_trans (ext_size _ _ _) (by omega))) fun r4 hr4=>?_
  obtain⟨g1,g2,g3⟩:=hr4
  have g1:r4.2.1.size≤r.2.1.size:=Nat.le_trans g1 (ext_size _ _ _)
  refine sq_iteB (fun hb=>sq_some.2 ⟨Nat.zero_le _,by simp only; omega,.inl (g2 (by simpa using hb))⟩) fun hb=>?_
  obtain⟨g4,g5⟩:=g3 (by simpa using hb)
  have hn:((r.2.1.extract (0:Int).toNat (r.1).toNat).size:Int)=r.1:=by
   rw[←bl_len,bl_ext,List.length_drop,List.length_take,bl_len]; omega
  refine sq_some.2 ⟨Nat.le_trans (ext_size _ _ _) hsz,by simp only; omega,.inr ⟨by simp only at g4; rw[g4,h4,h6],?_⟩⟩
  simp only at g5 ⊢
  rw[bl_txt,hn,h7]
  rw[bl_ext,List.take_of_length_le (by rw[bl_len]; omega)]at g5
  rw[bl_ext]
  simp only[Int.toNat_zero,List.drop_zero,List.append_assoc,List.cons_append,List.nil_append]
  rw[←g5,List.take_append_drop]
theorem G76_sp(q:GReader_errataref01):Sp (G76s0 q) (fun r=>r=true→q.Bad=false∧bl q.Rest=[]):=by
 unfold G76s0 T76s0
 simp only[Tr.den]
 refine Sq.bind (fun j:Bool=>j=true→q.Bad=false∧bl q.Rest=[]) (sq_iteB (fun h=>sq_some.2 fun h'=>⟨by simpa using h,by rw[tl_bl h']; rfl⟩) fun _=>sq_some.2 fun h=>by cases h) fun j hj=>sq_some.2 hj
theorem Can.drop{l:List GDelta}(h:Can l)(k:Nat):Can (l.drop k):=⟨h.lt.drop,fun x hx=>h.nz x (List.mem_of_mem_drop hx),fun x hx=>h.n64 x (List.mem_of_mem_drop hx)⟩
theorem G8_sp(n:GNode)(types:List (List Int))(acts:List GAct)(most:Nat)(hm:most≤1000)(hn:okGNode n)(ht:okL 24 (okL 8 inI64) types)(hok:okL 40 okGAct acts):
  Sp (G8 n types acts (most:Int)) (fun r=>r=true→∃ ta tb,types=[ta,tb]∧n.Key.length≤20∧n.Key2.length≤20∧RightN n ta tb∧acts.length≤most∧FitsR ta tb acts [] [] (-1)):=by
 unfold G8 T8
 simp only[Tr.den]
 refine Sq.bind (fun j:Bool=>j=false→(n.Op=6∨n.Op=7)∧types.length=2∧n.Key.length≤20∧n.Key2.length≤20) ?_ (fun j hj=>?_)
 ·have inner:(n.Op=6∨n.Op=7)→Sp (if ((types.length:Int) != 2)=true then some true else (G33 [] n).bind fun r=>some !r) (fun j:Bool=>j=false→(n.Op=6∨n.Op=7)∧types.length=2∧n.Key.length≤20∧n.Key2.length≤20):=by
   intro hop
   by_cases h2:(types.length:Int)=2
   ·rw[if_neg (bneF h2)]
    refine Sq.bind _ (G33_sp n hn) fun r hr=>sq_some.2 fun hf=>?_
    cases r with
    | false=>cases hf
    | true=>exact⟨hop,by omega,(hr rfl).1,(hr rfl).2⟩
   ·rw[if_pos (bneT h2)]
    exact sq_some.2 fun h=>by cases h
  by_cases h6:n.Op=6
  ·rw[if_neg (bneF h6)]; exact inner (.inl h6)
  ·rw[if_pos (bneT h6)]
   by_cases h7:n.Op=7
   ·rw[if_neg (bneF h7)]; exact inner (.inr h7)
   ·rw[if_pos (bneT h7)]; exact sq_some.2 fun h=>by cases h
 ·cases j with
  | true=>exact sq_some.2 fun h=>by cases h
  | false=>
   obtain⟨hop,h2,k1,k2⟩:=hj rfl
   simp only[Bool.false_eq_true,if_false]
   match types,h2,ht with
   | [ta,tb],_,ht=>
    have la:=(ht.2 ta (by simp)).1
    have lb:=(ht.2 tb (by simp)).1
    refine Sq.bind _ (G34_sp n ta tb hop (by omega) (by omega) la lb) fun r hr=>?_
    cases r with
    | false=>exact sq_some.2 fun h=>by cases h
    | true=>
     simp only[if_true]
     refine Sq.bind (fun r:Bool=>r=true→acts.length≤most∧FitsR ta tb acts [] [] (-1)) ?_ fun r hF=>sq_some.2 fun h=>⟨ta,tb,rfl,k1,k2,hr rfl,hF h⟩
     refine Sq.bind _ (G35_sp ta tb acts most hm hok la lb) fun r hr=>sq_some.2 hr
theorem okI_of{n:GNode}{ta tb:List Int}(hR:RightN n ta tb){l:List GDelta}(h:okL 40 okGDelta l){i:Int}(hi:i=0∨i=1){c:Int}(hF:∀ d,d∈l→c<d.Time∧0≤d.Time∧d.Time≤2199023255552∧d.Row.length=(two i ta tb).length ∧ -3≤d.N∧d.N≤3):okI n i l:=by
 refine⟨fun d hd v hv=>?_,fun d hd q hq=>?_,fun d hd=>?_,fun d hd=>⟨(hF d hd).2.1,(hF d hd).2.2.1⟩,(okGDelta.okd h).n⟩
 ·have:=(h.2 d hd).2.1.2 v hv
  exact⟨this.1,this.2.1,Nat.le_trans this.2.2 (by omega)⟩
 ·have hl:=(hF d hd).2.2.2.1
  rw[hl]
  rcases hi with rfl | rfl
  ·exact hR.k1 q hq
  ·exact hR.k2 q hq
 ·have hl:=(hF d hd).2.2.2.1
  rw[hl]
  have:=hR.la
  have:=hR.lb
  unfold two; split <;> omega
theorem InOk.filter{n:GNode}{i:Int}{a:List GDelta}(h:InOk n i a)(p:GDelta→Bool):InOk n i (a.filter p):=
 ⟨h.can.filter p,h.ok.sub fun x hx=>(List.mem_filter.1 hx).1,Nat.le_trans (List.length_filter_le _ _) h.len,fun d hd=>h.pos d (List.mem_filter.1 hd).1⟩
theorem okZ.filter{a:List GDelta}(h:okZ a)(p:GDelta→Bool):okZ (a.filter p):=h.sub fun x hx=>(List.mem_filter.1 hx).1
structure KIn (n:GNode)(a0 a1:List GDelta)(k:Nat):Prop where
 c0:Can a0
 i0:okI n 0 a0
 l0:a0.length≤8*k
 p0:∀ d,d∈a0→1≤d.N∧d.N≤20
 z0:okZ a0
 c1:Can a1
 i1:okI n 1 a1
 l1:a1.length≤8*k
 p1:∀ d,d∈a1→1≤d.N∧d.N≤20
 z1:okZ a1
theorem KIn.nil(n:GNode):KIn n [] [] 0:=⟨.nil,.nil,by simp,by simp,fun _ h=>(by cases h),.nil,.nil,by simp,by simp,fun _ h=>(by cases h)⟩
theorem KIn.in0{n:GNode}{a0 a1:List GDelta}{k:Nat}(h:KIn n a0 a1 k)(hk:k≤100):InOk n 0 a0:=⟨h.c0,h.i0,by have:=h.l0; omega,h.p0⟩
theorem KIn.in1{n:GNode}{a0 a1:List GDelta}{k:Nat}(h:KIn n a0 a1 k)(hk:k≤100):InOk n 1 a1:=⟨h.c1,h.i1,by have:=h.l1; omega,h.p1⟩
theorem KIn.more{n:GNode}{a0 a1:List GDelta}{k:Nat}(h:KIn n a0 a1 k):KIn n a0 a1 (k+1):=⟨h.c0,h.i0,by have:=h.l0; omega,h.p0,h.z0,h.c1,h.i1,by have:=h.l1; omega,h.p1,h.z1⟩
theorem KIn.push{n:GNode}{ta tb:List Int}(hR:RightN n ta tb){a0 a1:List GDelta}{k:Nat}(h:KIn n a0 a1 k){x:GAct}(hx:okL 40 okGDelta x.L)(hL:x.L.length≤8){c:Int}
  (hD:∀ d,d∈x.L→c<d.Time∧0≤d.Time∧d.Time≤2199023255552∧d.Row.length=(two (inA x) ta tb).length ∧ -3≤d.N∧d.N≤3)(hP:∀ d,d∈PL.cons (two (inA x) a0 a1++x.L)→1≤d.N∧d.N≤20):
  okI n (inA x) x.L∧KIn n (if inA x=0 then PL.cons (two (inA x) a0 a1++x.L) else a0) (if inA x=0 then a1 else PL.cons (two (inA x) a0 a1++x.L)) (k+1):=by
 have hi:=bit1 x.Do
 have hIL:okI n (inA x) x.L:=okI_of hR hx hi hD
 have hZ:=okZ_act hR hx (i:=inA x) fun d hd=>(hD d hd).2.2.2.1
 refine⟨hIL,?_⟩
 have hcn:=cons_len (two (inA x) a0 a1++x.L)
 rw[List.length_append]at hcn
 rcases (show inA x=0∨inA x=1 from hi) with e | e
 ·rw[e]at hP hcn hIL ⊢
  rw[if_pos rfl,if_pos rfl]
  rw[show two 0 a0 a1=a0 from rfl]at *
  have:=h.l0
  have:=h.l1
  exact⟨cons_can (h.i0.app hIL).n,(h.i0.app hIL).cons,by omega,hP,(h.z0.app hZ).cons,h.c1,h.i1,by omega,h.p1,h.z1⟩
 ·rw[e]at hP hcn hIL ⊢
  rw[if_neg (by omega),if_neg (by omega)]
  rw[show two 1 a0 a1=a1 from rfl]at *
  have:=h.l0
  have:=h.l1
  exact⟨h.c0,h.i0,by omega,h.p0,h.z0,cons_can (h.i1.app hIL).n,(h.i1.app hIL).cons,by omega,hP,(h.z1.app hZ).cons⟩
def optM(k:ByteArray):Option GSide→KS
 | none=>[]
 | some s=>[(k,s)]
theorem group1{n:GNode}{i:Int}{l:List GDelta}{k:ByteArray}(h:∀ d,d∈l→kd n i d=k)(h0:l≠[]):groupM n i l=[(k,l)]:=by
 refine(groupM_mc n i l).ext LO.bytes (List.pairwise_singleton _ _) fun k'=>?_
 rw[groupM_look]
 by_cases hk:k=k'
 ·subst hk
  have:ofK n i k l=l:=List.filter_eq_self.2 fun d hd=>decT (h d hd)
  rw[this,if_neg h0]; simp[mlook]
 ·have:ofK n i k' l=[]:=List.filter_eq_nil_iff.2 fun d hd=>decF (by rw[h d hd]; exact hk)
  rw[this,if_pos rfl]; simp[mlook,hk]
theorem ofK1{n:GNode}{i:Int}{l:List GDelta}{k:ByteArray}(h:∀ d,d∈l→kd n i d=k):ofK n i k l=l:=List.filter_eq_self.2 fun d hd=>decT (h d hd)
theorem look1(k:ByteArray)(o:Option GSide):mlook (optM k o) k=o:=by cases o <;> simp[optM,mlook]
theorem push1{n:GNode}{i:Int}{l:List GDelta}{k:ByteArray}(h:∀ d,d∈l→kd n i d=k)(h0:l≠[])(o:Option GSide):
  pushM n i l (optM k o)=optM k (keepS (updS i (o.getD side0) l))∧(mkeys (groupM n i l)).flatMap (pushO n i l (optM k o))=chgF n i l (o.getD side0):=by
 have hk:mkeys (groupM n i l)=[k]:=by rw[group1 h h0]; rfl
 have hn:newS n i l (optM k o) k=keepS (updS i (o.getD side0) l):=by unfold newS; rw[look1,ofK1 h]
 constructor
 ·unfold pushM
  rw[hk]
  simp only[List.foldl_cons,List.foldl_nil,hn]
  cases keepS (updS i (o.getD side0) l) with
  | none=>cases o <;> simp[setS,optM,mdel]
  | some s=>cases o <;> simp[setS,optM,mput,mdel,mins]
 ·rw[hk]
  simp only[List.flatMap_cons,List.flatMap_nil,List.append_nil]
  unfold pushO
  rw[look1,ofK1 h]
theorem close1(t:Int)(k:ByteArray)(s:GSide):closeM t (optM k (some s))=optM k (keepS (cutS t s)):=by
 have hn:newC t (optM k (some s)) k=keepS (cutS t s):=by unfold newC; rw[look1]; rfl
 unfold closeM
 rw[show mkeys (optM k (some s))=[k] from rfl]
 simp only[List.foldl_cons,List.foldl_nil,hn]
 cases keepS (cutS t s) with
 | none=>simp[setS,optM,mdel]
 | some s=>simp[setS,optM,mput,mdel,mins]
def vN:GNode:=GNode.mk 6 ([]:List Int) ⟨#[]⟩ 0 ([]:List Expr) 0 0 0 [0] [0] 2 5 0 ([]:List GAgg) ([]:List GPat) ([]:List GCol)
def rowX:List GValue:=[GValue.mk 0 7 ⟨#[]⟩]
def atD(t n:Int):GDelta:=⟨t,rowX,n⟩
theorem vN_ok:okNode vN:=⟨.inl ⟨rfl,⟨by decide,by decide⟩,⟨by decide,by decide⟩⟩,by decide,by decide⟩
theorem kX:∀ i t n,(i=0∨i=1)→kd vN i (atD t n)=keyB vN 0 rowX:=by
 rintro i t n (rfl | rfl) <;> rfl
theorem okIX(i:Int)(hi:i=0∨i=1)(l:List GDelta)(h:∀ d,d∈l→∃ t n,d=atD t n∧0≤t∧t≤100 ∧ -10≤n∧n≤10):okI vN i l:=by
 have hv:okVs rowX:=fun v hv=>by
  rw[List.mem_singleton.1 hv]
  exact⟨⟨by decide,by decide⟩,⟨by decide,by decide⟩,by decide⟩
 have hc:okCols (colsOf vN i) rowX:=by
  rcases hi with rfl | rfl <;> (intro c hc; rw[List.mem_singleton.1 (show c∈[(0:Int)] from hc)]; decide)
 refine⟨fun d hd=>?_,fun d hd=>?_,fun d hd=>?_,fun d hd=>?_,fun d hd=>?_⟩ <;> obtain⟨t,n,rfl,h1,h2,h3,h4⟩:=h d hd
 ·exact hv
 ·exact hc
 ·show rowX.length≤1000
  decide
 ·exact⟨h1,by show t≤_; omega⟩
 ·exact⟨by show _≤n; omega,by show n≤_; omega⟩
theorem okMX(k:ByteArray)(o:Option GSide)(h:∀ s,o=some s→okSd vN s):okM vN (optM k o):=by
 refine⟨by cases o <;> simp[optM,MC],fun k' s hs=>?_⟩
 cases o with
 | none=>simp[optM,mlook]at hs
 | some s'=>
  simp only[optM,mlook]at hs
  split at hs
  ·cases hs; exact h _ rfl
  ·cases hs
def x3:GDelta:=atD 3 1
def x3':GDelta:=atD 3 (-1)
def y8:GDelta:=atD 8 1
def y9:GDelta:=atD 9 1
def z8(n:Int):GDelta:=⟨8,rowX++rowX,n⟩
theorem pushX(i:Int)(hi:i=0∨i=1)(l:List GDelta)(h:∀ d,d∈l→∃ t n,d=atD t n∧0≤t∧t≤100 ∧ -10≤n∧n≤10)(hc:cons l=l)(h0:l≠[])(hlen:l.length≤1000)(cl:Int)(o:Option GSide)(ho:∀ s,o=some s→okSd vN s):
  G25s0 i l vN cl (optM (keyB vN 0 rowX) o)=some (cons (chgF vN i l (o.getD side0)),optM (keyB vN 0 rowX) (keepS (updS i (o.getD side0) l))):=by
 have hk:∀ d,d∈l→kd vN i d=keyB vN 0 rowX:=fun d hd=>by
  obtain⟨t,n,rfl,_⟩:=h d hd
  exact kX i t n hi
 rw[G25s0_eq i l vN cl _ hi vN_ok (okIX i hi l h) (okMX _ o ho) hlen (by rw[hc]; exact hlen),hc]
 obtain⟨e1,e2⟩:=push1 hk h0 o
 rw[e1,e2]
theorem canX:Can [x3]∧Can [y8,y9]∧Can [y9]:=by
 have e1:cons [x3]=[x3]:=by kernel_rfl
 have e2:cons [y8,y9]=[y8,y9]:=by kernel_rfl
 have e3:cons [y9]=[y9]:=by kernel_rfl
 have b:∀ t:Int,okN [atD t 1]:=fun t d hd=>by rw[List.mem_singleton.1 hd]; exact⟨by show _≤(1:Int); decide,by show (1:Int)≤_; decide⟩
 refine⟨?_,?_,?_⟩
 ·rw[←e1]; exact cons_can (b 3)
 ·rw[←e2]
  refine cons_can fun d hd=>?_
  rcases List.mem_cons.1 hd with rfl | hd
  ·exact b 8 _ (List.mem_singleton.2 rfl)
  ·exact b 9 d hd
 ·rw[←e3]; exact cons_can (b 9)
theorem G31_eq(t n:Int):G31 t n=some (atD t n):=by unfold G31 T31; simp only[Tr.den]; rfl
theorem inX1(t n:Int)(h1:0≤t)(h2:t≤100)(h3:-10≤n)(h4:n≤10):∀ d,d∈[atD t n]→∃ t n,d=atD t n∧0≤t∧t≤100 ∧ -10≤n∧n≤10:=fun d hd=>⟨t,n,List.mem_singleton.1 hd,h1,h2,h3,h4⟩
theorem inX2:∀ d,d∈[y8,y9]→∃ t n,d=atD t n∧0≤t∧t≤100 ∧ -10≤n∧n≤10:=fun d hd=>by
 rcases List.mem_cons.1 hd with rfl | hd
 ·exact⟨8,1,rfl,by decide,by decide,by decide,by decide⟩
 ·rw[List.mem_singleton.1 hd]; exact⟨9,1,rfl,by decide,by decide,by decide,by decide⟩
theorem okS1:okSd vN ⟨⟨[x3],[]⟩⟩:=⟨canX.1,.nil,okIX 0 (.inl rfl) _ (inX1 3 1 (by decide) (by decide) (by decide) (by decide)),.nil,by decide,by decide⟩
theorem okS2:okSd vN ⟨⟨[x3],[y8,y9]⟩⟩:=⟨canX.1,canX.2.1,okIX 0 (.inl rfl) _ (inX1 3 1 (by decide) (by decide) (by decide) (by decide)),okIX 1 (.inr rfl) _ inX2,by decide,by decide⟩
theorem okS3:okSd vN ⟨⟨[],[y8,y9]⟩⟩:=⟨.nil,canX.2.1,.nil,okIX 1 (.inr rfl) _ inX2,by decide,by decide⟩
theorem G7_eq:G7=some true:=by
 have p1:=pushX 0 (.inl rfl) [x3] (inX1 3 1 (by decide) (by decide) (by decide) (by decide)) (by kernel_rfl) (by simp) (by decide) (-1) none (fun _ h=>by cases h)
 have p2:=pushX 1 (.inr rfl) [y8,y9] inX2 (by kernel_rfl) (by simp) (by decide) (-1) (some ⟨⟨[x3],[]⟩⟩) (fun s h=>by cases h; exact okS1)
 have p3:=pushX 0 (.inl rfl) [x3'] (inX1 3 (-1) (by decide) (by decide) (by decide) (by decide)) (by kernel_rfl) (by simp) (by decide) (-1) (some ⟨⟨[x3],[y8,y9]⟩⟩) (fun s h=>by cases h; exact okS2)
 have v1:(cons (chgF vN 0 [x3] ((none:Option GSide).getD side0)),keepS (updS 0 ((none:Option GSide).getD side0) [x3]))=(([],some ⟨⟨[x3],[]⟩⟩):List GDelta×Option GSide):=by kernel_rfl
 have v2:(cons (chgF vN 1 [y8,y9] ((some (⟨⟨[x3],[]⟩⟩:GSide)).getD side0)),keepS (updS 1 ((some (⟨⟨[x3],[]⟩⟩:GSide)).getD side0) [y8,y9]))=(([z8 1],some ⟨⟨[x3],[y8,y9]⟩⟩):List GDelta×Option GSide):=by kernel_rfl
 have v3:(cons (chgF vN 0 [x3'] ((some (⟨⟨[x3],[y8,y9]⟩⟩:GSide)).getD side0)),keepS (updS 0 ((some (⟨⟨[x3],[y8,y9]⟩⟩:GSide)).getD side0) [x3']))=(([z8 (-1)],some ⟨⟨[],[y8,y9]⟩⟩):List GDelta×Option GSide):=by kernel_rfl
 have v4:keepS (cutS (13-backF vN) ⟨⟨[],[y8,y9]⟩⟩)=some ⟨⟨[],[y9]⟩⟩:=by kernel_rfl
 rw[(Prod.mk.inj v1).1,(Prod.mk.inj v1).2]at p1
 rw[(Prod.mk.inj v2).1,(Prod.mk.inj v2).2]at p2
 rw[(Prod.mk.inj v3).1,(Prod.mk.inj v3).2]at p3
 have p4:=G32s0_eq 13 vN (-1) (optM (keyB vN 0 rowX) (some ⟨⟨[],[y8,y9]⟩⟩)) vN_ok (okMX _ _ (fun s h=>by cases h; exact okS3)) (by decide) (by decide) (by decide)
 rw[close1,v4]at p4
 have hm5:okM vN (optM (keyB vN 0 rowX) (some ⟨⟨[],[y9]⟩⟩)):=okMX _ _ fun s h=>by
  cases h
  exact⟨.nil,canX.2.2,.nil,okIX 1 (.inr rfl) _ (inX1 9 1 (by decide) (by decide) (by decide) (by decide)),by decide,by decide⟩
 have p5:=G15s0_eq vN 13 (optM (keyB vN 0 rowX) (some ⟨⟨[],[y9]⟩⟩)) hm5.mc fun k s hs=>⟨by have:=(hm5.s k s hs).l0; omega,by have:=(hm5.s k s hs).l1; omega⟩
 have v5:W (sumK (cntK (optM (keyB vN 0 rowX) (some ⟨⟨[],[y9]⟩⟩))) (mkeys (optM (keyB vN 0 rowX) (some ⟨⟨[],[y9]⟩⟩))))=1:=by
  rw[show mkeys (optM (keyB vN 0 rowX) (some ⟨⟨[],[y9]⟩⟩))=[keyB vN 0 rowX] from rfl]
  simp only[sumK,cntK,look1]
  kernel_rfl
 rw[v5]at p5
 have p6:=G16s0_eq vN 13 (optM (keyB vN 0 rowX) (some ⟨⟨[],[y9]⟩⟩))
 have e9:G9s0 (GNode.mk 6 ([]:List Int) ⟨#[]⟩ 0 ([]:List Expr) 0 0 0 [0] [0] 2 5 0 ([]:List GAgg) ([]:List GPat) ([]:List GCol))=some (vN,-1,[]):=G9s0_eq vN (by decide) (by decide)
 unfold G7 T7
 simp only[Tr.den]
 rw[e9]
 simp only[Option.bind_some,G31_eq]
 rw[show G25s0 0 [atD 3 1] vN (-1) []=_ from p1]
 simp only[Option.bind_some]
 rw[show G25s0 1 [atD 8 1,atD 9 1] vN (-1) (optM (keyB vN 0 rowX) (some ⟨⟨[x3],[]⟩⟩))=_ from p2]
 simp only[Option.bind_some]
 rw[show G25s0 0 [atD 3 (-1)] vN (-1) (optM (keyB vN 0 rowX) (some ⟨⟨[x3],[y8,y9]⟩⟩))=_ from p3]
 simp only[Option.bind_some]
 rw[p4]
 simp only[Option.bind_some,Int.toNat_zero]
 rw[p5]
 simp only[Option.bind_some]
 rw[p6]
 rfl
theorem G106_sq(b:Bool)(e:Expr)(h:okExpr e):Sq b (G106 e) (fun d=>d=e):=by
 refine fixF_sq (C:=fun (a:Expr) (x:Option (Expr))=>Con Proofs.Tryz.prog 129 [.t (eExpr a)] x (fun (y:Expr)=>.t (eExpr y))) (fun a=>⟨callable_of Proofs.Tryz.func129 (by kernel_rfl),fun _ h=>nomatch h⟩) (fun rec a=>T106 rec a) (fun rec a=>T106_ok rec a)
  okExpr (fun e=>SizeOf.sizeOf e) (fun e d=>d=e) (fun b f e he hrec=>?_) b e h
 have hl:=he.len
 unfold T106
 simp only[Tr.den]
 refine Sq.bind (fun z=>z = .inl e.Args) (sq_count (fun s:List Expr×Int=>s.2) e.Args.length (by omega) (fun s=>s.1=e.Args.take s.2.toNat) (fun s k hI hk hkN=>?_) (by simp) rfl) fun z hz=>?_
 ·obtain⟨v1,v2⟩:=s
  simp only at hk hI
  subst hk
  rw[Int.toNat_natCast]at hI
  subst hI
  unfold T106_L0
  simp only[Tr.den,Int.toNat_natCast]
  by_cases hc:k<e.Args.length
  ·rw[if_pos (decT (by omega)),if_pos (by omega)]
   refine Sq.bind _ (hrec _ (he.arg _ (getD_mem hc)) (sizeOf_arg (getD_mem hc))) fun r hr=>?_
   subst hr
   rw[if_pos (by rw[List.length_take]; omega)]
   refine sq_some.2 ⟨rfl,hc,?_⟩
   simp only
   rw[wrap_inc (by omega),Int.toNat_natCast,take_succ_getD hc]
  ·rw[if_neg (decF (by omega))]
   refine sq_some.2 ?_
   simp only[sel]
   rw[List.take_of_length_le (by omega)]
 ·subst hz
  simp only[sel]
  refine sq_some.2 ?_
  cases e; rfl
theorem G106_eq{e:Expr}(h:okExpr e):G106 e=some e:=Sp.eq (G106_sq true e h)
theorem G43_eq{n:GNode}(h:okGNode n):G43 n=some n:=by
 obtain⟨_,hIn,_,_,hEx,_,_,_,hK,hK2,_,_,_,hAg,hSq,hCo⟩:=h
 have l1:n.In.length≤1048576:=hIn.1
 have l2:n.Exprs.length≤1048576:=hEx.1
 have l3:n.Key.length≤1048576:=hK.1
 have l4:n.Key2.length≤1048576:=hK2.1
 have l5:n.Aggs.length≤1048576:=hAg.1
 have l6:n.Seq.length≤1048576:=hSq.1
 have l7:n.Cols.length≤1048576:=hCo.1
 unfold G43 T43
 simp only[Tr.den,List.nil_append,List.length_nil]
 rw[if_pos (by omega)]
 have h1:=while_trace (bd:=fun s=>(T43_L0 n s).den) (fun i=>(n.In,n.Exprs.take i,(i:Int))) n.Exprs.length (r:=.inl (n.In,n.Exprs)) (fun i hi=>?_) ?_
 ·refine(congrArg (fun x=>Option.bind x _) h1).trans ?_
  simp only[Option.bind_some,sel]
  rw[if_pos (by omega),if_pos (by omega),if_pos (by omega)]
  have h2:=while_trace (bd:=fun s=>(T43_L1 n s).den) (fun i=>(n.In,n.Exprs,n.Key,n.Key2,n.Aggs,n.Seq.take i,(i:Int))) n.Seq.length (r:=.inl (n.In,n.Exprs,n.Key,n.Key2,n.Aggs,n.Seq)) (fun i hi=>?_) ?_
  ·refine(congrArg (fun x=>Option.bind x _) h2).trans ?_
   simp only[Option.bind_some,sel]
   rw[if_pos (by omega)]
  ·unfold T43_L1
   simp only[Tr.den,Int.toNat_natCast]
   rw[if_pos (decT (by omega)),if_pos (by omega),G106_eq (hSq.2 _ (getD_mem hi)).1]
   simp only[Option.bind_some]
   rw[if_pos (by omega),if_pos (by rw[List.length_take]; omega),wrap_inc (by omega),take_succ_getD hi]
  ·unfold T43_L1
   simp only[Tr.den]
   rw[if_neg (decF (by omega)),List.take_length]
 ·unfold T43_L0
  simp only[Tr.den,Int.toNat_natCast]
  rw[if_pos (decT (by omega)),if_pos (by omega),G106_eq (hEx.2 _ (getD_mem hi))]
  simp only[Option.bind_some]
  rw[if_pos (by rw[List.length_take]; omega),wrap_inc (by omega),take_succ_getD hi]
 ·unfold T43_L0
  simp only[Tr.den]
  rw[if_neg (decF (by omega)),List.take_length]
theorem G17s0_eq{n:GNode}(h:okGNode n):G17s0 n=some ⟨n,[[],[]],-1⟩:=by
 unfold G17s0 T17s0
 simp only[Tr.den]
 rw[G43_eq h]
 rfl
theorem G83_t{n:GNode}(hn:okNode n):G83 n=some true:=by
 unfold G83 T83
 simp only[Tr.den,G153_eq,Option.bind_some]
 rcases hn.op with⟨h,hB⟩ | ⟨h,hK⟩
 ·rw[if_neg (beqF (by omega)),if_neg (beqF (by omega)),if_pos (beqT h),if_pos (decT hB.b)]
  simp only[Option.bind_some]
  rw[decT hB.a]
 ·rw[if_neg (beqF (by omega)),if_neg (beqF (by omega)),if_neg (beqF (by omega)),if_pos (beqT h),decT hK]
theorem G44_eq{n:GNode}(hn:okNode n):G44 n=some (backF n,0):=by
 unfold G44 T44
 simp only[Tr.den]
 rw[G83_t hn]
 simp only[Option.bind_some,Bool.not_true,Bool.false_eq_true,if_false]
 unfold backF
 rcases hn.op with⟨h,hB⟩ | ⟨h,hK⟩
 ·rw[if_neg (beqF (by omega)),if_neg (beqF (by omega)),if_pos (beqT h),if_pos h]
 ·rw[if_neg (beqF (by omega)),if_neg (beqF (by omega)),if_neg (beqF (by omega)),if_pos (beqT h),if_neg (by omega),wrap_id (by omega) (by omega)]
theorem G20_self(l:List GDelta)(ho:okRs l)(hn:l.length≤1000000000000):G20 l l=some true:=by
 unfold G20 T20
 simp only[Tr.den]
 rw[if_neg (bneF rfl)]
 have h1:=while_trace (bd:=fun s=>(T20_L0 l l s).den) (fun i=>(i:Int)) l.length (r:=.inl ()) (fun i hi=>?_) ?_
 ·refine(congrArg (fun x=>Option.bind x _) h1).trans ?_
  rfl
 ·unfold T20_L0
  simp only[Tr.den,Int.toNat_natCast]
  rw[if_pos (decT (by omega)),if_pos (by omega),if_pos (by omega),G49_eq _ _ (ho _ (getD_mem hi)) (ho _ (getD_mem hi))]
  simp only[Option.bind_some]
  rw[if_neg (bneF (cmpD_zero.2 rfl)),if_pos (by omega),if_pos (by omega)]
  simp only[Option.bind_some]
  rw[if_neg (bneF rfl),wrap_inc (by omega)]
 ·unfold T20_L0
  simp only[Tr.den]
  rw[if_neg (decF (by omega))]
theorem InOk.okY{n:GNode}{i:Int}{a:List GDelta}(h:InOk n i a)(z:okZ a):okY a:=⟨h.ok.okD,z,h.ok.t,by have:=h.len; omega⟩
def opB(cl:Int)(A B:List GDelta):ByteArray:=(numB cl++txtB (listB A))++txtB (listB B)
theorem G22s0_val{n:GNode}{A B:List GDelta}{m:KS}(h:OInv n A B (-1) m)(hA:InOk n 0 A)(hB:InOk n 1 B)(zA:okZ A)(zB:okZ B){cl:Int}(hc:in64 cl):G22s0 n cl m=some (opB cl A B,m):=by
 have all:∀ i:Int,(i=0∨i=1)→G54s0 i n cl m=some (two i A B,m):=by
  intro i hi
  have hT:InOk n i (two i A B):=by
   rcases hi with rfl | rfl
   ·exact hA
   ·exact hB
  exact G54s0_eq i n cl m hi h.mc hT.can hT.ok.okD hT.pos hT.len (fun k hk=>rowsOf_eq h hA.ok hB.ok hi hk) fun x hx=>keys_all h hA.ok hB.ok hi hx
 have eA:G53 A=some (listB A):=by rw[G53_eq (hA.okY zA),cons_id hA.can]
 have eB:G53 B=some (listB B):=by rw[G53_eq (hB.okY zB),cons_id hB.can]
 have sA:=listB_size (hA.okY zA)
 have sB:=listB_size (hB.okY zB)
 have l0:=numB_size hc
 have l1:=txtB_size2 (s:=listB A) (by omega)
 have l2:=txtB_size2 (s:=listB B) (by omega)
 unfold G22s0 T22s0
 simp only[Tr.den]
 rw[G51_eq hc]
 simp only[Option.bind_some]
 rw[all 0 (.inl rfl)]
 simp only[Option.bind_some]
 rw[show two (0:Int) A B=A from rfl,eA]
 simp only[Option.bind_some]
 rw[G52_eq2 (by omega)]
 simp only[Option.bind_some]
 rw[if_pos (by omega),all 1 (.inr rfl)]
 simp only[Option.bind_some]
 rw[show two (1:Int) A B=B from rfl,eB]
 simp only[Option.bind_some]
 rw[G52_eq2 (by omega)]
 simp only[Option.bind_some]
 rw[if_pos (by rw[ByteArray.size_append]; omega)]
 rfl
theorem OInv.cut{n:GNode}{a0 a1:List GDelta}{t:Int}{m:KS}(h:OInv n a0 a1 t m)(h0:okI n 0 a0)(h1:okI n 1 a1):OInv n (a0.filter (aft t)) (a1.filter (aft t)) (-1) m:=by
 refine⟨h.mc,fun k=>?_⟩
 rw[h.look,aft_all (h0.sub fun x hx=>(List.mem_filter.1 hx).1),aft_all (h1.sub fun x hx=>(List.mem_filter.1 hx).1)]
def oneL(d:GDelta):List UInt8:=bl (numB d.Time)++(bl (txtB (rowB d.Row))++bl (numB d.N))
def dsL(l:List GDelta):List UInt8:=l.flatMap oneL
theorem dsL_cons(d:GDelta)(l:List GDelta):dsL (d::l)=oneL d++dsL l:=rfl
theorem dsL_app(l r:List GDelta):dsL (l++r)=dsL l++dsL r:=List.flatMap_append
def bytL(l:List GDelta):List UInt8:=bl (numB (l.length:Int))++dsL l
theorem take_getD{α:Type}[Inhabited α]{l:List α}{k:Nat}(hk:k<l.length):l.take (k+1)=l.take k++[l.getD k default]:=by
 rw[List.take_succ_eq_append_getElem hk]
 simp[List.getD_eq_getElem?_getD,hk]
theorem drop_getD'{α:Type}[Inhabited α]{l:List α}{k:Nat}(hk:k<l.length):l.drop k=l.getD k default::l.drop (k+1):=by
 rw[List.drop_eq_getElem_cons hk]
 simp[List.getD_eq_getElem?_getD,hk]
theorem G53_bl(l:List GDelta)(ho:okD l)(hz:okZ l)(ht:okTm l)(hn:l.length≤1000):∃ b,G53 l=some b∧b.size≤20000000000∧bl b=bytL (PL.cons l):=by
 have hn':(PL.cons l).length≤1000:=Nat.le_trans (cons_len l) hn
 have hz':=hz.cons
 have ht':okTm (PL.cons l):=fun x hx=>by
  obtain⟨z,hz,e⟩:=cons_mem hx
  have:x.Time=z.Time:=congrArg Prod.fst e
  rw[this]; exact ht z hz
 have hN':=(cons_can ho.n).n64
 suffices h:Sp (G53 l) (fun b=>b.size≤20000000000∧bl b=bytL (PL.cons l)) from h.get
 unfold G53 T53
 simp only[Tr.den]
 rw[G27_eq l ho.r ho.n (by omega)]
 simp only[Option.bind_some]
 rw[G119_eq (PL.cons l).length (by omega)]
 simp only[Option.bind_some]
 have hs:=numB_size (n:=((PL.cons l).length:Int)) ⟨by omega,by omega⟩
 generalize PL.cons l=r at *
 rw[if_pos (by show 0+_≤_; omega)]
 simp only[Option.bind_some]
 have h0:bl ((⟨#[]⟩:ByteArray)++numB (r.length:Int))=bl (numB (r.length:Int)):=by rw[bl_app]; rfl
 refine Sq.bind (fun z:ByteArray⊕ByteArray=>∃ b,z = .inl b∧b.size≤20000000000∧bl b=bytL r) (sq_count (fun s:ByteArray×Int=>s.2) r.length (by omega) (fun s=>s.1.size≤22+s.2.toNat*12700000∧bl s.1=bl (numB (r.length:Int))++dsL (r.take s.2.toNat)) (fun s k hI hk hkN=>?_)
  ⟨by rw[ByteArray.size_append,show (⟨#[]⟩:ByteArray).size=0 from rfl]; simp only; omega,by rw[h0]; simp[dsL]⟩ rfl) fun z hz=>?_
 ·obtain⟨v3,v4⟩:=s
  simp only at hk hI
  subst hk
  obtain⟨hI,hB⟩:=hI
  unfold T53_L0
  simp only[Tr.den,Int.toNat_natCast]
  have hmul:k*12700000≤1000*12700000:=Nat.mul_le_mul (by omega) (Nat.le_refl _)
  rw[Int.toNat_natCast]at hI hB
  by_cases hc:k<r.length
  ·rw[if_pos (decT (by omega)),if_pos (by omega)]
   have hT:=ht'.get k
   have hR:=hz'.get k
   have hNN:=hN' _ (getD_mem hc)
   have b1:=rowB_size2 hR
   have iT:in64 (r.getD k default).Time:=⟨by omega,by omega⟩
   rw[G51_eq iT]
   simp only[Option.bind_some]
   rw[G120_eq _ hR.v (by have:=hR.l; omega)]
   simp only[Option.bind_some]
   rw[G52_eq2 (by omega)]
   simp only[Option.bind_some]
   have b2:=txtB_size2 (s:=rowB (r.getD k default).Row) (by omega)
   have b3:=numB_size iT
   have b4:=numB_size hNN
   rw[if_pos (by omega),G51_eq hNN]
   simp only[Option.bind_some]
   rw[ByteArray.size_append,if_pos (by omega),ByteArray.size_append,ByteArray.size_append,if_pos (by omega)]
   simp only[Option.bind_some]
   refine sq_some.2 ⟨rfl,hc,?_,?_⟩
   ·simp only
    rw[wrap_inc (by omega),Int.toNat_natCast,ByteArray.size_append,ByteArray.size_append,ByteArray.size_append,Nat.add_mul]
    omega
   ·simp only
    rw[wrap_inc (by omega),Int.toNat_natCast,take_getD hc,dsL_app,bl_app,bl_app,bl_app,hB]
    simp[dsL,oneL]
  ·rw[if_neg (decF (by omega))]
   refine sq_some.2 ⟨v3,rfl,by omega,?_⟩
   rw[hB,List.take_of_length_le (by omega)]; rfl
 ·obtain⟨b,rfl,hb⟩:=hz
  simp only[sel]
  exact sq_some.2 hb
theorem numB_pos(n:Int):0<(bl (numB n)).length:=by
 unfold numB
 rw[bl_app,List.length_append]
 have:(bl (⟨#[59]⟩:ByteArray)).length=1:=rfl
 omega
theorem dsL_ge(l:List GDelta):l.length≤(dsL l).length:=by
 induction l with
 | nil=>simp
 | cons d l ih=>
  rw[dsL_cons,List.length_append,List.length_cons]
  unfold oneL
  rw[List.length_append]
  have:=numB_pos d.Time
  omega
theorem dsL_drop(l:List GDelta):∀ i,(dsL (l.drop i)).length≤(dsL l).length
 | 0=>Nat.le_refl _
 | i+1=>by
  cases l with
  | nil=>simp
  | cons v r=>
   rw[List.drop_succ_cons,dsL_cons,List.length_append]
   have:=dsL_drop r i
   omega
theorem G137_can(l:List GDelta)(h:Can l)(ho:okRs l)(hn:l.length≤1000000000000):G137 l=some true:=by
 unfold G137 T137
 simp only[Tr.den]
 have h1:=while_trace (bd:=fun s=>(T137_L0 l s).den) (fun k=>(k:Int)) l.length (r:=.inl ()) (fun k hk=>?_) ?_
 ·refine(congrArg (fun x=>Option.bind x _) h1).trans ?_
  rfl
 ·have hm:=getD_mem hk
  unfold T137_L0
  simp only[Tr.den,Int.toNat_natCast]
  rw[if_pos (decT (by omega)),if_pos (by omega),if_neg (beqF (h.nz _ hm))]
  by_cases h0:k=0
  ·rw[if_neg (decF (by omega))]
   simp only[Option.bind_some,Bool.false_eq_true,if_false]
   rw[wrap_inc (by omega)]
  ·have e:IntKind.i64.wrap ((k:Int)-1)=((k-1:Nat):Int):=by
    have:=wrap_sub (n:=k) (m:=1) (by omega) (by omega)
    simpa using this
   have hlt:cmpD (l.getD (k-1) default) (l.getD k default)<0:=by
    rw[getD_lt hk,getD_lt (show k-1<l.length by omega)]
    exact List.pairwise_iff_getElem.1 h.lt (k-1) k (by omega) hk (by omega)
   rw[if_pos (decT (by omega)),e,if_pos (by omega),Int.toNat_natCast,G61_eq _ _ (ho _ (getD_mem (by omega))) (ho _ hm)]
   simp only[Option.bind_some]
   rw[if_neg (decF (by omega)),wrap_inc (by omega)]
 ·unfold T137_L0
  simp only[Tr.den]
  rw[if_neg (decF (by omega))]
structure BOk (a:List GDelta):Prop where
 can:Can a
 d:okD a
 z:okZ a
 t:okTm a
 n:a.length≤1000
noncomputable def byt (a:List GDelta):ByteArray:=(G53 a).getD default
theorem BOk.byt{a:List GDelta}(h:BOk a):G53 a=some (byt a)∧(PL.byt a).size≤20000000000∧bl (PL.byt a)=bytL a:=by
 obtain⟨b,hb,hs,hl⟩:=G53_bl a h.d h.z h.t h.n
 rw[cons_id h.can]at hl
 unfold PL.byt
 rw[hb]
 exact⟨rfl,hs,hl⟩
theorem G67_eq{a:List GDelta}(h:BOk a):G67 (byt a)=some (a,true):=by
 obtain⟨hb,hs,hl⟩:=h.byt
 have hn:=h.n
 have hlen:=congrArg List.length hl
 unfold bytL at hlen hl
 rw[bl_len,List.length_append]at hlen
 have hge:=dsL_ge a
 obtain⟨b,hbb⟩:∃ b,byt a=b:=⟨_,rfl⟩
 rw[hbb]at hb hs hl hlen ⊢
 have h65:G65s0 b=some ⟨b,false⟩:=rfl
 unfold G67 T67
 simp only[Tr.den,h65,Option.bind_some]
 rw[G135_eq ⟨by omega,by omega⟩ (by omega) hl (by omega)]
 simp only[Option.bind_some]
 have key:whileM (fun s=>(T67_L0 b ⟨b,false⟩ ((a.length:Int),mkB (dsL a)) s).den) (mkB (dsL a),([]:List GDelta),0)=some (.inl a):=by
  have:=while_trace (bd:=fun s=>(T67_L0 b ⟨b,false⟩ ((a.length:Int),mkB (dsL a)) s).den) (fun i=>(mkB (dsL (a.drop i)),a.take i,(i:Int))) a.length (r:=.inl a) (fun i hi=>?_) ?_
  ·simpa using this
  ·have hT:=h.t.get i
   have hR:=h.z.get i
   have hNN:=h.d.n _ (getD_mem hi)
   have b1:=rowB_size2 hR
   have hdl:=dsL_drop a i
   have hq:bl (mkB (dsL (a.drop i)))=bl (numB (a.getD i default).Time)++(bl (txtB (rowB (a.getD i default).Row))++(bl (numB (a.getD i default).N)++dsL (a.drop (i+1)))):=by
    rw[bl_mk,drop_getD' hi,dsL_cons]; simp[oneL]
   have hql:=congrArg List.length hq
   rw[bl_mk,List.length_append,List.length_append]at hql
   unfold T67_L0
   simp only[Tr.den]
   rw[if_pos (decT (by split <;> omega)),G66_eq ⟨by omega,by omega⟩ hq (by rw[←bl_len,bl_mk]; omega)]
   simp only[Option.bind_some]
   rw[G68_eq (by omega) (bl_mk _) (by rw[←bl_len,bl_mk,List.length_append]; omega)]
   simp only[Option.bind_some]
   rw[G136_eq hR.v (by have:=hR.l; omega) (by omega)]
   simp only[Option.bind_some,Bool.not_true,Bool.false_eq_true,if_false]
   rw[G66_eq hNN (bl_mk _) (by rw[←bl_len,bl_mk]; omega)]
   simp only[Option.bind_some]
   rw[if_pos (by simp only[List.length_take,List.length_cons,List.length_nil]; omega),wrap_inc (by omega),take_getD hi]
  ·unfold T67_L0
   simp only[Tr.den]
   rw[if_neg (decF (by split <;> omega)),List.take_length]
 rw[key]
 simp only[sel,Option.bind_some]
 rw[G137_can a h.can h.d.r (by omega)]
 simp only[Option.bind_some,Bool.not_true,Bool.false_eq_true,if_false,hb,tl_self]
structure okUv (c:Nat)(v:GValue):Prop where
 k:in64 v.Kind
 n:in64 v.N
 s:v.S.size≤c
theorem G144_sp(a:ByteArray)(hs:a.size≤1000):Sp (G144 a) (fun r=>r.1.length≤1000∧∀ v,v∈r.1→okUv 1000 v):=by
 have h72:G72s0 a=some ⟨a,false⟩:=rfl
 unfold G144 T144
 simp only[Tr.den,h72,Option.bind_some]
 refine Sq.bind _ (G143_sp ⟨a,false⟩ (by simp only; omega)) fun r2 hr2=>?_
 obtain⟨h1,h2,h3⟩:=hr2
 refine Sq.bind (fun z:(ByteArray×Bool×List GValue)⊕(List GValue×Bool)=>∃ b,z = .inl b∧b.2.2.length≤1000∧∀ v,v∈b.2.2→okUv 1000 v) ?_ fun z hz=>?_
 ·refine Sq.while (fun s:ByteArray×Bool×List GValue×Int=>s.1.size≤a.size∧0≤s.2.2.2∧s.2.2.2≤(a.size:Int)∧s.2.2.1.length=s.2.2.2.toNat∧∀ v,v∈s.2.2.1→okUv 1000 v) (fun s=>a.size-s.2.2.2.toNat) (fun s hI=>?_) ⟨h3.1,by simp only; omega,by simp only; omega,rfl,fun v hv=>by cases hv⟩
  obtain⟨v3,v4,v5,v6⟩:=s
  obtain⟨i1,i2,i3,i4,i5⟩:=hI
  simp only at i1 i2 i3 i4 i5
  unfold T144_L0
  simp only[Tr.den]
  refine Sq.bind (fun j:List GValue×Bool=>j.1=v5∧(j.2=true→v6<(a.size:Int))) (sq_iteB (fun _=>sq_some.2 ⟨rfl,fun h=>of_decide_eq_true h⟩) fun _=>sq_some.2 ⟨rfl,fun h=>by cases h⟩) fun j hj=>?_
  obtain⟨j1,j2⟩:=j
  obtain⟨e,hj⟩:=hj
  simp only at e hj
  subst e
  refine sq_iteB (fun h=>?_) fun _=>sq_some.2 ⟨_,rfl,by simp only; omega,i5⟩
  have h:=hj h
  refine Sq.bind _ (G73_sp ⟨v3,v4⟩ (by simp only; omega)) fun r12 hr12=>?_
  have q1:r12.2.1.size≤v3.size:=hr12.2.1
  refine Sq.bind _ (G73_sp ⟨r12.2.1,r12.2.2⟩ (by simp only; omega)) fun r13 hr13=>?_
  have q2:r13.2.1.size≤r12.2.1.size:=hr13.2.1
  refine Sq.bind _ (G75_sp ⟨r13.2.1,r13.2.2⟩ (by simp only; omega)) fun r14 hr14=>?_
  have q3:r14.2.1.size≤r13.2.1.size:=hr14.2.1
  have q4:r14.1.size≤r13.2.1.size:=hr14.1
  rw[if_pos (by simp only[List.length_cons,List.length_nil]; omega)]
  have e:IntKind.i64.wrap (v6+1)=v6+1:=wrap_id (by omega) (by omega)
  rw[e]
  refine sq_some.2 ⟨⟨by simp only; omega,by simp only; omega,by simp only; omega,by simp only[List.length_append,List.length_cons,List.length_nil]; omega,fun v hv=>?_⟩,by simp only; omega⟩
  rcases List.mem_append.1 hv with hv | hv
  ·exact i5 v hv
  ·rw[List.mem_singleton]at hv; subst hv
   exact⟨hr12.1,hr13.1,by simp only; omega⟩
 ·obtain⟨⟨b7,b8,b9⟩,rfl,h4,h5⟩:=hz
  simp only at h4 h5
  simp only[sel]
  refine Sq.bind _ (G76_sp ⟨b7,b8⟩) fun r15 _=>?_
  refine Sq.bind (fun j:List GValue×Bool=>j.1=b9) (sq_iteB (fun _=>sq_some.2 rfl) fun _=>sq_some.2 rfl) fun j hj=>?_
  obtain⟨j1,j2⟩:=j
  simp only at hj
  subst hj
  exact sq_iteB (fun _=>sq_some.2 ⟨by simp,fun v hv=>by cases hv⟩) fun _=>sq_some.2 ⟨h4,h5⟩
structure okU (l:List GDelta):Prop where
 d:okD l
 r:∀ d,d∈l→d.Row.length≤1000
 v:∀ d,d∈l→∀ v,v∈d.Row→okUv 1000 v
 t:∀ d,d∈l→in64 d.Time
 n:l.length≤1000
theorem okU.nil:okU []:=⟨.nil,fun d hd=>(by cases hd),fun d hd=>(by cases hd),fun d hd=>(by cases hd),Nat.zero_le _⟩
theorem okU.vs{l:List GDelta}(h:okU l){d:GDelta}(hd:d∈l):okVs d.Row:=fun v hv=>by
 have q:=h.v d hd v hv
 exact⟨q.k,q.n,by have:=q.s; omega⟩
theorem valB_sizeU{v:GValue}(h:okUv 1000 v):(valB v).size≤1100:=by
 have h1:=numB_size h.k
 have h2:=numB_size h.n
 have h3:=txtB_size2 (s:=v.S) (by have:=h.s; omega)
 have:=h.s
 unfold valB
 rw[ByteArray.size_append,ByteArray.size_append]
 omega
theorem foldB_sizeU(b:ByteArray):∀ (r:List GValue),(∀ v,v∈r→okUv 1000 v)→(r.foldl (fun b v=>b++valB v) b).size≤b.size+r.length*1100
 | [],_=>by simp
 | v::r,h=>by
  have h1:=foldB_sizeU (b++valB v) r fun u hu=>h u (List.mem_cons_of_mem _ hu)
  have h2:=valB_sizeU (h v List.mem_cons_self)
  rw[ByteArray.size_append]at h1
  simp only[List.foldl_cons,List.length_cons]
  omega
theorem rowB_sizeU{r:List GValue}(h:∀ v,v∈r→okUv 1000 v)(hn:r.length≤1000):(rowB r).size≤1200000:=by
 have h1:=foldB_sizeU ((⟨#[]⟩:ByteArray)++numB (r.length:Int)) r h
 have h2:=numB_size (n:=(r.length:Int)) ⟨by omega,by omega⟩
 have h0:(⟨#[]⟩:ByteArray).size=0:=rfl
 rw[ByteArray.size_append,h0]at h1
 unfold rowB
 omega
theorem deltaB_sizeU{l:List GDelta}(h:okU l){d:GDelta}(hd:d∈l):(deltaB d).size≤1300000:=by
 have b1:=rowB_sizeU (h.v d hd) (h.r d hd)
 have b2:=txtB_size2 (s:=rowB d.Row) (by omega)
 have b3:=numB_size (h.t d hd)
 have b4:=numB_size (h.d.n d hd)
 unfold deltaB
 rw[ByteArray.size_append,ByteArray.size_append]
 omega
theorem foldD_sizeU(b:ByteArray){l:List GDelta}(h:okU l):∀ k,k≤l.length→((l.take k).foldl (fun b d=>b++deltaB d) b).size≤b.size+k*1300000
 | 0,_=>by simp
 | k+1,hk=>by
  have h1:=foldD_sizeU b h k (by omega)
  have h2:=deltaB_sizeU h (getD_mem (show k<l.length by omega))
  rw[take_succ_getD (by omega),List.foldl_append]
  simp only[List.foldl_cons,List.foldl_nil]
  rw[ByteArray.size_append]
  omega
theorem G57_can{r:List GDelta}(h:okU r)(hc:Can r):G57 r=some (listB r):=by
 have hr:=h.n
 unfold G57 T57
 simp only[Tr.den]
 rw[G107_eq r h.d.r h.d.n (by omega),cons_id hc]
 simp only[Option.bind_some]
 rw[G123_eq r.length (by omega)]
 simp only[Option.bind_some]
 have hs:=numB_size (n:=(r.length:Int)) ⟨by omega,by omega⟩
 have h1:=while_trace (bd:=fun s=>(T57_L0 r s).den) (fun i=>((r.take i).foldl (fun b d=>b++deltaB d) (numB (r.length:Int)),(i:Int))) r.length (r:=.inl (listB r)) (fun i hi=>?_) ?_
 ·refine(congrArg (fun x=>Option.bind x _) h1).trans ?_
  rfl
 ·unfold T57_L0
  simp only[Tr.den,Int.toNat_natCast]
  have h2:=foldD_sizeU (numB (r.length:Int)) h i (by omega)
  have hmul:i*1300000≤1000*1300000:=Nat.mul_le_mul (by omega) (Nat.le_refl _)
  have hm:=getD_mem hi
  have b1:=rowB_sizeU (h.v _ hm) (h.r _ hm)
  have iT:=h.t _ hm
  have b2:=txtB_size2 (s:=rowB (r.getD i default).Row) (by omega)
  have b3:=numB_size iT
  have b4:=numB_size (h.d.n _ hm)
  have hl:=h.r _ hm
  rw[if_pos (decT (by omega)),if_pos (by omega),G55_eq iT]
  simp only[Option.bind_some]
  rw[if_pos (by omega),if_pos (by omega),G124_eq _ (h.vs hm) (by omega)]
  simp only[Option.bind_some]
  rw[G56_eq (by omega)]
  simp only[Option.bind_some]
  rw[ByteArray.size_append,if_pos (by omega),if_pos (by omega),G55_eq (h.d.n _ hm)]
  simp only[Option.bind_some]
  rw[ByteArray.size_append,ByteArray.size_append,if_pos (by omega),wrap_inc (by omega),take_succ_getD hi,List.foldl_append]
  simp only[List.foldl_cons,List.foldl_nil]
  rw[app3]
  rfl
 ·unfold T57_L0
  simp only[Tr.den]
  rw[if_neg (decF (by omega)),List.take_length]
  rfl
theorem G145_sp(l:List GDelta)(ho:okRs l)(hn6:okN l)(hn:l.length≤1000000):Sp (G145 l) (fun r=>r=true→Can l):=by
 unfold G145 T145
 simp only[Tr.den]
 refine Sq.bind (fun z:Unit⊕Bool=>(z = .inl ()∧Can l)∨z = .inr false) ?_ fun z hz=>?_
 ·refine sq_count (fun s:Int=>s) l.length (by omega) (fun s=>(∀ j,j<s.toNat→(l.getD j default).N≠0)∧∀ j,j+1<s.toNat→cmpD (l.getD j default) (l.getD (j+1) default)<0) (fun s k hI hk hkN=>?_) ⟨fun j hj=>by simp at hj,fun j hj=>by simp at hj⟩ rfl
  subst hk
  rw[Int.toNat_natCast]at hI
  unfold T145_L0
  simp only[Tr.den,Int.toNat_natCast]
  by_cases hc:k<l.length
  ·rw[if_pos (decT (by omega))]
   refine Sq.bind (fun j:Bool=>j=false→(l.getD k default).N≠0∧(0<k→cmpD (l.getD (k-1) default) (l.getD k default)<0)) ?_ fun j hj=>?_
   ·rw[if_pos (by omega)]
    refine sq_iteB (fun _=>sq_some.2 fun h=>by cases h) fun h0=>?_
    have h0:(l.getD k default).N≠0:=beq_eq_false_iff_ne.1 h0
    refine sq_iteB (fun h1=>?_) fun h1=>sq_some.2 fun _=>⟨h0,fun h=>absurd (of_decide_eq_false h1) (by omega)⟩
    have h1:=of_decide_eq_true h1
    have e:(if (0:Int)>(IntKind.i64.wrap ((k:Int)-1)) then (0:Int) else (IntKind.i64.wrap ((k:Int)-1)))=((k-1:Nat):Int):=by
     have:=wrap_sub (n:=k) (m:=1) (by omega) (by omega)
     rw[show ((k:Int)-1)=((k:Int)-((1:Nat):Int)) by omega,this,if_neg (by omega)]
    rw[e,if_pos (by omega),if_pos (by omega),Int.toNat_natCast,G49_eq _ _ (ho _ (getD_mem (by omega))) (ho _ (getD_mem hc))]
    simp only[Option.bind_some]
    exact sq_some.2 fun h=>⟨h0,fun _=>by have:=of_decide_eq_false h; omega⟩
   ·refine sq_iteB (fun _=>sq_some.2 (.inr rfl)) fun h=>?_
    obtain⟨g1,g2⟩:=hj h
    rw[wrap_inc (by omega)]
    refine sq_some.2 ⟨rfl,hc,fun j hj=>?_,fun j hj=>?_⟩
    ·rw[Int.toNat_natCast]at hj
     by_cases hjk:j=k
     ·subst hjk; exact g1
     ·exact hI.1 j (by omega)
    ·rw[Int.toNat_natCast]at hj
     by_cases hjk:j+1=k
     ·subst hjk; have:=g2 (by omega); simpa using this
     ·exact hI.2 j (by omega)
  ·rw[if_neg (decF (by omega))]
   refine sq_some.2 (.inl ⟨rfl,?_,fun x hx=>?_,hn6⟩)
   ·have key:∀ (j d:Nat),j+d+1<l.length→cmpD (l.getD j default) (l.getD (j+d+1) default)<0:=by
     intro j d
     induction d with
     | zero=>intro h; exact hI.2 j (by omega)
     | succ d ih=>intro h; exact cmpD_tr (ih (by omega)) (hI.2 (j+d+1) (by omega))
    refine List.pairwise_iff_getElem.2 fun i j hi hj hij=>?_
    have:=key i (j-i-1) (by omega)
    rw[show i+(j-i-1)+1=j by omega,getD_lt hi,getD_lt hj]at this
    exact this
   ·obtain⟨j,hj,rfl⟩:=List.mem_iff_getElem.1 hx
    have:=hI.1 j (by omega)
    rw[getD_lt hj]at this
    exact this
 ·rcases hz with⟨rfl,hz⟩ | rfl
  ·exact sq_some.2 fun _=>hz
  ·exact sq_some.2 fun h=>by cases h
theorem G74_sp(a:ByteArray)(hs:a.size≤600):Sp (G74 a) (fun r=>r.2=true→Can r.1∧okU r.1∧a=listB r.1):=by
 have h72:G72s0 a=some ⟨a,false⟩:=rfl
 unfold G74 T74
 simp only[Tr.den,h72,Option.bind_some]
 refine Sq.bind _ (G143_sp ⟨a,false⟩ (by simp only; omega)) fun r2 hr2=>?_
 obtain⟨h1,h2,h3⟩:=hr2
 refine Sq.bind (fun z:List GDelta⊕(List GDelta×Bool)=>match z with | .inl b=>okU b | .inr r=>r=([],false)) ?_ fun z hz=>?_
 ·refine Sq.while (fun s:ByteArray×Bool×List GDelta×Int=>s.1.size≤a.size∧0≤s.2.2.2∧s.2.2.2≤(a.size:Int)+1∧s.2.2.1.length=s.2.2.2.toNat∧okU s.2.2.1) (fun s=>a.size+1-s.2.2.2.toNat) (fun s hI=>?_)
   ⟨h3.1,by simp only; omega,by simp only; omega,rfl,okU.nil⟩
  obtain⟨v3,v4,v5,v6⟩:=s
  obtain⟨i1,i2,i3,i4,i5⟩:=hI
  simp only at i1 i2 i3 i4 i5
  unfold T74_L0
  simp only[Tr.den]
  refine Sq.bind (fun j:List GDelta×Bool=>j.1=v5∧(j.2=true→v6≤(a.size:Int))) (sq_iteB (fun _=>sq_some.2 ⟨rfl,fun h=>of_decide_eq_true h⟩) fun _=>sq_some.2 ⟨rfl,fun h=>by cases h⟩) fun j hj=>?_
  obtain⟨j1,j2⟩:=j
  obtain⟨e,hj⟩:=hj
  simp only at e hj
  subst e
  refine sq_iteB (fun h=>?_) fun _=>sq_some.2 i5
  have h:=hj h
  refine Sq.bind _ (G73_sp ⟨v3,v4⟩ (by simp only; omega)) fun r10 hr10=>?_
  have q1:r10.2.1.size≤v3.size:=hr10.2.1
  refine Sq.bind _ (G75_sp ⟨r10.2.1,r10.2.2⟩ (by simp only; omega)) fun r11 hr11=>?_
  have q2:r11.2.1.size≤r10.2.1.size:=hr11.2.1
  have q3:r11.1.size≤r10.2.1.size:=hr11.1
  refine Sq.bind _ (G144_sp r11.1 (by omega)) fun r12 hr12=>?_
  refine sq_iteB (fun _=>sq_some.2 rfl) fun _=>?_
  refine Sq.bind _ (G73_sp ⟨r11.2.1,r11.2.2⟩ (by simp only; omega)) fun r13 hr13=>?_
  have q4:r13.2.1.size≤r11.2.1.size:=hr13.2.1
  rw[if_pos (by simp only[List.length_cons,List.length_nil]; omega)]
  have e:IntKind.i64.wrap (v6+1)=v6+1:=wrap_id (by omega) (by omega)
  rw[e]
  have hl:(j1++[GDelta.mk r10.1 r12.1 r13.1]).length=(v6+1).toNat:=by simp only[List.length_append,List.length_cons,List.length_nil]; omega
  refine sq_some.2 ⟨⟨by simp only; omega,by simp only; omega,by simp only; omega,hl,⟨⟨fun d hd=>?_,fun d hd=>?_⟩,fun d hd=>?_,fun d hd=>?_,fun d hd=>?_,by simp only at hl ⊢; omega⟩⟩,by simp only; omega⟩
  ·rcases List.mem_append.1 hd with hd | hd
   ·exact i5.d.r d hd
   ·rw[List.mem_singleton]at hd; subst hd; have:=hr12.1; unfold okR; simp only; omega
  ·rcases List.mem_append.1 hd with hd | hd
   ·exact i5.d.n d hd
   ·rw[List.mem_singleton]at hd; subst hd; exact hr13.1
  ·rcases List.mem_append.1 hd with hd | hd
   ·exact i5.r d hd
   ·rw[List.mem_singleton]at hd; subst hd; exact hr12.1
  ·rcases List.mem_append.1 hd with hd | hd
   ·exact i5.v d hd
   ·rw[List.mem_singleton]at hd; subst hd; exact hr12.2
  ·rcases List.mem_append.1 hd with hd | hd
   ·exact i5.t d hd
   ·rw[List.mem_singleton]at hd; subst hd; exact hr10.1
 ·cases z with
  | inr r=>subst hz; exact sq_some.2 fun h=>by cases h
  | inl b=>
   simp only at hz
   simp only[sel]
   refine Sq.bind _ (G145_sp b hz.d.r hz.d.n (by have:=hz.n; omega)) fun r14 hr14=>?_
   refine Sq.bind (fun j:List GDelta×Bool=>j.1=b∧(j.2=false→Can b∧a=listB b)) ?_ fun j hj=>?_
   ·refine sq_iteB (fun _=>sq_some.2 ⟨rfl,fun h=>by cases h⟩) fun h=>?_
    have hc:=hr14 (by simpa using h)
    rw[G57_can hz hc]
    simp only[Option.bind_some]
    exact sq_some.2 ⟨rfl,fun h=>⟨hc,(bl_inj (tl_bl (by simpa using h))).symm⟩⟩
   ·obtain⟨j1,j2⟩:=j
    obtain⟨e,hj⟩:=hj
    simp only at e hj
    subst e
    exact sq_iteB (fun _=>sq_some.2 fun h=>by cases h) fun h=>sq_some.2 fun _=>⟨(hj h).1,hz,(hj h).2⟩
theorem G77_sp{l:List GDelta}(hc:Can l)(ho:okD l)(hn:l.length≤1000000):Sp (G77 l) (fun r=>r=true→∀ d,d∈l→0≤d.N):=by
 unfold G77 T77
 simp only[Tr.den]
 rw[G107_eq l ho.r ho.n (by omega),cons_id hc]
 simp only[Option.bind_some]
 refine Sq.bind (fun z:Unit⊕Bool=>(z = .inl ()∧∀ d,d∈l→0≤d.N)∨z = .inr false) ?_ fun z hz=>?_
 ·refine sq_count (fun s:Int=>s) l.length (by omega) (fun s=>∀ j,j<s.toNat→0≤(l.getD j default).N) (fun s k hI hk hkN=>?_) (fun j hj=>by simp at hj) rfl
  subst hk
  rw[Int.toNat_natCast]at hI
  unfold T77_L0
  simp only[Tr.den,Int.toNat_natCast]
  by_cases hc:k<l.length
  ·rw[if_pos (decT (by omega)),if_pos (by omega)]
   refine sq_iteB (fun _=>sq_some.2 (.inr rfl)) fun h=>?_
   have h:=of_decide_eq_false h
   rw[wrap_inc (by omega)]
   refine sq_some.2 ⟨rfl,hc,fun j hj=>?_⟩
   rw[Int.toNat_natCast]at hj
   by_cases hjk:j=k
   ·subst hjk; omega
   ·exact hI j (by omega)
  ·rw[if_neg (decF (by omega))]
   refine sq_some.2 (.inl ⟨rfl,fun x hx=>?_⟩)
   obtain⟨j,hj,rfl⟩:=List.mem_iff_getElem.1 hx
   have:=hI j (by omega)
   rw[getD_lt hj]at this
   exact this
 ·rcases hz with⟨rfl,hz⟩ | rfl
  ·exact sq_some.2 fun _=>hz
  ·exact sq_some.2 fun h=>by cases h
structure RefR (n:GNode)(s:ByteArray)(cl:Int)(A B:List GDelta):Prop where
 s:s=opB cl A B
 c1:-1≤cl
 c2:cl≤4398046511104
 cA:Can A
 cB:Can B
 uA:okU A
 uB:okU B
 nA:∀ d,d∈A→0≤d.N
 nB:∀ d,d∈B→0≤d.N
 t:∀ d,d∈A++B→0≤d.Time∧d.Time≤2199023255552∧(0≤cl→cl-backF n<d.Time)
theorem G29s0_sp{n:GNode}(hg:okGNode n)(hn:okNode n)(s:ByteArray)(hs:s.size≤600):Sp (G29s0 n s) (fun z=>∀ op,z = .inr op→∃ A B,op=⟨n,[A,B],op.Closed⟩∧RefR n s op.Closed A B):=by
 have h72:G72s0 s=some ⟨s,false⟩:=rfl
 have hbk:=backF_in hn
 unfold G29s0 T29s0
 simp only[Tr.den,h72,Option.bind_some]
 rw[G17s0_eq hg]
 simp only[Option.bind_some]
 refine Sq.bind _ (G73_sp ⟨s,false⟩ (by simp only; omega)) fun r3 hr3=>?_
 have q3:r3.2.1.size≤s.size:=hr3.2.1
 refine Sq.bind _ (G75_sp ⟨r3.2.1,r3.2.2⟩ (by simp only; omega)) fun r4 hr4=>?_
 have q4:r4.2.1.size≤r3.2.1.size:=hr4.2.1
 have q4':r4.1.size≤r3.2.1.size:=hr4.1
 refine Sq.bind _ (G74_sp r4.1 (by omega)) fun r5 hr5=>?_
 refine Sq.bind _ (G75_sp ⟨r4.2.1,r4.2.2⟩ (by simp only; omega)) fun r6 hr6=>?_
 have q6:r6.2.1.size≤r4.2.1.size:=hr6.2.1
 have q6':r6.1.size≤r4.2.1.size:=hr6.1
 refine Sq.bind _ (G74_sp r6.1 (by omega)) fun r7 hr7=>?_
 refine Sq.bind _ (G76_sp ⟨r6.2.1,r6.2.2⟩) fun r8 hr8=>?_
 have htr:=(hr3.2.trans hr4.2).trans hr6.2
 refine Sq.bind (fun j:Bool=>j=false→r8=true∧r5.2=true∧r7.2=true ∧ -1≤r3.1∧r3.1≤4398046511104∧(∀ d,d∈r5.1→0≤d.N)∧∀ d,d∈r7.1→0≤d.N) ?_ fun j hj=>?_
 ·refine sq_iteB (fun _=>sq_some.2 fun h=>by cases h) fun e1=>?_
  have e1:r8=true:=by simpa using e1
  refine sq_iteB (fun _=>sq_some.2 fun h=>by cases h) fun e2=>?_
  have e2:r5.2=true:=by simpa using e2
  refine sq_iteB (fun _=>sq_some.2 fun h=>by cases h) fun e3=>?_
  have e3:r7.2=true:=by simpa using e3
  refine sq_iteB (fun _=>sq_some.2 fun h=>by cases h) fun e4=>?_
  have e4:=of_decide_eq_false e4
  refine sq_iteB (fun _=>sq_some.2 fun h=>by cases h) fun e5=>?_
  have e5:=of_decide_eq_false e5
  have f5:=hr5 e2
  have f7:=hr7 e3
  refine Sq.bind _ (G77_sp f5.1 f5.2.1.d (by have:=f5.2.1.n; omega)) fun r10 hr10=>?_
  refine sq_iteB (fun _=>sq_some.2 fun h=>by cases h) fun e6=>?_
  refine Sq.bind _ (G77_sp f7.1 f7.2.1.d (by have:=f7.2.1.n; omega)) fun r11 hr11=>?_
  exact sq_some.2 fun h=>⟨e1,e2,e3,by omega,by omega,hr10 (by simpa using e6),hr11 (by simpa using h)⟩
 refine sq_iteB (fun _=>sq_some.2 fun op h=>by cases h) fun hjf=>?_
 obtain⟨e1,e2,e3,e4,e5,e6,e7⟩:=hj hjf
 obtain⟨cA,uA,sA⟩:=hr5 e2
 obtain⟨cB,uB,sB⟩:=hr7 e3
 obtain⟨d1,d2⟩:=hr8 e1
 simp only at d1 d2
 obtain⟨A,hA⟩:∃ A,A=r5.1:=⟨_,rfl⟩
 obtain⟨B,hB⟩:∃ B,B=r7.1:=⟨_,rfl⟩
 rw[←hA]at cA uA sA e6 ⊢
 rw[←hB]at cB uB sB e7 ⊢
 have nA:=uA.n
 have nB:=uB.n
 rw[G44_eq hn]
 simp only[Option.bind_some]
 rw[if_pos (by simp only[List.length_nil]; omega),if_pos (by simp only[List.nil_append]; omega)]
 have hseq:s=opB r3.1 A B:=bl_inj (by
  rw[(htr.ok d1).2,d2,sA,sB]
  unfold opB
  rw[bl_app,bl_app,List.append_nil])
 have hW:IntKind.i64.wrap (r3.1-backF n)=r3.1-backF n:=wrap_id (by omega) (by omega)
 refine Sq.bind (fun z:Unit⊕(Unit⊕GOp)=>z = .inr (.inl ())∨(z = .inl ()∧∀ d,d∈A++B→0≤d.Time∧d.Time≤2199023255552∧(0≤r3.1→r3.1-backF n<d.Time))) ?_ fun z hz=>?_
 ·rw[List.nil_append]
  have hLn:(A++B).length≤2000:=by rw[List.length_append]; omega
  generalize A++B=L at hLn ⊢
  refine sq_count (fun s:List GDelta×Int=>s.2) L.length (by omega) (fun s=>s.1=L∧∀ j,j<s.2.toNat→0≤(L.getD j default).Time∧(L.getD j default).Time≤2199023255552∧(0≤r3.1→r3.1-backF n<(L.getD j default).Time)) (fun s k hI hk hkN=>?_) ⟨rfl,fun j hj=>by simp at hj⟩ rfl
  obtain⟨v13,v14⟩:=s
  obtain⟨hI1,hI⟩:=hI
  simp only at hk hI1 hI
  subst hk hI1
  rw[Int.toNat_natCast]at hI
  unfold T29s0_L0
  simp only[Tr.den,Int.toNat_natCast]
  by_cases hc:k<v13.length
  ·rw[if_pos (decT (by omega))]
   refine Sq.bind (fun j:List GDelta×Bool=>j.1=v13∧(j.2=false→0≤(v13.getD k default).Time∧(v13.getD k default).Time≤2199023255552∧(0≤r3.1→r3.1-backF n<(v13.getD k default).Time))) ?_ fun j hj=>?_
   ·rw[if_pos (by omega),if_pos hc]
    refine sq_iteB (fun _=>sq_some.2 ⟨rfl,fun h=>by cases h⟩) fun g1=>?_
    have g1:=of_decide_eq_false g1
    rw[if_pos (by omega),if_pos hc]
    refine sq_iteB (fun _=>sq_some.2 ⟨rfl,fun h=>by cases h⟩) fun g2=>?_
    have g2:=of_decide_eq_false g2
    refine sq_iteB (fun g3=>?_) fun g3=>sq_some.2 ⟨rfl,fun _=>⟨by omega,by omega,fun h=>absurd (of_decide_eq_false g3) (by omega)⟩⟩
    rw[hW,if_pos (by omega),if_pos hc]
    exact sq_some.2 ⟨rfl,fun h=>⟨by omega,by omega,fun _=>by have:=of_decide_eq_false h; omega⟩⟩
   ·obtain⟨j1,j2⟩:=j
    obtain⟨e,hj⟩:=hj
    simp only at e hj
    subst e
    refine sq_iteB (fun _=>sq_some.2 (.inl rfl)) fun h=>?_
    have h:=hj h
    rw[wrap_inc (by omega)]
    refine sq_some.2 ⟨rfl,hc,rfl,fun j hj=>?_⟩
    simp only at hj
    rw[Int.toNat_natCast]at hj
    by_cases hjk:j=k
    ·subst hjk; exact h
    ·exact hI j (by omega)
  ·rw[if_neg (decF (by omega))]
   refine sq_some.2 (.inr ⟨rfl,fun x hx=>?_⟩)
   obtain⟨j,hj,rfl⟩:=List.mem_iff_getElem.1 hx
   have:=hI j (by omega)
   rw[getD_lt hj]at this
   exact this
 ·rcases hz with rfl | ⟨rfl,hz⟩
  ·exact sq_some.2 fun op h=>by cases h
  ·refine sq_some.2 fun op h=>?_
   cases h
   exact⟨A,B,rfl,hseq,e4,e5,cA,cB,uA,uB,e6,e7,hz⟩
theorem OInv.uniq{n:GNode}{A B:List GDelta}{t:Int}{m m':KS}(h:OInv n A B t m)(h':OInv n A B t m'):m=m':=h.mc.ext LO.bytes h'.mc fun k=>by rw[h.look,h'.look]
structure BIn (n:GNode)(i:Int)(a:List GDelta):Prop where
 b:BOk a
 ok:okI n i a
 p:∀ d,d∈a→0≤d.N
theorem BIn.okY{n:GNode}{i:Int}{a:List GDelta}(h:BIn n i a):okY a:=⟨h.b.d,h.b.z,h.b.t,h.b.n⟩
theorem BOk.lst{a:List GDelta}(h:BOk a):PL.byt a=listB a:=by
 have h1:=h.byt.1
 rw[G53_eq ⟨h.d,h.z,h.t,h.n⟩,cons_id h.can]at h1
 exact(Option.some.inj h1).symm
theorem G105s3_eq(l:List GDelta)(h:∀ d,d∈l→0≤d.N)(hn:l.length≤1000000000000):G105s0 l=some (-1):=by
 unfold G105s0 T105s0
 simp only[Tr.den]
 have h1:=while_trace (bd:=fun s=>(T105s0_L0 l s).den) (fun k=>(k:Int)) l.length (r:=.inl ()) (fun k hk=>?_) ?_
 ·refine(congrArg (fun x=>Option.bind x _) h1).trans ?_
  rfl
 ·have hm:=h _ (getD_mem hk)
  have e:G141 (l.getD k default)=some false:=by
   unfold G141 T141
   simp only[Tr.den]
   rw[decide_eq_false (by omega)]
  unfold T105s0_L0
  simp only[Tr.den,Int.toNat_natCast]
  rw[if_pos (decT (by omega)),if_pos (by omega),e]
  simp only[Option.bind_some,Bool.false_eq_true,if_false]
  rw[wrap_inc (by omega)]
 ·unfold T105s0_L0
  simp only[Tr.den]
  rw[if_neg (decF (by omega))]
theorem G69_eq{a:List GDelta}(h:BOk a)(hp:∀ d,d∈a→0≤d.N):G69 a=some true:=by
 have hn:=h.n
 unfold G69 T69
 simp only[Tr.den]
 rw[G27_eq a h.d.r h.d.n (by omega),cons_id h.can]
 simp only[Option.bind_some]
 unfold G140s0 T140s0
 simp only[Tr.den]
 rw[G105s3_eq a hp (by omega)]
 rfl
theorem G70_sp{n:GNode}{i:Int}(hi:i=0∨i=1){M:Int}(hM:0≤M)(hM2:M≤100000)(hc:∀ c,c∈colsOf n i→0≤c∧c<M)(hl:(colsOf n i).length≤1000):Sp (G70 n i) (fun r=>r≤M):=by
 unfold G70 T70
 simp only[Tr.den]
 have step:∀ cols:List Int,(∀ c,c∈cols→0≤c∧c<M)→∀ k,k<cols.length→∀ v1:Int,v1≤M→(if IntKind.i64.wrap (cols.getD k default+1)>v1 then IntKind.i64.wrap (cols.getD k default+1) else v1)≤M:=by
  intro cols h k hk v1 hv
  have:=h _ (getD_mem hk)
  rw[wrap_id (by omega) (by omega)]
  split <;> omega
 rcases hi with rfl | rfl
 ·rw[if_pos rfl]
  have hc:∀ c,c∈n.Key→0≤c∧c<M:=hc
  have hl:n.Key.length≤1000:=hl
  refine Sq.bind (fun z:Int⊕Int=>∃ b,z = .inl b∧b≤M) (sq_count (fun s:Int×Int=>s.2) n.Key.length (by omega) (fun s=>s.1≤M) (fun s k hI hk hkN=>?_) hM rfl) fun z hz=>?_
  ·obtain⟨v1,v2⟩:=s
   simp only at hk hI
   subst hk
   unfold T70_L0
   simp only[Tr.den,Int.toNat_natCast]
   by_cases h:k<n.Key.length
   ·rw[if_pos (decT (by omega)),if_pos (by omega)]
    exact sq_some.2 ⟨rfl,h,step _ hc k h v1 hI⟩
   ·rw[if_neg (decF (by omega))]
    exact sq_some.2 ⟨v1,rfl,hI⟩
  ·obtain⟨b,rfl,hb⟩:=hz
   exact sq_some.2 hb
 ·rw[if_neg (by decide),if_pos rfl]
  have hc:∀ c,c∈n.Key2→0≤c∧c<M:=hc
  have hl:n.Key2.length≤1000:=hl
  refine Sq.bind (fun z:Int⊕Int=>∃ b,z = .inl b∧b≤M) (sq_count (fun s:Int×Int=>s.2) n.Key2.length (by omega) (fun s=>s.1≤M) (fun s k hI hk hkN=>?_) hM rfl) fun z hz=>?_
  ·obtain⟨v1,v2⟩:=s
   simp only at hk hI
   subst hk
   unfold T70_L1
   simp only[Tr.den,Int.toNat_natCast]
   by_cases h:k<n.Key2.length
   ·rw[if_pos (decT (by omega)),if_pos (by omega)]
    exact sq_some.2 ⟨rfl,h,step _ hc k h v1 hI⟩
   ·rw[if_neg (decF (by omega))]
    exact sq_some.2 ⟨v1,rfl,hI⟩
  ·obtain⟨b,rfl,hb⟩:=hz
   exact sq_some.2 hb
def setSd(i:Int)(s:GSide)(l:List GDelta):GSide:=if i=0 then ⟨⟨l,s.rows_.e1⟩⟩ else ⟨⟨s.rows_.e0,l⟩⟩
structure GInv (n:GNode)(i:Int)(X:List GDelta)(m0:KS)(s:List ByteArray×List (ByteArray×List GDelta)×KS):Prop where
 g:s.2.1=groupM n i X
 nd:s.1.Nodup
 ne:∀ k,k∈s.1→ofK n i k X≠[]
 mc:MC s.2.2
 yes:∀ k,ofK n i k X≠[]→k∉s.1→mlook s.2.2 k=some (setSd i ((mlook m0 k).getD side0) (ofK n i k X))
 no:∀ k,ofK n i k X=[]∨k∈s.1→mlook s.2.2 k=mlook m0 k
theorem GInv.step{n:GNode}{i:Int}{X:List GDelta}{m0:KS}{rem:List ByteArray}{v:KS}(h:GInv n i X m0 (rem,groupM n i X,v)){k:ByteArray}(hk:k∈rem){c:List GDelta}(hc:mlook (groupM n i X) k=some c){x y:GSide}
  (hx:x=setSd i ((mlook m0 k).getD side0) c):GInv n i X m0 (kerase rem k,mput (groupM n i X) k c,mput (mput v k y) k x)∧(kerase rem k).length<rem.length:=by
 have hmc:=groupM_mc n i X
 have h1:rem.Nodup:=h.nd
 have hv:MC v:=h.mc
 have hcc:c=ofK n i k X:=by
  rw[groupM_look]at hc
  split at hc
  ·cases hc
  ·exact(Option.some.inj hc).symm
 refine⟨⟨mput_self LO.bytes hmc hc,kerase_nodup h1 k,fun k' hk'=>h.ne k' ((kerase_mem h1).1 hk').2,(hv.mput LO.bytes _ _).mput LO.bytes _ _,fun k' q1 q2=>?_,fun k' q=>?_⟩,kerase_len hk⟩
 ·simp only at q2 ⊢
  rw[mlook_mput]
  by_cases hkk:k=k'
  ·subst hkk; rw[if_pos rfl,hx,hcc]
  ·rw[if_neg hkk,mlook_mput,if_neg hkk]
   exact h.yes k' q1 fun h=>q2 ((kerase_mem h1).2 ⟨fun he=>hkk he.symm,h⟩)
 ·simp only at q ⊢
  have hkk:¬ k=k':=by
   rintro rfl
   rcases q with q | q
   ·exact h.ne k hk q
   ·exact((kerase_mem h1).1 q).1 rfl
  rw[mlook_mput,if_neg hkk,mlook_mput,if_neg hkk]
  exact h.no k' (q.imp id fun q=>((kerase_mem h1).1 q).2)
theorem putAll{n:GNode}{i:Int}(hi:i=0∨i=1)(X:List GDelta)(m0:KS)(h0:MC m0)(Q:KS⊕((KS×ByteArray×Int)⊕((KS×ByteArray)⊕(GNode×Int×KS×Bool)))→Prop)
  (hQ:∀ m:KS,MC m→(∀ k,mlook m k=if ofK n i k X=[] then mlook m0 k else some (setSd i ((mlook m0 k).getD side0) (ofK n i k X)))→Q (.inl m)):
  Tr.LoopT (fun s Z=>(T28s0_L2 i s).wpT Z) Q (mkeys (groupM n i X),groupM n i X,m0):=by
 have hmc:=groupM_mc n i X
 refine loopWp (GInv n i X m0) (fun s=>s.1.length) (fun s hs=>?_) ⟨rfl,hmc.nodup LO.bytes,fun k hk=>?_,h0,fun k h h'=>?_,fun k _=>rfl⟩
 ·obtain⟨rem,G,v⟩:=s
  have e:G=groupM n i X:=hs.g
  subst e
  unfold T28s0_L2
  simp only[Tr.wpT]
  refine⟨fun hr=>?_,fun k c hk hc=>?_,fun hr=>?_⟩
  ·subst hr
   refine hQ v hs.mc fun k=>?_
   by_cases hk:ofK n i k X=[]
   ·rw[if_pos hk]; exact hs.no k (.inl hk)
   ·rw[if_neg hk]; exact hs.yes k hk (by simp)
  ·have hvk:mlook v k=mlook m0 k:=hs.no k (.inr hk)
   cases hm:mlook m0 k with
   | none=>
    rw[hvk,hm]
    simp only[mlook_mput,if_true]
    rcases hi with rfl | rfl
    ·rw[if_pos rfl]; exact hs.step hk hc (by rw[hm]; rfl)
    ·rw[if_neg (by decide),if_pos rfl]; exact hs.step hk hc (by rw[hm]; rfl)
   | some c24=>
    rw[hvk,hm]
    simp only[mlook_mput,if_true]
    rcases hi with rfl | rfl
    ·rw[if_pos rfl]; exact hs.step hk hc (by rw[hm]; rfl)
    ·rw[if_neg (by decide),if_pos rfl]; exact hs.step hk hc (by rw[hm]; rfl)
  ·cases rem with
   | nil=>exact absurd rfl hr
   | cons k rem=>
    refine⟨k,ofK n i k X,List.mem_cons_self,?_⟩
    rw[groupM_look,if_neg (hs.ne k List.mem_cons_self)]
 ·obtain⟨c,hc⟩:=mkeys_look.1 hk
  rw[groupM_look]at hc
  split at hc
  ·cases hc
  ·assumption
 ·exact absurd (mkeys_look.2 ⟨_,by rw[groupM_look,if_neg h]⟩) h'
theorem putA{n:GNode}{A:List GDelta}(hA:okI n 0 A){m:KS}(hm:MC m)(h:∀ k,mlook m k=if ofK n 0 k A=[] then mlook ([]:KS) k else some (setSd 0 ((mlook ([]:KS) k).getD side0) (ofK n 0 k A))):OInv n A [] (-1) m:=by
 refine⟨hm,fun k=>?_⟩
 rw[h,aft_all hA]
 by_cases hk:ofK n 0 k A=[]
 ·rw[if_pos hk,hk]; rfl
 ·have hl:0<(ofK n 0 k A).length:=List.length_pos_iff.2 hk
  rw[if_neg hk]
  unfold keepS
  rw[if_neg (by simp only; omega)]
  rfl
theorem putB{n:GNode}{A B:List GDelta}(hA:okI n 0 A)(hB:okI n 1 B){m0 m:KS}(h0:OInv n A [] (-1) m0)(hm:MC m)(h:∀ k,mlook m k=if ofK n 1 k B=[] then mlook m0 k else some (setSd 1 ((mlook m0 k).getD side0) (ofK n 1 k B))):OInv n A B (-1) m:=by
 refine⟨hm,fun k=>?_⟩
 rw[h,aft_all hA,aft_all hB,h0.look,aft_all hA,keepS_getD]
 by_cases hk:ofK n 1 k B=[]
 ·rw[if_pos hk,hk]; rfl
 ·have hl:0<(ofK n 1 k B).length:=List.length_pos_iff.2 hk
  rw[if_neg hk]
  unfold keepS
  rw[if_neg (by simp only; omega)]
  rfl
theorem readIn{n:GNode}(hN:okNode n){i:Int}(hi:i=0∨i=1){X:List GDelta}(hX:BIn n i X){cl:Int}(hc1:-1≤cl)(hc2:cl≤4398046511104)(hlate:∀ d,d∈X→0≤cl→cl-backF n<d.Time)(a0:GNode)(ha0:a0=n)(r1:GReader)(hr1:r1.bad_=false)(r2:GNode×Int×KS)
  (hr2:r2.1=n)(r3:Int×ByteArray)(hr3:r3.1=cl)(r4:Int×Int)(hr4:r4.1=backF n)(m0:KS)(h0:MC m0){rb:ByteArray}{t:List UInt8}(hrb:bl rb=bl (txtB (listB X))++t)(hsz:rb.size≤100000000000)
  (Q:(KS×ByteArray×Int)⊕((KS×ByteArray)⊕(GNode×Int×KS×Bool))→Prop)
  (hQ:∀ m:KS,MC m→(∀ k,mlook m k=if ofK n i k X=[] then mlook m0 k else some (setSd i ((mlook m0 k).getD side0) (ofK n i k X)))→Q (.inl (m,mkB t,i+1))):
  (T28s0_L0 a0 r1 r2 r3 r4 (m0,rb,i)).wpT Q:=by
 have hbk:=backF_in hN
 have hl:=hX.b.n
 have hls:=listB_size hX.okY
 have hW:IntKind.i64.wrap (cl-backF n)=cl-backF n:=wrap_id (by omega) (by omega)
 have e67:G67 (listB X)=some (X,true):=by rw[←hX.b.lst]; exact G67_eq hX.b
 subst ha0
 obtain⟨rest,bad⟩:=r1
 simp only at hr1
 subst hr1
 unfold T28s0_L0
 simp only[Tr.wpT]
 rw[if_pos (decT (by omega))]
 refine⟨_,G68_eq (by omega) hrb hsz,_,e67,?_⟩
 simp only[Bool.not_true,Bool.false_eq_true,if_false]
 refine⟨_,G69_eq hX.b hX.p,?_⟩
 simp only[Bool.not_true,Bool.false_eq_true,if_false]
 refine loopWp (fun v:Int=>0≤v∧v≤(X.length:Int)) (fun v=>X.length-v.toNat) (fun v hv=>?_) ⟨by omega,by omega⟩
 unfold T28s0_L1
 simp only[Tr.wpT]
 by_cases hc:v<(X.length:Int)
 ·rw[if_pos (decT hc)]
  have hk:v.toNat<X.length:=by omega
  have hm:=getD_mem hk
  have hr:=hX.ok.r _ hm
  obtain⟨y,hy,hyl⟩:=(G70_sp (n:=a0) hi (M:=((X.getD v.toNat default).Row.length:Int)) (by omega) (by omega) (hX.ok.c _ hm) (hN.cols i)).get
  refine⟨⟨hv.1,hc⟩,_,hy,?_⟩
  rw[if_neg (decF (by omega))]
  have ht:=hX.ok.t _ hm
  rw[if_neg (decF (by omega)),if_neg (decF (by omega))]
  have e:IntKind.i64.wrap (v+1)=v+1:=wrap_id (by omega) (by omega)
  by_cases h3:(0:Int)≤cl
  ·have:=hlate _ hm h3
   rw[hr3,hr4,hW,if_pos (decT h3)]
   refine ?_
   rw[if_neg (decF (by omega)),e]
   exact⟨⟨by omega,by omega⟩,by omega⟩
  ·rw[hr3,if_neg (decF (by omega))]
   simp only[Bool.false_eq_true,if_false]
   rw[e]
   exact⟨⟨by omega,by omega⟩,by omega⟩
 ·rw[if_neg (decF hc)]
  simp only[sel]
  refine⟨groupM a0 i X,by rw[hr2,G58s0_eq i X a0 r2.2.1 m0 hi hX.ok (hN.cols i) (by omega),cons_id hX.b.can],?_⟩
  refine putAll hi X m0 h0 _ fun m hm hk=>?_
  simp only[sel]
  rw[wrap_id (by omega) (by omega)]
  exact hQ m hm hk
theorem G28s0_eq{n:GNode}(hN:okNode n){A B:List GDelta}(hA:BIn n 0 A)(hB:BIn n 1 B){cl:Int}(hc1:-1≤cl)(hc2:cl≤4398046511104)(hlA:∀ d,d∈A→0≤cl→cl-backF n<d.Time)(hlB:∀ d,d∈B→0≤cl→cl-backF n<d.Time)
  {m:KS}(hm:OInv n A B (-1) m):G28s0 n (opB cl A B)=some (n,cl,m,true):=by
 have hsA:=listB_size hA.okY
 have hsB:=listB_size hB.okY
 have hci:in64 cl:=⟨by omega,by omega⟩
 have l0:=numB_size hci
 have l1:=txtB_size2 (s:=listB A) (by omega)
 have l2:=txtB_size2 (s:=listB B) (by omega)
 have hb:bl (opB cl A B)=bl (numB cl)++(bl (txtB (listB A))++bl (txtB (listB B))):=by
  unfold opB; rw[bl_app,bl_app,List.append_assoc]
 have hsz:(opB cl A B).size≤50000000000:=by
  unfold opB; rw[ByteArray.size_append,ByteArray.size_append]; omega
 have h65:G65s0 (opB cl A B)=some ⟨opB cl A B,false⟩:=rfl
 have k1:=hN.k1
 have k2:=hN.k2
 unfold G28s0
 refine Det.eq ?_
 unfold T28s0
 simp only[Tr.wpT]
 refine⟨_,h65,_,G9s0_eq n (by omega) (by omega),_,G66_eq hci hb (by omega),_,G10_eq hN,?_⟩
 refine loopWp (fun s:KS×ByteArray×Int=>(s.2.2=0∧s.1=[]∧s.2.1=mkB (bl (txtB (listB A))++bl (txtB (listB B))))∨(s.2.2=1∧OInv n A [] (-1) s.1∧s.2.1=mkB (bl (txtB (listB B))))∨(s.2.2=2∧OInv n A B (-1) s.1∧s.2.1=mkB []))
  (fun s=>(2-s.2.2).toNat) (fun s hs=>?_) (.inl ⟨rfl,rfl,rfl⟩)
 obtain⟨v5,v6,v7⟩:=s
 rcases hs with⟨e1,e2,e3⟩ | ⟨e1,e2,e3⟩ | ⟨e1,e2,e3⟩ <;> simp only at e1 e2 e3 <;> subst e1
 ·subst e2 e3
  have hz:(mkB (bl (txtB (listB A))++bl (txtB (listB B)))).size≤100000000000:=by
   rw[←bl_len,bl_mk,List.length_append,bl_len,bl_len]; omega
  exact readIn hN (.inl rfl) hA hc1 hc2 hlA n rfl _ rfl _ rfl _ rfl _ rfl [] MC_nil (bl_mk _) hz _ fun m1 hm1 hk1=>⟨.inr (.inl ⟨rfl,putA hA.ok hm1 hk1,rfl⟩),by simp only; omega⟩
 ·subst e3
  have hz:(mkB (bl (txtB (listB B)))).size≤100000000000:=by
   rw[←bl_len,bl_mk,bl_len]; omega
  exact readIn hN (.inr rfl) hB hc1 hc2 hlB n rfl _ rfl _ rfl _ rfl _ rfl v5 e2.mc (t:=[]) (by rw[bl_mk,List.append_nil]) hz _ fun m1 hm1 hk1=>⟨.inr (.inr ⟨rfl,putB hA.ok hB.ok e2 hm1 hk1,rfl⟩),by simp only; omega⟩
 ·have hmm:=e2.uniq hm
  subst hmm e3
  unfold T28s0_L0
  simp only[Tr.wpT]
  rw[if_neg (decF (by omega))]
  simp only[sel]
  refine⟨_,G71_eq,?_⟩
  simp only[Bool.not_true,Bool.false_eq_true,if_false]
  rw[if_neg (decF (by omega)),if_neg (decF (by omega))]
  trivial
theorem det_congr{P:Program}{Y:Type}{t t':Tr P Y}(h:∀ Q,t.wpT Q↔t'.wpT Q):Det t=Det t':=by
 cases hd:Det t with
 | some y=>exact(Det.eq ((h _).1 (Det.ok hd))).symm
 | none=>
  cases hd':Det t' with
  | none=>rfl
  | some y=>rw[Det.eq ((h _).2 (Det.ok hd'))]at hd; cases hd
theorem G54_10(i:Int)(m:KS)(n:GNode)(c:Int):G54s1 i m n c=G54s0 i n c m:=by
 have e:(fun s Z=>(T54s1_L0 i s).wpT Z)=(fun s Z=>(T54s0_L0 i s).wpT Z):=funext fun s=>funext fun Z=>by
  obtain⟨x,y,z⟩:=s
  unfold T54s1_L0 T54s0_L0
  simp only[Tr.wpT]
 unfold G54s1 G54s0
 refine det_congr fun Q=>?_
 unfold T54s1 T54s0
 simp only[Tr.wpT]
 rw[e]
theorem G22_10(m:KS)(n:GNode)(c:Int):G22s1 m n c=G22s0 n c m:=by
 unfold G22s1 G22s0 T22s1 T22s0
 simp only[Tr.den,G54_10]
structure JI (n:GNode)(ta tb:List Int)(acts:List GAct)(k:Nat)(m:KS)(cl:Int)(a0 a1:List GDelta):Prop where
 p:KIn n a0 a1 k
 o:OInv n a0 a1 (cl-backF n) m
 c1:-1≤cl
 c2:cl≤2199023255552
 f:FitsR ta tb (acts.drop k) a0 a1 cl
section
variable {n:GNode} {ta tb:List Int} {acts:List GAct} {k:Nat} {m:KS} {cl:Int} {a0 a1:List GDelta}
theorem JI.act(hN:okNode n)(hR:RightN n ta tb)(hok:okL 40 okGAct acts)(hlen:acts.length≤25)(hk:k<acts.length)(h:JI n ta tb acts k m cl a0 a1):
  ∃ r m' cl' b0 b1,G11s0 (acts.getD k default) n cl m=some (r,m',cl')∧okRs r∧r.length≤1000000000000∧JI n ta tb acts (k+1) m' cl' b0 b1:=by
 obtain⟨hP,hO,hc1,hc2,hFk⟩:=h
 have hok':=hok.2 _ (getD_mem hk)
 have hi:=bit1 (acts.getD k default).Do
 have hb:=backF_in hN
 rw[drop_getD hk]at hFk
 have I0:=hP.in0 (show k≤100 by omega)
 have I1:=hP.in1 (show k≤100 by omega)
 unfold G11s0 T11s0
 simp only[Tr.den]
 by_cases h3:(bitA .i64 (acts.getD k default).Do 3==3)=true
 ·obtain⟨hC,hF'⟩:=hFk.1 h3
  rw[if_pos h3]
  by_cases hle:(acts.getD k default).C>cl
  ·rw[if_pos hle]at hF'
   rw[G32s0_eq _ n cl m hN (hO.okM I0 I1) (by omega) (by omega) hC]
   exact⟨[],_,_,a0,a1,rfl,fun _ h=>(by cases h),by simp,hP.more,hO.close (by omega),by omega,hC,hF'⟩
  ·rw[if_neg hle]at hF'
   rw[G32s0_old _ n cl m (by omega)]
   exact⟨[],_,_,a0,a1,rfl,fun _ h=>(by cases h),by simp,hP.more,hO,hc1,hc2,hF'⟩
 ·obtain⟨hLn,hD,hPos,hF'⟩:=hFk.2 (Bool.eq_false_iff.2 h3)
  rw[if_neg h3]
  obtain⟨hIL,hP'⟩:=hP.push hR hok'.2.2 hLn hD hPos
  have hcl:=cons_len (acts.getD k default).L
  have hal:∀ d,d∈(acts.getD k default).L→aft (cl-backF n) d=true:=fun d hd=>decT (by have:=(hD d hd).1; omega)
  have hM:=hO.okM I0 I1
  have hpush:=hO.push hP.c0 hP.c1 hi hIL.n hal
  obtain⟨q1,q2⟩:=pushOut_ok hi hIL.cons hM (by omega)
  have q3:=cons_len ((mkeys (groupM n (bitA .i64 (acts.getD k default).Do 1) (PL.cons (acts.getD k default).L))).flatMap (pushO n (bitA .i64 (acts.getD k default).Do 1) (PL.cons (acts.getD k default).L) m))
  have hmul:(PL.cons (acts.getD k default).L).length*100000000≤8*100000000:=Nat.mul_le_mul (by omega) (Nat.le_refl _)
  rw[G25s0_eq (bitA .i64 (acts.getD k default).Do 1) (acts.getD k default).L n cl m hi hN hIL hM (by omega) (by omega)]
  exact⟨_,_,_,_,_,rfl,q1.cons.r,by simp only; omega,hP',hpush,hc1,hc2,hF'⟩
theorem JI.bytes(h:JI n ta tb acts k m cl a0 a1)(hk:k≤100):G22s0 n cl m=some (opB cl (a0.filter (aft (cl-backF n))) (a1.filter (aft (cl-backF n))),m):=
 G22s0_val (h.o.cut h.p.i0 h.p.i1) ((h.p.in0 hk).filter _) ((h.p.in1 hk).filter _) (h.p.z0.filter _) (h.p.z1.filter _) ⟨by have:=h.c1; omega,by have:=h.c2; omega⟩
theorem JI.rows(h:JI n ta tb acts k m cl a0 a1)(hk:k≤100):∃ x,G15s0 n cl m=some (x,m):=
 ⟨_,G15s0_eq n cl m h.o.mc fun k s hs=>by
  have hM:=h.o.okM (h.p.in0 hk) (h.p.in1 hk)
  exact⟨by have:=(hM.s k s hs).l0; omega,by have:=(hM.s k s hs).l1; omega⟩⟩
theorem BIn.of{i:Int}{a:List GDelta}(h:InOk n i a)(hz:okZ a):BIn n i a:=⟨⟨h.can,h.ok.okD,hz,h.ok.t,by have:=h.len; omega⟩,h.ok,fun d hd=>by have:=(h.pos d hd).1; omega⟩
theorem JI.read(hN:okNode n)(h:JI n ta tb acts k m cl a0 a1)(hk:k≤100):G28s0 n (opB cl (a0.filter (aft (cl-backF n))) (a1.filter (aft (cl-backF n))))=some (n,cl,m,true):=
 G28s0_eq hN (.of ((h.p.in0 hk).filter _) (h.p.z0.filter _)) (.of ((h.p.in1 hk).filter _) (h.p.z1.filter _)) h.c1 (by have:=h.c2; omega) (fun d hd _=>of_decide_eq_true (List.mem_filter.1 hd).2) (fun d hd _=>of_decide_eq_true (List.mem_filter.1 hd).2) (h.o.cut h.p.i0 h.p.i1)
end
abbrev SJ:=(KS×Int×Int)⊕(KS×KS×Int×List Int×ByteArray×Int×List Expr×Int×Int×Int×List Int×List Int×Int×Int×Int×List GAgg×List GPat×List GCol×Int×Int×Int)
inductive StJ (n:GNode)(m:KS)(cl:Int)(k:Nat):SJ→Prop
 | one:StJ n m cl k (.inl (m,cl,(k:Int)))
 | two:StJ n m cl k (.inr (m,m,n.Op,n.In,n.Source,n.Schema,n.Exprs,n.Kind,n.Size,n.Step,n.Key,n.Key2,n.Before,n.After,n.Keep,n.Aggs,n.Seq,n.Cols,cl,cl,(k:Int)))
def cntJ:SJ→Int
 | .inl s=>s.2.2
 | .inr s=>s.2.2.2.2.2.2.2.2.2.2.2.2.2.2.2.2.2.2.2.2
theorem StJ.cnt{n:GNode}{m:KS}{cl:Int}{k:Nat}{s:SJ}(h:StJ n m cl k s):cntJ s=(k:Int):=by cases h <;> rfl
theorem bneS(x:Int):(x != x)=false:=by simp
theorem jbMain(n:GNode)(ta tb:List Int)(acts:List GAct)(at_:Int)(a4:ByteArray)(hok:okL 40 okGAct acts)(k1:n.Key.length≤20)(k2:n.Key2.length≤20)(hR:RightN n ta tb)(hlen:acts.length≤25)(hF:FitsR ta tb acts [] [] (-1))(r1:Bool):
  Sp (whileM (fun s=>(T6_L0 n [ta,tb] acts at_ a4 r1 (n,-1,[]) s).den) (.inl (([]:KS),-1,0))) (fun z=>z = .inl ()):=by
 have hN:okNode n:=⟨hR.op,by omega,by omega⟩
 have hb:=backF_in hN
 refine Sq.while (fun s:SJ=>∃ m cl k a0 a1,StJ n m cl k s∧k≤acts.length∧JI n ta tb acts k m cl a0 a1) (fun s=>acts.length-(cntJ s).toNat) (fun s hI=>?_)
  ⟨[],-1,0,[],[],.one,by omega,KIn.nil n,OInv.init n _,by omega,by omega,by simpa using hF⟩
 obtain⟨m,cl,k,a0,a1,hs,hkl,hJ⟩:=hI
 have hcnt:=hs.cnt
 rw[hcnt]
 have tail:∀ (m':KS) (cl':Int) (b0 b1:List GDelta),JI n ta tb acts (k+1) m' cl' b0 b1→k<acts.length→∀ s':SJ,StJ n m' cl' (k+1) s' →
   Sq true (some (.inl s'):Option (SJ⊕(Unit⊕Bool))) (sel (fun s':SJ=>(∃ m cl k a0 a1,StJ n m cl k s'∧k≤acts.length∧JI n ta tb acts k m cl a0 a1)∧acts.length-(cntJ s').toNat<acts.length-(k:Int).toNat) (fun z:Unit⊕Bool=>z = .inl ())):=by
  intro m' cl' b0 b1 h hc s' hs'
  refine sq_some.2 ⟨⟨m',cl',k+1,b0,b1,hs',hc,h⟩,?_⟩
  rw[hs'.cnt]; omega
 by_cases hc:k<acts.length
 ·obtain⟨r,m',cl',b0,b1,eA,oR,lR,hJ'⟩:=hJ.act hN hR hok hlen hc
  have eB:=hJ.bytes (show k≤100 by omega)
  have eD:=hJ.read hN (show k≤100 by omega)
  have eB':=hJ'.bytes (show k+1≤100 by omega)
  obtain⟨x,eR'⟩:=hJ'.rows (show k+1≤100 by omega)
  have eta:(⟨n.Op,n.In,n.Source,n.Schema,n.Exprs,n.Kind,n.Size,n.Step,n.Key,n.Key2,n.Before,n.After,n.Keep,n.Aggs,n.Seq,n.Cols⟩:GNode)=n:=rfl
  cases hs with
  | one=>
   unfold T6_L0
   simp only[Tr.den,Int.toNat_natCast]
   rw[if_pos (decT (by omega))]
   refine sq_iteB (fun _=>?_) fun _=>?_
   ·rw[eB]
    simp only[Option.bind_some]
    rw[eD]
    simp only[Option.bind_some,Bool.not_true,Bool.false_eq_true,if_false]
    rw[if_pos (by omega),eA]
    simp only[Option.bind_some]
    rw[G20_self r oR lR]
    simp only[Option.bind_some,Bool.not_true,Bool.false_eq_true,if_false]
    rw[eB']
    simp only[Option.bind_some]
    rw[G22_10,eB']
    simp only[Option.bind_some,tl_self,Bool.false_eq_true,if_false]
    rw[eR']
    simp only[Option.bind_some,bneS,Bool.false_eq_true,if_false]
    rw[wrap_inc (by omega),if_pos (by omega)]
    exact tail m' cl' b0 b1 hJ' hc _ .two
   ·rw[if_pos (by omega),eA]
    simp only[Option.bind_some]
    rw[wrap_inc (by omega)]
    exact tail m' cl' b0 b1 hJ' hc _ .one
  | two=>
   unfold T6_L0
   simp only[Tr.den,Int.toNat_natCast]
   rw[if_pos (decT (by omega))]
   refine Sq.bind (fun z=>z = .inl (m,m,n.Op,n.In,n.Source,n.Schema,n.Exprs,n.Kind,n.Size,n.Step,n.Key,n.Key2,n.Before,n.After,n.Keep,n.Aggs,n.Seq,n.Cols,cl)) (sq_iteB (fun _=>?_) fun _=>sq_some.2 rfl) fun z hz=>?_
   ·rw[G22_10,eB]
    simp only[Option.bind_some]
    rw[eD]
    simp only[Option.bind_some,Bool.not_true,Bool.false_eq_true,if_false]
    exact sq_some.2 rfl
   ·subst hz
    simp only[sel]
    rw[eta,if_pos (by omega),eA]
    simp only[Option.bind_some]
    rw[G20_self r oR lR]
    simp only[Option.bind_some,Bool.not_true,Bool.false_eq_true,if_false]
    rw[eB']
    simp only[Option.bind_some]
    rw[G22_10,eB']
    simp only[Option.bind_some,tl_self,Bool.false_eq_true,if_false]
    rw[eR']
    simp only[Option.bind_some,bneS,Bool.false_eq_true,if_false]
    rw[wrap_inc (by omega),if_pos (by omega)]
    exact tail m' cl' b0 b1 hJ' hc _ .two
 ·cases hs with
  | one=>
   unfold T6_L0
   simp only[Tr.den]
   rw[if_neg (decF (by omega))]
   exact sq_some.2 rfl
  | two=>
   unfold T6_L0
   simp only[Tr.den]
   rw[if_neg (decF (by omega))]
   exact sq_some.2 rfl
theorem filt_two{α:Type}(p:α→Bool):∀ l:List α,(l.filter p).length+(l.filter fun x=>!p x).length=l.length
 | []=>rfl
 | x::l=>by
  have ih:=filt_two p l
  cases h:p x <;> simp[h] <;> omega
theorem flatMap_congrK{α β:Type}{f g:α→List β}:∀ {l:List α},(∀ x,x∈l→f x=g x)→l.flatMap f=l.flatMap g
 | [],_=>rfl
 | x::l,h=>by rw[List.flatMap_cons,List.flatMap_cons,h x List.mem_cons_self,flatMap_congrK fun y hy=>h y (List.mem_cons_of_mem _ hy)]
theorem flatK_len(n:GNode)(i:Int):∀ (ks:List ByteArray) (a:List GDelta),ks.Nodup→(ks.flatMap fun k=>ofK n i k a).length≤a.length
 | [],a,_=>Nat.zero_le _
 | k::ks,a,h=>by
  have h1:=List.nodup_cons.1 h
  have ih:=flatK_len n i ks (a.filter fun d=>!decide (kd n i d=k)) h1.2
  have e:(ks.flatMap fun k'=>ofK n i k' a)=ks.flatMap fun k'=>ofK n i k' (a.filter fun d=>!decide (kd n i d=k)):=by
   refine flatMap_congrK fun k' hk'=>?_
   unfold ofK
   rw[List.filter_filter]
   refine List.filter_congr fun d _=>?_
   by_cases hd:kd n i d=k'
   ·have:¬ kd n i d=k:=fun h'=>h1.1 (by rw[←h',hd]; exact hk')
    have h2:¬ k'=k:=fun h'=>this (hd.trans h')
    simp[hd,h2]
   ·simp[hd]
  have hf:=filt_two (fun d=>decide (kd n i d=k)) a
  rw[List.flatMap_cons,List.length_append,e]
  unfold ofK at *
  omega
theorem G54s0_gen(i:Int)(n:GNode)(cl:Int)(m:KS)(hi:i=0∨i=1)(hm:MC m){a:List GDelta}(hc:Can a)(ho:okD a)(hl:a.length≤1000)
  (hk:∀ k,k∈mkeys m→rowsOf i m k=ofK n i k a)(hall:∀ x,x∈a→kd n i x∈mkeys m):G54s0 i n cl m=some (a,m):=by
 have hnd:=hm.nodup LO.bytes
 have bnd:∀ done rest:List ByteArray,(done++rest).Perm (mkeys m)→(∀ d,d∈done.flatMap (rowsOf i m)→d∈a)∧(done.flatMap (rowsOf i m)).length≤1000:=by
  intro done rest hpm
  have hdn:done.Nodup:=(List.nodup_append.1 (hpm.nodup_iff.2 hnd)).1
  have hks:∀ k,k∈done→k∈mkeys m:=fun k hk=>hpm.mem_iff.1 (List.mem_append_left _ hk)
  have e:done.flatMap (rowsOf i m)=done.flatMap fun k=>ofK n i k a:=flatMap_congrK fun k hk'=>hk k (hks k hk')
  refine⟨fun d hd=>?_,?_⟩
  ·rw[e]at hd
   obtain⟨k,_,hk2⟩:=List.mem_flatMap.1 hd
   exact(ofK_mem.1 hk2).1
  ·rw[e]; exact Nat.le_trans (flatK_len n i done a hdn) hl
 unfold G54s0
 refine Det.eq ?_
 unfold T54s0
 simp only[Tr.wpT]
 refine loopWp (fun s:List ByteArray×KS×List GDelta=>s.2.1=m∧s.1.Nodup∧∃ done,(done++s.1).Perm (mkeys m)∧s.2.2=done.flatMap (rowsOf i m)) (fun s=>s.1.length) (fun s hs=>?_) (s:=(mkeys m,m,[])) ⟨rfl,hnd,[],.refl _,rfl⟩
 obtain⟨rem,m',acc⟩:=s
 obtain⟨e,h1,done,h2,h3⟩:=hs
 simp only at e h1 h2 h3
 subst e h3
 obtain⟨q1,q3⟩:=bnd done rem h2
 unfold T54s0_L0
 simp only[Tr.wpT]
 refine⟨fun hr=>?_,fun k c hk' hc'=>?_,fun hr=>?_⟩
 ·subst hr
  simp only[sel]
  rw[List.append_nil]at h2
  have hs:Same a (done.flatMap (rowsOf i m')):=fun p=>by
   have:wt p (done.flatMap (rowsOf i m'))=wt p a:=by
    rw[wt_perm p (flatMap_perm (rowsOf i m') h2),wt_flat,sumK_congr fun k hk'=>by rw[hk k hk']]
    exact sumK_ofK p n i _ hnd a hall
   rw[this]
  have okd:okD (done.flatMap (rowsOf i m')):=ho.sub q1
  exact⟨_,G27_eq _ okd.r okd.n (by omega),by rw[cons_eq hc okd.n hs]⟩
 ·have hkm:k∈mkeys m':=h2.mem_iff.1 (List.mem_append_right _ hk')
  have hrow:rowsOf i m' k=two i c.rows_.e0 c.rows_.e1:=by unfold rowsOf; rw[hc']
  have hp2:=kerase_perm hk'
  have h2':((done++[k])++kerase rem k).Perm (mkeys m'):=by
   rw[List.append_assoc]
   exact((List.Perm.append_left done hp2).symm).trans h2
  obtain⟨r1,r3⟩:=bnd (done++[k]) (kerase rem k) h2'
  rw[List.flatMap_append,List.length_append]at r3
  simp only[List.flatMap_cons,List.flatMap_nil,List.append_nil]at r3
  rw[hrow]at r3
  have fin:(fun s':List ByteArray×KS×List GDelta=>(s'.2.1=m'∧s'.1.Nodup∧∃ done,(done++s'.1).Perm (mkeys m')∧s'.2.2=done.flatMap (rowsOf i m'))∧s'.1.length<rem.length) (kerase rem k,mput m' k c,done.flatMap (rowsOf i m')++two i c.rows_.e0 c.rows_.e1):=by
   refine⟨⟨mput_self LO.bytes hm hc',kerase_nodup h1 k,done++[k],h2',?_⟩,kerase_len hk'⟩
   rw[List.flatMap_append]
   simp only[List.flatMap_cons,List.flatMap_nil,List.append_nil]
   rw[hrow]
  rcases hi with rfl | rfl
  ·rw[show two 0 c.rows_.e0 c.rows_.e1=c.rows_.e0 from rfl]at r3 fin
   rw[if_pos rfl]
   exact⟨by omega,fin⟩
  ·rw[show two 1 c.rows_.e0 c.rows_.e1=c.rows_.e1 from rfl]at r3 fin
   rw[if_neg (by decide),if_pos rfl]
   exact⟨by omega,fin⟩
 ·cases rem with
  | nil=>exact absurd rfl hr
  | cons k rem=>
   obtain⟨c,hc'⟩:=mkeys_look.1 (h2.mem_iff.1 (List.mem_append_right _ List.mem_cons_self))
   exact⟨k,c,List.mem_cons_self,hc'⟩
theorem G22s0_gen{n:GNode}{A B:List GDelta}{m:KS}(h:OInv n A B (-1) m)(hA:BIn n 0 A)(hB:BIn n 1 B){cl:Int}(hc:in64 cl):G22s0 n cl m=some (opB cl A B,m):=by
 have all:∀ i:Int,(i=0∨i=1)→G54s0 i n cl m=some (two i A B,m):=by
  intro i hi
  have hT:BIn n i (two i A B):=by
   rcases hi with rfl | rfl
   ·exact hA
   ·exact hB
  exact G54s0_gen i n cl m hi h.mc hT.b.can hT.b.d hT.b.n (fun k hk=>rowsOf_eq h hA.ok hB.ok hi hk) fun x hx=>keys_all h hA.ok hB.ok hi hx
 have eA:G53 A=some (listB A):=by rw[G53_eq hA.okY,cons_id hA.b.can]
 have eB:G53 B=some (listB B):=by rw[G53_eq hB.okY,cons_id hB.b.can]
 have sA:=listB_size hA.okY
 have sB:=listB_size hB.okY
 have l0:=numB_size hc
 have l1:=txtB_size2 (s:=listB A) (by omega)
 have l2:=txtB_size2 (s:=listB B) (by omega)
 unfold G22s0 T22s0
 simp only[Tr.den]
 rw[G51_eq hc]
 simp only[Option.bind_some]
 rw[all 0 (.inl rfl)]
 simp only[Option.bind_some]
 rw[show two (0:Int) A B=A from rfl,eA]
 simp only[Option.bind_some]
 rw[G52_eq2 (by omega)]
 simp only[Option.bind_some]
 rw[if_pos (by omega),all 1 (.inr rfl)]
 simp only[Option.bind_some]
 rw[show two (1:Int) A B=B from rfl,eB]
 simp only[Option.bind_some]
 rw[G52_eq2 (by omega)]
 simp only[Option.bind_some]
 rw[if_pos (by rw[ByteArray.size_append]; omega)]
 rfl
theorem OInv.make(n:GNode){A B:List GDelta}(hA:okI n 0 A)(hB:okI n 1 B):∃ m,OInv n A B (-1) m:=by
 have step:∀ (i:Int) (X:List GDelta) (m0:KS),MC m0→∃ m:KS,MC m∧∀ k,mlook m k=if ofK n i k X=[] then mlook m0 k else some (setSd i ((mlook m0 k).getD side0) (ofK n i k X)):=by
  intro i X m0 h0
  have key:∀ ks:List ByteArray,ks.Nodup→∃ m:KS,MC m∧(∀ k,k∈ks→mlook m k=some (setSd i ((mlook m0 k).getD side0) (ofK n i k X)))∧∀ k,k∉ks→mlook m k=mlook m0 k:=by
   intro ks
   induction ks with
   | nil=>exact fun _=>⟨m0,h0,fun k hk=>(by cases hk),fun _ _=>rfl⟩
   | cons q ks ih=>
    intro hnd
    have h1:=List.nodup_cons.1 hnd
    obtain⟨m,hm,g1,g2⟩:=ih h1.2
    refine⟨mput m q (setSd i ((mlook m0 q).getD side0) (ofK n i q X)),hm.mput LO.bytes _ _,fun k hk=>?_,fun k hk=>?_⟩
    ·rw[mlook_mput]
     by_cases hqk:q=k
     ·subst hqk; rw[if_pos rfl]
     ·rw[if_neg hqk]
      rcases List.mem_cons.1 hk with rfl | hk
      ·exact absurd rfl hqk
      ·exact g1 k hk
    ·rw[List.mem_cons,not_or]at hk
     rw[mlook_mput,if_neg (fun h=>hk.1 h.symm)]
     exact g2 k hk.2
  obtain⟨m,hm,g1,g2⟩:=key (mkeys (groupM n i X)) ((groupM_mc n i X).nodup LO.bytes)
  refine⟨m,hm,fun k=>?_⟩
  by_cases hk:ofK n i k X=[]
  ·rw[if_pos hk]
   refine g2 k fun h=>?_
   obtain⟨c,hc⟩:=mkeys_look.1 h
   rw[groupM_look,if_pos hk]at hc
   cases hc
  ·rw[if_neg hk]
   exact g1 k (mkeys_look.2 ⟨_,by rw[groupM_look,if_neg hk]⟩)
 obtain⟨m1,hm1,g1⟩:=step 0 A [] MC_nil
 obtain⟨m2,hm2,g2⟩:=step 1 B m1 hm1
 exact⟨m2,putB hA hB (putA hA hm1 g1) hm2 g2⟩
theorem BIn.ref{n:GNode}{ta tb:List Int}(hR:RightN n ta tb){i:Int}(hi:i=0∨i=1){a:List GDelta}(hc:Can a)(hu:okU a)(hp:∀ d,d∈a→0≤d.N)(ht:∀ d,d∈a→0≤d.Time∧d.Time≤2199023255552)(hr:∀ d,d∈a→d.Row.length=(two i ta tb).length):BIn n i a:=by
 have hla:=hR.la
 have hlb:=hR.lb
 have h12:(two i ta tb).length≤12:=by
  rcases hi with rfl | rfl
  ·exact hla
  ·exact hlb
 refine⟨⟨hc,hu.d,fun d hd=>⟨by rw[hr d hd]; exact h12,hu.vs hd,fun v hv=>by have:=(hu.v d hd v hv).s; omega⟩,ht,hu.n⟩,⟨fun d hd=>hu.vs hd,fun d hd q hq=>?_,hu.r,ht,hu.d.n⟩,hp⟩
 rw[hr d hd]
 rcases hi with rfl | rfl
 ·exact hR.k1 q hq
 ·exact hR.k2 q hq
theorem fitL{ta tb:List Int}(la:ta.length≤12)(lb:tb.length≤12)(n:GNode)(a4:ByteArray)(r1:Bool)(op:GOp){A B:List GDelta}(hL:op.L=[A,B])(uA:okU A)(uB:okU B):
  Sp (whileM (fun s=>(T6_L1 n [ta,tb] a4 r1 op s).den) 0) (fun z=>z = .inr r1∨(z = .inl ()∧(∀ d,d∈A→d.Row.length=ta.length)∧∀ d,d∈B→d.Row.length=tb.length)):=by
 have inner:∀ (j:Nat) (X:List GDelta) (t:List Int),j<2→([A,B]:List (List GDelta)).getD j default=X→([ta,tb]:List (List Int)).getD j default=t→okU X→t.length≤12 →
   Sp (whileM (fun s=>(T6_L2 [ta,tb] r1 op (j:Int) s).den) 0) (fun z=>z = .inr (.inr (.inr r1))∨(z = .inl ()∧∀ d,d∈X→d.Row.length=t.length)):=by
  intro j X t hj hX ht hu hlt
  have hn:=hu.n
  have e2:([A,B]:List (List GDelta)).length=2:=rfl
  have e2':([ta,tb]:List (List Int)).length=2:=rfl
  refine sq_count (fun s:Int=>s) X.length (by omega) (fun s=>∀ q,q<s.toNat→(X.getD q default).Row.length=t.length) (fun s k hI hk hkN=>?_) (fun q hq=>by simp at hq) rfl
  subst hk
  rw[Int.toNat_natCast]at hI
  unfold T6_L2
  simp only[Tr.den,Int.toNat_natCast,hL,e2,e2',hX,ht]
  rw[if_pos (by omega)]
  by_cases hc:k<X.length
  ·rw[if_pos (decT (by omega)),if_pos (by omega),if_pos (by omega),if_pos (by omega)]
   have hm:=getD_mem hc
   refine Sq.bind _ (G30_sp _ _ (by have:=hu.r _ hm; simp only; omega) (by omega)) fun r82 hr=>?_
   refine sq_iteB (fun _=>sq_some.2 (.inl rfl)) fun h=>?_
   have hr:=(hr (by simpa using h)).2.2
   rw[wrap_inc (by omega)]
   refine sq_some.2 ⟨rfl,hc,fun q hq=>?_⟩
   rw[Int.toNat_natCast]at hq
   by_cases hqk:q=k
   ·subst hqk; exact hr
   ·exact hI q (by omega)
  ·rw[if_neg (decF (by omega))]
   refine sq_some.2 (.inr ⟨rfl,fun d hd=>?_⟩)
   obtain⟨q,hq,rfl⟩:=List.mem_iff_getElem.1 hd
   have:=hI q (by omega)
   rw[getD_lt hq]at this
   exact this
 refine Sq.while (fun v:Int=>v=0∨(v=1∧∀ d,d∈A→d.Row.length=ta.length)∨(v=2∧(∀ d,d∈A→d.Row.length=ta.length)∧∀ d,d∈B→d.Row.length=tb.length)) (fun v=>(2-v).toNat) (fun v hv=>?_) (.inl rfl)
 unfold T6_L1
 simp only[Tr.den]
 rcases hv with rfl | ⟨rfl,h1⟩ | ⟨rfl,h1,h2⟩
 ·rw[if_pos (by decide)]
  refine Sq.bind _ (inner 0 A ta (by omega) rfl rfl uA la) fun z hz=>?_
  rcases hz with rfl | ⟨rfl,h⟩
  ·exact sq_some.2 (.inl rfl)
  ·exact sq_some.2 ⟨.inr (.inl ⟨by decide,h⟩),by decide⟩
 ·rw[if_pos (by decide)]
  refine Sq.bind _ (inner 1 B tb (by omega) rfl rfl uB lb) fun z hz=>?_
  rcases hz with rfl | ⟨rfl,h⟩
  ·exact sq_some.2 (.inl rfl)
  ·exact sq_some.2 ⟨.inr (.inr ⟨by decide,h1,h⟩),by decide⟩
 ·rw[if_neg (by decide)]
  exact sq_some.2 (.inr ⟨rfl,h1,h2⟩)
theorem G6_true(n:GNode)(types:List (List Int))(acts:List GAct)(at_:Int)(s:ByteArray)(hn:okGNode n)(ht:okL 24 (okL 8 inI64) types)(hok:okL 40 okGAct acts):G6 n types acts at_ s=some true:=by
 refine Sp.eq ?_
 unfold G6 T6
 simp only[Tr.den]
 rw[G7_eq]
 simp only[Option.bind_some]
 refine Sq.bind _ (G8_sp n types acts 25 (by omega) hn ht hok) (fun r hr=>?_)
 refine Sq.bind (fun j:Bool=>j=false→r=true∧s.size≤600) (sq_iteB (fun _=>sq_some.2 fun h=>by cases h) fun h=>sq_some.2 fun h'=>⟨by simpa using h,by have:=of_decide_eq_false h'; omega⟩) fun j hj=>?_
 refine sq_iteB (fun _=>sq_some.2 rfl) fun h=>?_
 obtain⟨h1,hs⟩:=hj h
 obtain⟨ta,tb,rfl,k1,k2,hR,hlen,hF⟩:=hr h1
 have hN:okNode n:=⟨hR.op,by omega,by omega⟩
 rw[G9s0_eq n (by omega) (by omega)]
 simp only[Option.bind_some]
 refine Sq.bind _ (jbMain n ta tb acts at_ s hok k1 k2 hR hlen hF true) (fun z hz=>?_)
 subst hz
 simp only[sel]
 refine Sq.bind _ (G29s0_sp hn hN s hs) fun z hz=>?_
 cases z with
 | inl u=>exact sq_some.2 rfl
 | inr op=>
  obtain⟨A,B,e,hr⟩:=hz op rfl
  simp only
  refine Sq.bind _ (fitL hR.la hR.lb n s true op (A:=A) (B:=B) (by rw[e]) hr.uA hr.uB) fun z hz=>?_
  rcases hz with rfl | ⟨rfl,hA,hB⟩
  ·exact sq_some.2 rfl
  ·have bA:BIn n 0 A:=.ref hR (.inl rfl) hr.cA hr.uA hr.nA (fun d hd=>⟨(hr.t d (List.mem_append_left _ hd)).1,(hr.t d (List.mem_append_left _ hd)).2.1⟩) hA
   have bB:BIn n 1 B:=.ref hR (.inr rfl) hr.cB hr.uB hr.nB (fun d hd=>⟨(hr.t d (List.mem_append_right _ hd)).1,(hr.t d (List.mem_append_right _ hd)).2.1⟩) hB
   obtain⟨m,hm⟩:=OInv.make n bA.ok bB.ok
   have hc1:=hr.c1
   have hc2:=hr.c2
   have hse:=hr.s
   simp only[sel,Bool.not_true]
   simp only[Tr.den,Bool.false_eq_true,if_false,if_true]
   rw[hse,G28s0_eq hN bA bB hc1 hc2 (fun d hd=>(hr.t d (List.mem_append_left _ hd)).2.2) (fun d hd=>(hr.t d (List.mem_append_right _ hd)).2.2) hm]
   simp only[Option.bind_some,if_true]
   rw[G22s0_gen hm bA bB ⟨by omega,by omega⟩]
   simp only[Option.bind_some]
   exact sq_some.2 (tl_self' _)
end Go.PL
