/-
  PatternTells: for all arguments of bulk at most 1048576 the law returns true and leaves its arguments as they were; the listed tables are tied to the program's text. Own work.
  Parts ahead of it: The row of PatternTells from what its function gives, and its card. Own work.
-/
import Derived.Test.YtjefblkdnolgaaaGreatDoorMi
import Derived.Test.YtjefblkdnolgaaaGreatDoorCards
import Derived.Test.YtjefblkdnolgaaaGreatDoorTie
import Derived.SizedLaws
import Derived.Deep.DeepHandedRow
import Derived.Lib.LaidTab
set_option maxHeartbeats 4000000
namespace Go.Proofs.YtjefblkdnolgaaaGreatDoor
open Go Go.RowKit
variable {W:World}
abbrev Lf {H:Type}:List (String×DataW H):=[("math/bits.deBruijn32tab", Rows.laid_math_bits_deBruijn32tab),("math/bits.deBruijn64tab", Rows.laid_math_bits_deBruijn64tab),("internal/strconv.uint64pow10", Rows.laid_internal_strconv_uint64pow10),("strconv.ErrRange", Rows.laid_strconv_ErrRange),("strconv.ErrSyntax", Rows.laid_strconv_ErrSyntax)]
theorem own:ownKnob Tryz.prog.godebug=none:=by kernel_rfl
theorem bFD:Tryz.prog.globalNamed "internal/strconv.uint64pow10" = some 1:=by kernel_rfl
theorem aJE:(Rows.laid_internal_strconv_uint64pow10:DataW Unit)=Lib.tabData .u64 Lib.pow10Tab:=by rfl
theorem aXV(h:laidMetH Tryz.prog Lf W):Lib.TabIs Tryz.prog W "internal/strconv.uint64pow10" .u64 Lib.pow10Tab/\1<W.heap.size:=by
 have h':laidMet Tryz.prog Lf W:=h;obtain⟨ps,hv,_⟩:=h';obtain⟨g1,t1,cs1,f1,p1,q1,_,_,_,_,hv2,_⟩:=hv;obtain⟨g2,t2,cs2,f2,p2,q2,_,_,_,_,hv3,_⟩:=hv2;obtain⟨g,t,cs,fuel,p,q,hg,hty,hvar,hd,_,_⟩:=hv3;obtain rfl:=Option.some.inj (bFD.symm.trans hg)
 have hT:Lib.TabIs Tryz.prog W "internal/strconv.uint64pow10" .u64 Lib.pow10Tab:=by
  have ht':((Tryz.prog.globals[1]?).map (·.type))=some 311:=by kernel_rfl
  obtain rfl:=Option.some.inj (ht'.symm.trans hty);rw[aJE]at hd;unfold Lib.TabIs;rw[hvar,<-Lib.cells_of_tab Tryz.underlying311 Tryz.underlying269 (by kernel_rfl) (by kernel_rfl) hd]
 refine⟨hT,?_⟩;have hc:=hT.cell bFD 0 (by decide);refine Classical.byContradiction fun h0=>?_;have:W.heap[1]? = none:=Array.getElem?_eq_none (by omega);simp[World.cell?,this]at hc
theorem glt(h:laidMetH Tryz.prog Lf W):PL.GLT Tryz.prog (fun b=>b<W.heap.size) W:=by intro b hb;obtain⟨h1,h2⟩:=aXV h;obtain rfl:=Option.some.inj (bFD.symm.trans hb);exact⟨h1,h2⟩
theorem ifc{P:Program}{t:TypeId}{cs:List Value}{d:DataW Unit}{p:List MemPlace}{m:Array (String×TypeId)}(hu:P.underlying t=some (.interface m)):
  ∀ fuel,DataW.trod (fun _=>()) P W 0 (fun _=>true) false fuel t cs=some (d,p)->∃ v,cs=[v]/\(v = .nilIface\/∃ a b,v = .iface a b)
 | 0,h=>by simp[DataW.trod]at h
 | fuel+1,h=>by unfold DataW.trod at h;rw[hu]at h;simp only at h;split at h <;> first | exact⟨_,rfl,.inl rfl⟩ | exact⟨_,rfl,.inr ⟨_,_,rfl⟩⟩ | (rename_i hx; cases hx) | cases h | simp_all
theorem bKT{n:String}{b0:Nat}(hn:Tryz.prog.globalNamed n=some b0)(hT:(Tryz.prog.globals[b0]?).map (·.type)=some 179){g:Nat}{t:TypeId}{cs:Array Value}{fuel:Nat}{d:DataW Unit}{p:List MemPlace}
  (hg:Tryz.prog.globalNamed n=some g)(hty:(Tryz.prog.globals[g]?).map (·.type)=some t)(hvar:W.var? Tryz.prog n=some cs)(hd:DataW.trod (fun _=>()) Tryz.prog W 0 (fun _=>true) false fuel t cs.toList=some (d,p)):
  PL.GLE Tryz.prog (fun b=>b<W.heap.size) W n:=by
 intro b hb;obtain rfl:=Option.some.inj (hg.symm.trans hb);obtain rfl:=Option.some.inj (hn.symm.trans hg);obtain rfl:=Option.some.inj (hT.symm.trans hty);obtain⟨v,hv,hk⟩:=ifc Tryz.underlying179 fuel hd;have hc:=World.var?_cell hg hvar 0;have h0:cs[0]? = some v:=by rw[<-Array.getElem?_toList,hv]; rfl
 rw[h0]at hc;refine⟨⟨v,hc,hk⟩,Classical.byContradiction fun h0=>?_⟩;have:W.heap[b0]? = none:=Array.getElem?_eq_none (by omega);simp[World.cell?,this]at hc
theorem glp(h:laidMetH Tryz.prog Lf W):PL.GLP Tryz.prog (fun b=>b<W.heap.size) W:=by refine⟨glt h,fun _=>?_⟩;have h':laidMet Tryz.prog Lf W:=h;obtain⟨ps,hv,_⟩:=h';obtain⟨g1,t1,cs1,f1,p1,q1,_,_,_,_,hv2,_⟩:=hv;obtain⟨g2,t2,cs2,f2,p2,q2,_,_,_,_,hv3,_⟩:=hv2;obtain⟨g3,t3,cs3,f3,p3,q3,_,_,_,_,hv4,_⟩:=hv3;obtain⟨g4,t4,cs4,f4,p4,q4,i4,j4,k4,l4,hv5,_⟩:=hv4;obtain⟨g5,t5,cs5,f5,p5,q5,i5,j5,k5,l5,_,_⟩:=hv5;exact⟨bKT (b0:=2) (by kernel_rfl) (by kernel_rfl) i5 j5 k5 l5,bKT (b0:=3) (by kernel_rfl) (by kernel_rfl) i4 j4 k4 l4⟩
def bEZ:DataW Unit->Array Value
 | .agg l=>(l.map fun d=>match d with | .lit (.int k z)=>Value.int k z | _=>.bool false).toArray
 | _=>#[]
noncomputable def aQT (h:Array Obj)(b:Nat)(d:DataW Unit):Array Obj:=h.modify b fun
 | .cells _ t frozen=>.cells (bEZ d) t frozen
 | o=>o
abbrev bLM:ByteArray:={ data:=#[105,110,118,97,108,105,100,32,115,121,110,116,97,120] }
abbrev bKQ:ByteArray:={ data:=#[118,97,108,117,101,32,111,117,116,32,111,102,32,114,97,110,103,101] }
noncomputable def low:Nat:=(World.holding Tryz.prog default ⟨#[],#[],[]⟩).heap.size
noncomputable def bJH (h:Array Obj)(b k:Nat):Array Obj:=h.modify b fun
 | .cells _ t frozen=>.cells #[.iface 335 (.pointer (some ⟨low+k,0,none⟩))] t frozen
 | o=>o
noncomputable def Bl (os:Os):World:=
 { World.holding Tryz.prog os ⟨#[.cells #[.string bLM] 337,.cells #[.string bKQ] 337],#[],[]⟩ with heap:=bJH (bJH (aQT (aQT (aQT (World.holding Tryz.prog os ⟨#[.cells #[.string bLM] 337,.cells #[.string bKQ] 337],#[],[]⟩).heap 1 Rows.laid_internal_strconv_uint64pow10) 4 Rows.laid_math_bits_deBruijn32tab) 5 Rows.laid_math_bits_deBruijn64tab) 2 0) 3 1 }
theorem aPE(os:Os)(args:Array Value):laidMet Tryz.prog Lf ((Bl os).forCall (fun _ _=>0) ⟨#[],args,[]⟩).memory:=
 laidMet_of_run' 8 (by kernel_rfl) (by kernel_rfl)
noncomputable abbrev aRA:Array Value:=#[.slice none 0 0,.agg #[.int .i64 0,.slice none 0 0,.string .empty,.int .i64 0,.slice none 0 0,.int .i64 0,.int .i64 0,.int .i64 0,.slice none 0 0,.slice none 0 0,.int .i64 0,.int .i64 0,.int .i64 0,.slice none 0 0,.slice none 0 0,.slice none 0 0],.slice none 0 0,.slice none 0 0,.string .empty]
open Go.PL in
set_option maxRecDepth 100000 in
theorem zQ(hF:∀ (a0:List PL.aI) (a1:PL.aG) (a2:List Int) (a3:List PL.aW) (a4:ByteArray),PL.okL 104 PL.fJ a0->PL.iR a1->PL.okL 8 PL.eZ a2->PL.okL 40 PL.dK a3->PL.nH a4->PL.aFS a0 a1 a2 a3 a4=some true)(os:Os)(started:os.Started)(H:Type)(enc:TypeId×Value->H)(F:Stop.Interp):
  ReturnsInHanded {} Tryz.checked os 10 .any ((Rows.OpenSpec.upto Rows.patternTellsSpec).preRow enc Tryz.prog Tryz.f10 Rows.patternTellsUptoRow.domain false Rows.patternTellsUptoRow.laid) (((Rows.OpenSpec.upto Rows.patternTellsSpec).at F).post enc Tryz.prog Tryz.f10 false true false false):=by
 refine returnsInHanded_of_row (C:=Tryz.checked) (s:=Rows.OpenSpec.upto Rows.patternTellsSpec) own started (by kernel_rfl) Tryz.func10
  (witness_row_at (enc:=enc) (C:=Tryz.checked) false (Bl os) aRA rfl (by kernel_rfl) (by kernel_rfl) (by kernel_rfl)
   (OpenSpec.preRow_of_cond 8 (x:=Option.get (DataW.whole enc Tryz.prog ((Bl os).forCall (fun _ _=>0) ⟨#[],aRA,[]⟩).memory Tryz.f10.params.toList (Rows.OpenSpec.upto Rows.patternTellsSpec).vars false aRA.toList 8) (by kernel_rfl)) (Option.some_get _).symm (by kernel_rfl) (fun k hk=>by cases hk; kernel_rfl) (by kernel_rfl) (aPE os _))) ?_
 intro W base args ds gs before hval0 hW _ hcond _ hL _ _;have hsz:=hcond _ rfl;have hval:∀ (j:Nat) t v,Tryz.f10.params[j]? = some t->args[j]? = some v->Value.okWide Tryz.prog W .any base t v:=hval0;have hW':DataW.Whole enc Tryz.prog Tryz.f10.params.toList Rows.patternTellsSpec.vars false W args.toList ds gs before:=hW;obtain⟨p,q,hA0,hV,rfl,_⟩:=hW;have hA:DataW.TrodAll enc Tryz.prog W 0 (fun _=>true) true Tryz.f10.params.toList args.toList ds p:=hA0;rw[Tryz.params10]at hA hval;obtain⟨v0,vs0,d0,ds0,p0,q0,hl0,rfl,rfl,h0,r0⟩:=Go.ChangeShapes.trodAll_cons hA;obtain⟨v1,vs1,d1,ds1,p1,q1,hl1,rfl,rfl,h1,r1⟩:=Go.ChangeShapes.trodAll_cons r0;obtain⟨v2,vs2,d2,ds2,p2,q2,hl2,rfl,rfl,h2,r2⟩:=Go.ChangeShapes.trodAll_cons r1;obtain⟨v3,vs3,d3,ds3,p3,q3,hl3,rfl,rfl,h3,r3⟩:=Go.ChangeShapes.trodAll_cons r2;obtain⟨v4,vs4,d4,ds4,p4,q4,hl4,rfl,rfl,h4,r4⟩:=Go.ChangeShapes.trodAll_cons r3;obtain⟨hl5,rfl,rfl⟩:=Go.ChangeShapes.trodAll_nil r4;subst hl5;subst hl4;subst hl3;subst hl2;subst hl1;obtain rfl:args=#[v0,v1,v2,v3,v4]:=by cases args; simp_all
 obtain⟨rfl,rfl⟩:=Go.ChangeShapes.trodVars_none hV;have hwt:Rows.uptoBulkAll [d0,d1,d2,d3,d4]<=1048576:=by have:=of_decide_eq_true hsz;simpa using this
 simp only[Rows.uptoBulkAll]at hwt;obtain⟨x0,hx0,ok0⟩:=Aq (c:=fun xs=>eL aV (xs)) Tryz.underlying22 (fun fuel=>o22 fuel) (hval 0 22 v0 rfl rfl) h0 (by omega);obtain⟨x1,hx1,ok1⟩:=Zr (c:=Hr) Tryz.underlying29 (fun fuel=>o29 fuel) (hval 1 29 v1 rfl rfl) h1 (by omega);obtain⟨x2,hx2,ok2⟩:=Aq (c:=fun xs=>eL bK (xs)) Tryz.underlying23 (fun fuel=>o23 fuel) (hval 2 23 v2 rfl rfl) h2 (by omega);obtain⟨x3,hx3,ok3⟩:=Aq (c:=fun xs=>eL bO (xs)) Tryz.underlying30 (fun fuel=>o30 fuel) (hval 3 30 v3 rfl rfl) h3 (by omega);obtain⟨x4,hx4,ok4⟩:=Ye Tryz.underlying9 (hval 4 9 v4 rfl rfl) h4 (by omega);have hn:=hF x0 x1 x2 x3 x4 ok0 ok1 ok2 ok3 ok4;refine(gW.law ((aYU x0 x1 x2 x3 x4).h true hn) (W:=W) (vs:=#[v0,v1,v2,v3,v4]) rfl (fun j x v hj hv=>?_) (glp hL)).mono fun e W' ⟨he,hb⟩=>?_
 ·match j,hj,hv with
  | 0,hj,hv=>cases hj; cases hv; exact .t hx0
  | 1,hj,hv=>cases hj; cases hv; exact .t hx1
  | 2,hj,hv=>cases hj; cases hv; exact .t hx2
  | 3,hj,hv=>cases hj; cases hv; exact .t hx3
  | 4,hj,hv=>cases hj; cases hv; exact .t hx4
  | j+5,hj,hv=>simp at hj
 ·subst he;exact⟨_,rfl,aSI (by kernel_rfl) rfl hW' hb (tb:=4) (by kernel_rfl) Tryz.underlying4 (fun t ht=>by rw[Tryz.params10]at ht; simp at ht; rcases ht with rfl | rfl | rfl | rfl | rfl <;> exact⟨by kernel_rfl,of_decide_eq_true (by kernel_rfl)⟩) rfl⟩
theorem aYW:laidOutB Tryz.pinned.checked.prog=true:=by kernel_rfl
theorem aJZ:(Rows.patternTellsUptoRow.inPlace==Tryz.pinned.checked.prog.inPlace 10)=true:=by kernel_rfl
theorem bDW:(Rows.patternTellsUptoRow.unfollowed==Tryz.pinned.checked.prog.unfollowed 10)=true:=by kernel_rfl
theorem bGY:(Rows.patternTellsUptoRow.recurses==Tryz.pinned.checked.prog.recurses 10)=true:=by kernel_rfl
theorem aQL:(Rows.patternTellsUptoRow.named==Tryz.pinned.checked.prog.varsNamed 10)=true:=by kernel_rfl
theorem aKU:Tryz.pinned.checked.prog.stopsHeard=true:=by kernel_rfl
theorem aRB:Tryz.pinned.checked.prog.mayEnter=true:=by kernel_rfl
theorem aKZ:(Rows.patternTellsUptoRow.lifted==Tryz.pinned.checked.prog.liftsFinal)=true:=by kernel_rfl
theorem aTO:mapsRowed Tryz.pinned.checked.prog=true:=by kernel_rfl
theorem jf:joinedFacts Tryz.pinned.checked.prog 10 Tryz.f10 (Rows.OpenSpec.upto Rows.patternTellsSpec).bare Rows.patternTellsUptoRow=true:=by unfold joinedFacts;simp only[Bool.and_eq_true];refine⟨⟨⟨⟨⟨⟨⟨⟨⟨⟨⟨⟨⟨⟨⟨⟨⟨⟨⟨⟨⟨⟨⟨⟨⟨⟨⟨⟨⟨⟨⟨?_,aYW⟩,aTO⟩,?_⟩,?_⟩,?_⟩,?_⟩,?_⟩,?_⟩,aJZ⟩,bDW⟩,bGY⟩,aQL⟩,?_⟩,?_⟩,?_⟩,?_⟩,?_⟩,?_⟩,?_⟩,?_⟩,?_⟩,?_⟩,?_⟩,aKU⟩,aRB⟩,aKZ⟩,?_⟩,?_⟩,?_⟩,?_⟩,?_⟩ <;> kernel_rfl
open Go.PL in
theorem Au(hF:∀ (a0:List PL.aI) (a1:PL.aG) (a2:List Int) (a3:List PL.aW) (a4:ByteArray),PL.okL 104 PL.fJ a0->PL.iR a1->PL.okL 8 PL.eZ a2->PL.okL 40 PL.dK a3->PL.nH a4->PL.aFS a0 a1 a2 a3 a4=some true):Rows.PatternTellsUptoSaid:=
 OpenClaim.holds_of_cond 10 Tryz.f10 rfl rfl rfl rfl rfl rfl rfl ⟨rfl,rfl,rfl,rfl,rfl⟩ rfl rfl rfl rfl rfl (by kernel_rfl) Tryz.func10 jf (of_decide_eq_true (by kernel_rfl)) (by unfold Func.isWrapper; first | (rw[if_pos (by decide +kernel)]; kernel_rfl) | (rw[if_neg (by decide +kernel)]; exact⟨rfl,rfl⟩))
  (fun os started H enc _ F=>by rw[OpenClaim.pre_eq_preRow]; exact zQ hF os started H enc F)
theorem xI(f:FuncId)(fn:Func)(hf:Tryz.pinned.checked.prog.funcNamed "errata/erratalaw33.PatternTells" = some f)(hfn:Tryz.pinned.checked.prog.funcs[f]? = some fn):
  true=Tryz.pinned.checked.prog.looks []/\∀ (j:Nat) t,fn.params[j]? = some t->Tryz.pinned.checked.prog.wantsStandIn t=false:=by
 obtain rfl:f=10:=Option.some.inj ((show Tryz.prog.funcNamed "errata/erratalaw33.PatternTells" = some 10 by kernel_rfl).symm.trans hf) |>.symm
 obtain rfl:fn=Tryz.f10:=(Option.some.inj (Tryz.func10.symm.trans hfn)).symm;refine⟨by kernel_rfl,fun j t ht=>?_⟩;rw[Tryz.params10]at ht;have hm:=Array.mem_of_getElem? ht;simp at hm;rcases hm with rfl | rfl | rfl | rfl | rfl
 ·exact(show Tryz.prog.wantsStandIn 22=false by kernel_rfl)
 ·exact(show Tryz.prog.wantsStandIn 29=false by kernel_rfl)
 ·exact(show Tryz.prog.wantsStandIn 23=false by kernel_rfl)
 ·exact(show Tryz.prog.wantsStandIn 30=false by kernel_rfl)
 ·exact(show Tryz.prog.wantsStandIn 9=false by kernel_rfl)
theorem bJJ:Rows.patternTellsUptoRow.wfByText (Rows.OpenSpec.upto Rows.patternTellsSpec)=true:=by kernel_rfl
theorem bBB:Tryz.pinned.checked.prog.mainIs=some (Rows.patternTellsUptoCard.stood.harness.1,Rows.patternTellsUptoCard.stood.harness.2.toList):=by kernel_rfl
theorem aZJ:false=Rows.patternTellsUptoRow.goesBy Tryz.pinned.checked.prog:=by kernel_rfl
open Go.PL in
theorem xU(hF:∀ (a0:List PL.aI) (a1:PL.aG) (a2:List Int) (a3:List PL.aW) (a4:ByteArray),PL.okL 104 PL.fJ a0->PL.iR a1->PL.okL 8 PL.eZ a2->PL.okL 40 PL.dK a3->PL.nH a4->PL.aFS a0 a1 a2 a3 a4=some true):Rows.PatternTellsUptoCardSaid:=
 Claim7.holds_tied_plain_at .later [] _ _ _ _ (Au hF) (fun _ h=>by cases h) bJJ (fun _ h=>by cases h) patternTellsUpto_row_tie rfl ⟨rfl,rfl⟩ bBB rfl xI aZJ
end Go.Proofs.YtjefblkdnolgaaaGreatDoor
namespace Go.Proofs.YtjefblkdnolgaaaGreatDoor
theorem patternTells_holds:Rows.PatternTellsUptoCardSaid:=xU fun f n t a s h0 h1 h2 h3 h4=>PL.aHX f n t a s h0 h1 h2 h3 h4
#print axioms patternTells_holds
end Go.Proofs.YtjefblkdnolgaaaGreatDoor
