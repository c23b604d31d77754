/-
  CompareTells: for all arguments of bulk at most 1048576 the law returns true and leaves its arguments as they were; the listed tables are tied to the program's text. Own work.
  Parts ahead of it: The row of CompareTells from what its function gives, and its card. Own work.
-/
import Derived.Test.YtalllojcfmppoaaGreatDoorMh
import Derived.Test.YtalllojcfmppoaaGreatDoorCards
import Derived.Test.YtalllojcfmppoaaGreatDoorTie
import Derived.SizedLaws
import Derived.Deep.DeepHandedRow
import Derived.Lib.LaidTab
set_option maxHeartbeats 4000000
namespace Go.Proofs.YtalllojcfmppoaaGreatDoor
open Go Go.RowKit
variable {W:World}
abbrev Bs {H:Type}:List (String×DataW H):=[("math/bits.deBruijn32tab", Rows.laid_math_bits_deBruijn32tab),("math/bits.deBruijn64tab", Rows.laid_math_bits_deBruijn64tab),("internal/strconv.uint64pow10", Rows.laid_internal_strconv_uint64pow10),("strconv.ErrRange", Rows.laid_strconv_ErrRange),("strconv.ErrSyntax", Rows.laid_strconv_ErrSyntax)]
theorem own:ownKnob Tryz.prog.godebug=none:=by kernel_rfl
theorem aQV:Tryz.prog.globalNamed "internal/strconv.uint64pow10" = some 3:=by kernel_rfl
theorem Tu:(Rows.laid_internal_strconv_uint64pow10:DataW Unit)=Lib.tabData .u64 Lib.pow10Tab:=by rfl
theorem aFT(h:laidMetH Tryz.prog Bs W):Lib.TabIs Tryz.prog W "internal/strconv.uint64pow10" .u64 Lib.pow10Tab/\3<W.heap.size:=by
 have h':laidMet Tryz.prog Bs W:=h;obtain⟨ps,hv,_⟩:=h';obtain⟨g1,t1,cs1,f1,p1,q1,_,_,_,_,hv2,_⟩:=hv;obtain⟨g2,t2,cs2,f2,p2,q2,_,_,_,_,hv3,_⟩:=hv2;obtain⟨g,t,cs,fuel,p,q,hg,hty,hvar,hd,_,_⟩:=hv3;obtain rfl:=Option.some.inj (aQV.symm.trans hg)
 have hT:Lib.TabIs Tryz.prog W "internal/strconv.uint64pow10" .u64 Lib.pow10Tab:=by
  have ht':((Tryz.prog.globals[3]?).map (·.type))=some 179:=by kernel_rfl
  obtain rfl:=Option.some.inj (ht'.symm.trans hty);rw[Tu]at hd;unfold Lib.TabIs;rw[hvar,<-Lib.cells_of_tab Tryz.underlying179 Tryz.underlying163 (by kernel_rfl) (by kernel_rfl) hd]
 refine⟨hT,?_⟩;have hc:=hT.cell aQV 0 (by decide);refine Classical.byContradiction fun h0=>?_;have:W.heap[3]? = none:=Array.getElem?_eq_none (by omega);simp[World.cell?,this]at hc
theorem glt(h:laidMetH Tryz.prog Bs W):PL.GLT Tryz.prog (fun b=>b<W.heap.size) W:=by intro b hb;obtain⟨h1,h2⟩:=aFT h;obtain rfl:=Option.some.inj (aQV.symm.trans hb);exact⟨h1,h2⟩
theorem ifc{P:Program}{t:TypeId}{cs:List Value}{d:DataW Unit}{p:List MemPlace}{m:Array (String×TypeId)}(hu:P.underlying t=some (.interface m)):
  ∀ fuel,DataW.trod (fun _=>()) P W 0 (fun _=>true) false fuel t cs=some (d,p)->∃ v,cs=[v]/\(v = .nilIface\/∃ a b,v = .iface a b)
 | 0,h=>by simp[DataW.trod]at h
 | fuel+1,h=>by unfold DataW.trod at h;rw[hu]at h;simp only at h;split at h <;> first | exact⟨_,rfl,.inl rfl⟩ | exact⟨_,rfl,.inr ⟨_,_,rfl⟩⟩ | (rename_i hx; cases hx) | cases h | simp_all
theorem aTK{n:String}{b0:Nat}(hn:Tryz.prog.globalNamed n=some b0)(hT:(Tryz.prog.globals[b0]?).map (·.type)=some 122){g:Nat}{t:TypeId}{cs:Array Value}{fuel:Nat}{d:DataW Unit}{p:List MemPlace}
  (hg:Tryz.prog.globalNamed n=some g)(hty:(Tryz.prog.globals[g]?).map (·.type)=some t)(hvar:W.var? Tryz.prog n=some cs)(hd:DataW.trod (fun _=>()) Tryz.prog W 0 (fun _=>true) false fuel t cs.toList=some (d,p)):
  PL.GLE Tryz.prog (fun b=>b<W.heap.size) W n:=by
 intro b hb;obtain rfl:=Option.some.inj (hg.symm.trans hb);obtain rfl:=Option.some.inj (hn.symm.trans hg);obtain rfl:=Option.some.inj (hT.symm.trans hty);obtain⟨v,hv,hk⟩:=ifc Tryz.underlying122 fuel hd;have hc:=World.var?_cell hg hvar 0;have h0:cs[0]? = some v:=by rw[<-Array.getElem?_toList,hv]; rfl
 rw[h0]at hc;refine⟨⟨v,hc,hk⟩,Classical.byContradiction fun h0=>?_⟩;have:W.heap[b0]? = none:=Array.getElem?_eq_none (by omega);simp[World.cell?,this]at hc
theorem glp(h:laidMetH Tryz.prog Bs W):PL.GLP Tryz.prog (fun b=>b<W.heap.size) W:=by refine⟨glt h,fun _=>?_⟩;have h':laidMet Tryz.prog Bs W:=h;obtain⟨ps,hv,_⟩:=h';obtain⟨g1,t1,cs1,f1,p1,q1,_,_,_,_,hv2,_⟩:=hv;obtain⟨g2,t2,cs2,f2,p2,q2,_,_,_,_,hv3,_⟩:=hv2;obtain⟨g3,t3,cs3,f3,p3,q3,_,_,_,_,hv4,_⟩:=hv3;obtain⟨g4,t4,cs4,f4,p4,q4,i4,j4,k4,l4,hv5,_⟩:=hv4;obtain⟨g5,t5,cs5,f5,p5,q5,i5,j5,k5,l5,_,_⟩:=hv5;exact⟨aTK (b0:=1) (by kernel_rfl) (by kernel_rfl) i5 j5 k5 l5,aTK (b0:=2) (by kernel_rfl) (by kernel_rfl) i4 j4 k4 l4⟩
def aOX:DataW Unit->Array Value
 | .agg l=>(l.map fun d=>match d with | .lit (.int k z)=>Value.int k z | _=>.bool false).toArray
 | _=>#[]
noncomputable def aDN (h:Array Obj)(b:Nat)(d:DataW Unit):Array Obj:=h.modify b fun
 | .cells _ t frozen=>.cells (aOX d) t frozen
 | o=>o
abbrev aSQ:ByteArray:={ data:=#[105,110,118,97,108,105,100,32,115,121,110,116,97,120] }
abbrev aSI:ByteArray:={ data:=#[118,97,108,117,101,32,111,117,116,32,111,102,32,114,97,110,103,101] }
noncomputable def low:Nat:=(World.holding Tryz.prog default ⟨#[],#[],[]⟩).heap.size
noncomputable def aTD (h:Array Obj)(b k:Nat):Array Obj:=h.modify b fun
 | .cells _ t frozen=>.cells #[.iface 188 (.pointer (some ⟨low+k,0,none⟩))] t frozen
 | o=>o
noncomputable def tD (os:Os):World:=
 { World.holding Tryz.prog os ⟨#[.cells #[.string aSQ] 190,.cells #[.string aSI] 190],#[],[]⟩ with heap:=aTD (aTD (aDN (aDN (aDN (World.holding Tryz.prog os ⟨#[.cells #[.string aSQ] 190,.cells #[.string aSI] 190],#[],[]⟩).heap 3 Rows.laid_internal_strconv_uint64pow10) 4 Rows.laid_math_bits_deBruijn32tab) 5 Rows.laid_math_bits_deBruijn64tab) 1 0) 2 1 }
theorem aDO(os:Os)(args:Array Value):laidMet Tryz.prog Bs ((tD os).forCall (fun _ _=>0) ⟨#[],args,[]⟩).memory:=
 laidMet_of_run' 8 (by kernel_rfl) (by kernel_rfl)
noncomputable abbrev Zm:Array Value:=#[.agg #[.slice none 0 0,.slice none 0 0],.agg #[.slice none 0 0,.slice none 0 0],.slice none 0 0,.string .empty]
open Go.PL in
set_option maxRecDepth 100000 in
theorem sS(hF:∀ (a0:PL.aD) (a1:PL.aD) (a2:List PL.aV) (a3:ByteArray),PL.cR a0->PL.cR a1->PL.okL 24 PL.nF a2->PL.jB a3->PL.Lq a0 a1 a2 a3=some true)(os:Os)(started:os.Started)(H:Type)(enc:TypeId×Value->H)(F:Stop.Interp):
  ReturnsInHanded {} Tryz.checked os 3 .any ((Rows.OpenSpec.upto Rows.compareTellsSpec).preRow enc Tryz.prog Tryz.f3 Rows.compareTellsUptoRow.domain false Rows.compareTellsUptoRow.laid) (((Rows.OpenSpec.upto Rows.compareTellsSpec).at F).post enc Tryz.prog Tryz.f3 false true false false):=by
 refine returnsInHanded_of_row (C:=Tryz.checked) (s:=Rows.OpenSpec.upto Rows.compareTellsSpec) own started (by kernel_rfl) Tryz.func3
  (witness_row_at (enc:=enc) (C:=Tryz.checked) false (tD os) Zm rfl (by kernel_rfl) (by kernel_rfl) (by kernel_rfl)
   (OpenSpec.preRow_of_cond 8 (x:=Option.get (DataW.whole enc Tryz.prog ((tD os).forCall (fun _ _=>0) ⟨#[],Zm,[]⟩).memory Tryz.f3.params.toList (Rows.OpenSpec.upto Rows.compareTellsSpec).vars false Zm.toList 8) (by kernel_rfl)) (Option.some_get _).symm (by kernel_rfl) (fun k hk=>by cases hk; kernel_rfl) (by kernel_rfl) (aDO os _))) ?_
 intro W base args ds gs before hval0 hW _ hcond _ hL _ _;have hsz:=hcond _ rfl;have hval:∀ (j:Nat) t v,Tryz.f3.params[j]? = some t->args[j]? = some v->Value.okWide Tryz.prog W .any base t v:=hval0;have hW':DataW.Whole enc Tryz.prog Tryz.f3.params.toList Rows.compareTellsSpec.vars false W args.toList ds gs before:=hW;obtain⟨p,q,hA0,hV,rfl,_⟩:=hW;have hA:DataW.TrodAll enc Tryz.prog W 0 (fun _=>true) true Tryz.f3.params.toList args.toList ds p:=hA0;rw[Tryz.params3]at hA hval;obtain⟨v0,vs0,d0,ds0,p0,q0,hl0,rfl,rfl,h0,r0⟩:=Go.ChangeShapes.trodAll_cons hA;obtain⟨v1,vs1,d1,ds1,p1,q1,hl1,rfl,rfl,h1,r1⟩:=Go.ChangeShapes.trodAll_cons r0;obtain⟨v2,vs2,d2,ds2,p2,q2,hl2,rfl,rfl,h2,r2⟩:=Go.ChangeShapes.trodAll_cons r1;obtain⟨v3,vs3,d3,ds3,p3,q3,hl3,rfl,rfl,h3,r3⟩:=Go.ChangeShapes.trodAll_cons r2;obtain⟨hl4,rfl,rfl⟩:=Go.ChangeShapes.trodAll_nil r3;subst hl4;subst hl3;subst hl2;subst hl1;obtain rfl:args=#[v0,v1,v2,v3]:=by cases args; simp_all
 obtain⟨rfl,rfl⟩:=Go.ChangeShapes.trodVars_none hV;have hwt:Rows.uptoBulkAll [d0,d1,d2,d3]<=1048576:=by have:=of_decide_eq_true hsz;simpa using this
 simp only[Rows.uptoBulkAll]at hwt;obtain⟨x0,hx0,ok0⟩:=xC (c:=aH) Tryz.underlying25 (fun fuel=>o25 fuel) (hval 0 25 v0 rfl rfl) h0 (by omega);obtain⟨x1,hx1,ok1⟩:=xC (c:=aH) Tryz.underlying25 (fun fuel=>o25 fuel) (hval 1 25 v1 rfl rfl) h1 (by omega);obtain⟨x2,hx2,ok2⟩:=Uw (c:=fun xs=>eL aW (xs)) Tryz.underlying26 (fun fuel=>o26 fuel) (hval 2 26 v2 rfl rfl) h2 (by omega);obtain⟨x3,hx3,ok3⟩:=Mh Tryz.underlying9 (hval 3 9 v3 rfl rfl) h3 (by omega);have hn:=hF x0 x1 x2 x3 ok0 ok1 ok2 ok3;refine(eX.law ((aED x0 x1 x2 x3).h true hn) (W:=W) (vs:=#[v0,v1,v2,v3]) rfl (fun j x v hj hv=>?_) (glp hL)).mono fun e W' ⟨he,hb⟩=>?_
 ·match j,hj,hv with
  | 0,hj,hv=>cases hj; cases hv; exact .t hx0
  | 1,hj,hv=>cases hj; cases hv; exact .t hx1
  | 2,hj,hv=>cases hj; cases hv; exact .t hx2
  | 3,hj,hv=>cases hj; cases hv; exact .t hx3
  | j+4,hj,hv=>simp at hj
 ·subst he;exact⟨_,rfl,Wq (by kernel_rfl) rfl hW' hb (tb:=4) (by kernel_rfl) Tryz.underlying4 (fun t ht=>by rw[Tryz.params3]at ht; simp at ht; rcases ht with rfl | rfl | rfl <;> exact⟨by kernel_rfl,of_decide_eq_true (by kernel_rfl)⟩) rfl⟩
theorem aKL:laidOutB Tryz.pinned.checked.prog=true:=by kernel_rfl
theorem aCK:(Rows.compareTellsUptoRow.inPlace==Tryz.pinned.checked.prog.inPlace 3)=true:=by kernel_rfl
theorem aPZ:(Rows.compareTellsUptoRow.unfollowed==Tryz.pinned.checked.prog.unfollowed 3)=true:=by kernel_rfl
theorem aQE:(Rows.compareTellsUptoRow.recurses==Tryz.pinned.checked.prog.recurses 3)=true:=by kernel_rfl
theorem aCC:(Rows.compareTellsUptoRow.named==Tryz.pinned.checked.prog.varsNamed 3)=true:=by kernel_rfl
theorem Yf:Tryz.pinned.checked.prog.stopsHeard=true:=by kernel_rfl
theorem Yn:Tryz.pinned.checked.prog.mayEnter=true:=by kernel_rfl
theorem aDK:(Rows.compareTellsUptoRow.lifted==Tryz.pinned.checked.prog.liftsFinal)=true:=by kernel_rfl
theorem aHI:mapsRowed Tryz.pinned.checked.prog=true:=by kernel_rfl
theorem jf:joinedFacts Tryz.pinned.checked.prog 3 Tryz.f3 (Rows.OpenSpec.upto Rows.compareTellsSpec).bare Rows.compareTellsUptoRow=true:=by unfold joinedFacts;simp only[Bool.and_eq_true];refine⟨⟨⟨⟨⟨⟨⟨⟨⟨⟨⟨⟨⟨⟨⟨⟨⟨⟨⟨⟨⟨⟨⟨⟨⟨⟨⟨⟨⟨⟨⟨?_,aKL⟩,aHI⟩,?_⟩,?_⟩,?_⟩,?_⟩,?_⟩,?_⟩,aCK⟩,aPZ⟩,aQE⟩,aCC⟩,?_⟩,?_⟩,?_⟩,?_⟩,?_⟩,?_⟩,?_⟩,?_⟩,?_⟩,?_⟩,?_⟩,Yf⟩,Yn⟩,aDK⟩,?_⟩,?_⟩,?_⟩,?_⟩,?_⟩ <;> kernel_rfl
open Go.PL in
theorem uA(hF:∀ (a0:PL.aD) (a1:PL.aD) (a2:List PL.aV) (a3:ByteArray),PL.cR a0->PL.cR a1->PL.okL 24 PL.nF a2->PL.jB a3->PL.Lq a0 a1 a2 a3=some true):Rows.CompareTellsUptoSaid:=
 OpenClaim.holds_of_cond 3 Tryz.f3 rfl rfl rfl rfl rfl rfl rfl ⟨rfl,rfl,rfl,rfl,rfl⟩ rfl rfl rfl rfl rfl (by kernel_rfl) Tryz.func3 jf (of_decide_eq_true (by kernel_rfl)) (by unfold Func.isWrapper; first | (rw[if_pos (by decide +kernel)]; kernel_rfl) | (rw[if_neg (by decide +kernel)]; exact⟨rfl,rfl⟩))
  (fun os started H enc _ F=>by rw[OpenClaim.pre_eq_preRow]; exact sS hF os started H enc F)
theorem rT(f:FuncId)(fn:Func)(hf:Tryz.pinned.checked.prog.funcNamed "errata/erratalaw46.CompareTells" = some f)(hfn:Tryz.pinned.checked.prog.funcs[f]? = some fn):
  true=Tryz.pinned.checked.prog.looks []/\∀ (j:Nat) t,fn.params[j]? = some t->Tryz.pinned.checked.prog.wantsStandIn t=false:=by
 obtain rfl:f=3:=Option.some.inj ((show Tryz.prog.funcNamed "errata/erratalaw46.CompareTells" = some 3 by kernel_rfl).symm.trans hf) |>.symm
 obtain rfl:fn=Tryz.f3:=(Option.some.inj (Tryz.func3.symm.trans hfn)).symm;refine⟨by kernel_rfl,fun j t ht=>?_⟩;rw[Tryz.params3]at ht;have hm:=Array.mem_of_getElem? ht;simp at hm;rcases hm with rfl | rfl | rfl
 ·exact(show Tryz.prog.wantsStandIn 25=false by kernel_rfl)
 ·exact(show Tryz.prog.wantsStandIn 26=false by kernel_rfl)
 ·exact(show Tryz.prog.wantsStandIn 9=false by kernel_rfl)
theorem aSC:Rows.compareTellsUptoRow.wfByText (Rows.OpenSpec.upto Rows.compareTellsSpec)=true:=by kernel_rfl
theorem aKG:Tryz.pinned.checked.prog.mainIs=some (Rows.compareTellsUptoCard.stood.harness.1,Rows.compareTellsUptoCard.stood.harness.2.toList):=by kernel_rfl
theorem aHU:false=Rows.compareTellsUptoRow.goesBy Tryz.pinned.checked.prog:=by kernel_rfl
open Go.PL in
theorem sR(hF:∀ (a0:PL.aD) (a1:PL.aD) (a2:List PL.aV) (a3:ByteArray),PL.cR a0->PL.cR a1->PL.okL 24 PL.nF a2->PL.jB a3->PL.Lq a0 a1 a2 a3=some true):Rows.CompareTellsUptoCardSaid:=
 Claim7.holds_tied_plain_at .later [] _ _ _ _ (uA hF) (fun _ h=>by cases h) aSC (fun _ h=>by cases h) compareTellsUpto_row_tie rfl ⟨rfl,rfl⟩ aKG rfl rT aHU
end Go.Proofs.YtalllojcfmppoaaGreatDoor
namespace Go.Proofs.YtalllojcfmppoaaGreatDoor
theorem compareTells_holds:Rows.CompareTellsUptoCardSaid:=sR fun a0 a1 a2 a3 h0 h1 h2 h3=>PL.Sv a0 a1 a2 a3 h0 h1 h2 h3
#print axioms compareTells_holds
end Go.Proofs.YtalllojcfmppoaaGreatDoor
