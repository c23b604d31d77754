/-
  MeaningBack: for all arguments of bulk at most 1048576 the law returns true and leaves its arguments as they were; the listed tables are tied to the program's text. Own work.
  Parts ahead of it: The row of MeaningBack from what its function gives, and its card. Own work.
-/
import Derived.Test.YtjefblkdnolgaaaGreatDoorMj
import Derived.Test.YtjefblkdnolgaaaGreatDoorCards
import Derived.Test.YtjefblkdnolgaaaGreatDoorTie
import Derived.SizedLaws
import Derived.Deep.DeepHandedRow
import Derived.Lib.LaidTab
set_option maxHeartbeats 4000000
namespace Go.Proofs.YtjefblkdnolgaaaGreatDoor
open Go Go.RowKit
variable {W:World}
abbrev Pq {H:Type}:List (String×DataW H):=[("math/bits.deBruijn32tab", Rows.laid_math_bits_deBruijn32tab),("math/bits.deBruijn64tab", Rows.laid_math_bits_deBruijn64tab),("internal/strconv.uint64pow10", Rows.laid_internal_strconv_uint64pow10)]
theorem own:ownKnob Tryz.prog.godebug=none:=by kernel_rfl
theorem aSM:Tryz.prog.globalNamed "internal/strconv.uint64pow10" = some 1:=by kernel_rfl
theorem aCC:(Rows.laid_internal_strconv_uint64pow10:DataW Unit)=Lib.tabData .u64 Lib.pow10Tab:=by rfl
theorem aPQ(h:laidMetH Tryz.prog Pq W):Lib.TabIs Tryz.prog W "internal/strconv.uint64pow10" .u64 Lib.pow10Tab/\1<W.heap.size:=by
 have h':laidMet Tryz.prog Pq W:=h;obtain⟨ps,hv,_⟩:=h';obtain⟨g1,t1,cs1,f1,p1,q1,_,_,_,_,hv2,_⟩:=hv;obtain⟨g2,t2,cs2,f2,p2,q2,_,_,_,_,hv3,_⟩:=hv2;obtain⟨g,t,cs,fuel,p,q,hg,hty,hvar,hd,_,_⟩:=hv3;obtain rfl:=Option.some.inj (aSM.symm.trans hg)
 have hT:Lib.TabIs Tryz.prog W "internal/strconv.uint64pow10" .u64 Lib.pow10Tab:=by
  have ht':((Tryz.prog.globals[1]?).map (·.type))=some 311:=by kernel_rfl
  obtain rfl:=Option.some.inj (ht'.symm.trans hty);rw[aCC]at hd;unfold Lib.TabIs;rw[hvar,<-Lib.cells_of_tab Tryz.underlying311 Tryz.underlying269 (by kernel_rfl) (by kernel_rfl) hd]
 refine⟨hT,?_⟩;have hc:=hT.cell aSM 0 (by decide);refine Classical.byContradiction fun h0=>?_;have:W.heap[1]? = none:=Array.getElem?_eq_none (by omega);simp[World.cell?,this]at hc
theorem glt(h:laidMetH Tryz.prog Pq W):PL.GLT Tryz.prog (fun b=>b<W.heap.size) W:=by intro b hb;obtain⟨h1,h2⟩:=aPQ h;obtain rfl:=Option.some.inj (aSM.symm.trans hb);exact⟨h1,h2⟩
theorem glp(h:laidMetH Tryz.prog Pq W):PL.GLP Tryz.prog (fun b=>b<W.heap.size) W:=⟨glt h,fun he=>by cases he⟩
def aXW:DataW Unit->Array Value
 | .agg l=>(l.map fun d=>match d with | .lit (.int k z)=>Value.int k z | _=>.bool false).toArray
 | _=>#[]
noncomputable def aGM (h:Array Obj)(b:Nat)(d:DataW Unit):Array Obj:=h.modify b fun
 | .cells _ t frozen=>.cells (aXW d) t frozen
 | o=>o
noncomputable def Af (os:Os):World:=
 { World.holding Tryz.prog os ⟨#[],#[],[]⟩ with heap:=aGM (aGM (aGM (World.holding Tryz.prog os ⟨#[],#[],[]⟩).heap 1 Rows.laid_internal_strconv_uint64pow10) 4 Rows.laid_math_bits_deBruijn32tab) 5 Rows.laid_math_bits_deBruijn64tab }
theorem aEZ(os:Os)(args:Array Value):laidMet Tryz.prog Pq ((Af os).forCall (fun _ _=>0) ⟨#[],args,[]⟩).memory:=
 laidMet_of_run' 8 (by kernel_rfl) (by kernel_rfl)
noncomputable abbrev aDF:Array Value:=#[.slice none 0 0,.agg #[.int .i64 0,.slice none 0 0,.string .empty,.int .i64 0,.slice none 0 0,.int .i64 0,.int .i64 0,.int .i64 0,.slice none 0 0,.slice none 0 0,.int .i64 0,.int .i64 0,.int .i64 0,.slice none 0 0,.slice none 0 0,.slice none 0 0],.slice none 0 0,.slice none 0 0,.slice none 0 0,.int .i64 0]
open Go.PL in
set_option maxRecDepth 100000 in
theorem Ay(hF:∀ (a0:List PL.aV) (a1:PL.aG) (a2:List PL.aB) (a3:List PL.aB) (a4:List (List Int)) (a5:Int),PL.okL 104 PL.eH a0->PL.kH a1->PL.okL 40 PL.eC a2->PL.okL 40 PL.eC a3->PL.okL 24 (PL.okL 8 PL.eI) a4->PL.eI a5->PL.aAJ a0 a1 a2 a3 a4 a5=some true)(os:Os)(started:os.Started)(H:Type)(enc:TypeId×Value->H)(F:Stop.Interp):
  ReturnsInHanded {} Tryz.checked os 9 .any ((Rows.OpenSpec.upto Rows.meaningBackSpec).preRow enc Tryz.prog Tryz.f9 Rows.meaningBackUptoRow.domain false Rows.meaningBackUptoRow.laid) (((Rows.OpenSpec.upto Rows.meaningBackSpec).at F).post enc Tryz.prog Tryz.f9 false true false false):=by
 refine returnsInHanded_of_row (C:=Tryz.checked) (s:=Rows.OpenSpec.upto Rows.meaningBackSpec) own started (by kernel_rfl) Tryz.func9
  (witness_row_at (enc:=enc) (C:=Tryz.checked) false (Af os) aDF rfl (by kernel_rfl) (by kernel_rfl) (by kernel_rfl)
   (OpenSpec.preRow_of_cond 8 (x:=Option.get (DataW.whole enc Tryz.prog ((Af os).forCall (fun _ _=>0) ⟨#[],aDF,[]⟩).memory Tryz.f9.params.toList (Rows.OpenSpec.upto Rows.meaningBackSpec).vars false aDF.toList 8) (by kernel_rfl)) (Option.some_get _).symm (by kernel_rfl) (fun k hk=>by cases hk; kernel_rfl) (by kernel_rfl) (aEZ os _))) ?_
 intro W base args ds gs before hval0 hW _ hcond _ hL _ _;have hsz:=hcond _ rfl;have hval:∀ (j:Nat) t v,Tryz.f9.params[j]? = some t->args[j]? = some v->Value.okWide Tryz.prog W .any base t v:=hval0;have hW':DataW.Whole enc Tryz.prog Tryz.f9.params.toList Rows.meaningBackSpec.vars false W args.toList ds gs before:=hW;obtain⟨p,q,hA0,hV,rfl,_⟩:=hW;have hA:DataW.TrodAll enc Tryz.prog W 0 (fun _=>true) true Tryz.f9.params.toList args.toList ds p:=hA0;rw[Tryz.params9]at hA hval;obtain⟨v0,vs0,d0,ds0,p0,q0,hl0,rfl,rfl,h0,r0⟩:=Go.ChangeShapes.trodAll_cons hA;obtain⟨v1,vs1,d1,ds1,p1,q1,hl1,rfl,rfl,h1,r1⟩:=Go.ChangeShapes.trodAll_cons r0;obtain⟨v2,vs2,d2,ds2,p2,q2,hl2,rfl,rfl,h2,r2⟩:=Go.ChangeShapes.trodAll_cons r1;obtain⟨v3,vs3,d3,ds3,p3,q3,hl3,rfl,rfl,h3,r3⟩:=Go.ChangeShapes.trodAll_cons r2;obtain⟨v4,vs4,d4,ds4,p4,q4,hl4,rfl,rfl,h4,r4⟩:=Go.ChangeShapes.trodAll_cons r3;obtain⟨v5,vs5,d5,ds5,p5,q5,hl5,rfl,rfl,h5,r5⟩:=Go.ChangeShapes.trodAll_cons r4;obtain⟨hl6,rfl,rfl⟩:=Go.ChangeShapes.trodAll_nil r5;subst hl6;subst hl5;subst hl4;subst hl3;subst hl2;subst hl1;obtain rfl:args=#[v0,v1,v2,v3,v4,v5]:=by cases args; simp_all
 obtain⟨rfl,rfl⟩:=Go.ChangeShapes.trodVars_none hV;have hwt:Rows.uptoBulkAll [d0,d1,d2,d3,d4,d5]<=1048576:=by have:=of_decide_eq_true hsz;simpa using this
 simp only[Rows.uptoBulkAll]at hwt;obtain⟨x0,hx0,ok0⟩:=uL (c:=fun xs=>eL bK (xs)) Tryz.underlying22 (fun fuel=>o22 fuel) (hval 0 22 v0 rfl rfl) h0 (by omega);obtain⟨x1,hx1,ok1⟩:=Uw (c:=Mt) Tryz.underlying29 (fun fuel=>o29 fuel) (hval 1 29 v1 rfl rfl) h1 (by omega);obtain⟨x2,hx2,ok2⟩:=uL (c:=fun xs=>eL aH (xs)) Tryz.underlying37 (fun fuel=>o37 fuel) (hval 2 37 v2 rfl rfl) h2 (by omega);obtain⟨x3,hx3,ok3⟩:=uL (c:=fun xs=>eL aH (xs)) Tryz.underlying37 (fun fuel=>o37 fuel) (hval 3 37 v3 rfl rfl) h3 (by omega);obtain⟨x4,hx4,ok4⟩:=uL (c:=fun xs=>eL nU (xs)) Tryz.underlying55 (fun fuel=>o55 fuel) (hval 4 55 v4 rfl rfl) h4 (by omega);obtain⟨x5,hx5,ok5⟩:=aLH Tryz.underlying3 (hval 5 3 v5 rfl rfl) h5 (by omega);have hn:=hF x0 x1 x2 x3 x4 x5 ok0 ok1 ok2 ok3 ok4 ok5;refine(iJ.law ((aRC x0 x1 x2 x3 x4 x5).h true hn) (W:=W) (vs:=#[v0,v1,v2,v3,v4,v5]) rfl (fun j x v hj hv=>?_) (glp hL)).mono fun e W' ⟨he,hb⟩=>?_
 ·match j,hj,hv with
  | 0,hj,hv=>cases hj; cases hv; exact .t hx0
  | 1,hj,hv=>cases hj; cases hv; exact .t hx1
  | 2,hj,hv=>cases hj; cases hv; exact .t hx2
  | 3,hj,hv=>cases hj; cases hv; exact .t hx3
  | 4,hj,hv=>cases hj; cases hv; exact .t hx4
  | 5,hj,hv=>cases hj; cases hv; exact .t hx5
  | j+6,hj,hv=>simp at hj
 ·subst he;exact⟨_,rfl,aEB (by kernel_rfl) rfl hW' hb (tb:=4) (by kernel_rfl) Tryz.underlying4 (fun t ht=>by rw[Tryz.params9]at ht; simp at ht; rcases ht with rfl | rfl | rfl | rfl | rfl <;> exact⟨by kernel_rfl,of_decide_eq_true (by kernel_rfl)⟩) rfl⟩
theorem aMR:laidOutB Tryz.pinned.checked.prog=true:=by kernel_rfl
theorem aIZ:(Rows.meaningBackUptoRow.inPlace==Tryz.pinned.checked.prog.inPlace 9)=true:=by kernel_rfl
theorem aYL:(Rows.meaningBackUptoRow.unfollowed==Tryz.pinned.checked.prog.unfollowed 9)=true:=by kernel_rfl
theorem aYS:(Rows.meaningBackUptoRow.recurses==Tryz.pinned.checked.prog.recurses 9)=true:=by kernel_rfl
theorem aIH:(Rows.meaningBackUptoRow.named==Tryz.pinned.checked.prog.varsNamed 9)=true:=by kernel_rfl
theorem aHT:Tryz.pinned.checked.prog.stopsHeard=true:=by kernel_rfl
theorem aIV:Tryz.pinned.checked.prog.mayEnter=true:=by kernel_rfl
theorem aES:(Rows.meaningBackUptoRow.lifted==Tryz.pinned.checked.prog.liftsFinal)=true:=by kernel_rfl
theorem aPM:mapsRowed Tryz.pinned.checked.prog=true:=by kernel_rfl
theorem jf:joinedFacts Tryz.pinned.checked.prog 9 Tryz.f9 (Rows.OpenSpec.upto Rows.meaningBackSpec).bare Rows.meaningBackUptoRow=true:=by unfold joinedFacts;simp only[Bool.and_eq_true];refine⟨⟨⟨⟨⟨⟨⟨⟨⟨⟨⟨⟨⟨⟨⟨⟨⟨⟨⟨⟨⟨⟨⟨⟨⟨⟨⟨⟨⟨⟨⟨?_,aMR⟩,aPM⟩,?_⟩,?_⟩,?_⟩,?_⟩,?_⟩,?_⟩,aIZ⟩,aYL⟩,aYS⟩,aIH⟩,?_⟩,?_⟩,?_⟩,?_⟩,?_⟩,?_⟩,?_⟩,?_⟩,?_⟩,?_⟩,?_⟩,aHT⟩,aIV⟩,aES⟩,?_⟩,?_⟩,?_⟩,?_⟩,?_⟩ <;> kernel_rfl
open Go.PL in
theorem Cu(hF:∀ (a0:List PL.aV) (a1:PL.aG) (a2:List PL.aB) (a3:List PL.aB) (a4:List (List Int)) (a5:Int),PL.okL 104 PL.eH a0->PL.kH a1->PL.okL 40 PL.eC a2->PL.okL 40 PL.eC a3->PL.okL 24 (PL.okL 8 PL.eI) a4->PL.eI a5->PL.aAJ a0 a1 a2 a3 a4 a5=some true):Rows.MeaningBackUptoSaid:=
 OpenClaim.holds_of_cond 9 Tryz.f9 rfl rfl rfl rfl rfl rfl rfl ⟨rfl,rfl,rfl,rfl,rfl⟩ rfl rfl rfl rfl rfl (by kernel_rfl) Tryz.func9 jf (of_decide_eq_true (by kernel_rfl)) (by unfold Func.isWrapper; first | (rw[if_pos (by decide +kernel)]; kernel_rfl) | (rw[if_neg (by decide +kernel)]; exact⟨rfl,rfl⟩))
  (fun os started H enc _ F=>by rw[OpenClaim.pre_eq_preRow]; exact Ay hF os started H enc F)
theorem yV(f:FuncId)(fn:Func)(hf:Tryz.pinned.checked.prog.funcNamed "errata/erratalaw21.MeaningBack" = some f)(hfn:Tryz.pinned.checked.prog.funcs[f]? = some fn):
  true=Tryz.pinned.checked.prog.looks []/\∀ (j:Nat) t,fn.params[j]? = some t->Tryz.pinned.checked.prog.wantsStandIn t=false:=by
 obtain rfl:f=9:=Option.some.inj ((show Tryz.prog.funcNamed "errata/erratalaw21.MeaningBack" = some 9 by kernel_rfl).symm.trans hf) |>.symm
 obtain rfl:fn=Tryz.f9:=(Option.some.inj (Tryz.func9.symm.trans hfn)).symm;refine⟨by kernel_rfl,fun j t ht=>?_⟩;rw[Tryz.params9]at ht;have hm:=Array.mem_of_getElem? ht;simp at hm;rcases hm with rfl | rfl | rfl | rfl | rfl
 ·exact(show Tryz.prog.wantsStandIn 22=false by kernel_rfl)
 ·exact(show Tryz.prog.wantsStandIn 29=false by kernel_rfl)
 ·exact(show Tryz.prog.wantsStandIn 37=false by kernel_rfl)
 ·exact(show Tryz.prog.wantsStandIn 55=false by kernel_rfl)
 ·exact(show Tryz.prog.wantsStandIn 3=false by kernel_rfl)
theorem bAU:Rows.meaningBackUptoRow.wfByText (Rows.OpenSpec.upto Rows.meaningBackSpec)=true:=by kernel_rfl
theorem aQT:Tryz.pinned.checked.prog.mainIs=some (Rows.meaningBackUptoCard.stood.harness.1,Rows.meaningBackUptoCard.stood.harness.2.toList):=by kernel_rfl
theorem aKI:false=Rows.meaningBackUptoRow.goesBy Tryz.pinned.checked.prog:=by kernel_rfl
open Go.PL in
theorem zK(hF:∀ (a0:List PL.aV) (a1:PL.aG) (a2:List PL.aB) (a3:List PL.aB) (a4:List (List Int)) (a5:Int),PL.okL 104 PL.eH a0->PL.kH a1->PL.okL 40 PL.eC a2->PL.okL 40 PL.eC a3->PL.okL 24 (PL.okL 8 PL.eI) a4->PL.eI a5->PL.aAJ a0 a1 a2 a3 a4 a5=some true):Rows.MeaningBackUptoCardSaid:=
 Claim7.holds_tied_plain_at .later [] _ _ _ _ (Cu hF) (fun _ h=>by cases h) bAU (fun _ h=>by cases h) meaningBackUpto_row_tie rfl ⟨rfl,rfl⟩ aQT rfl yV aKI
end Go.Proofs.YtjefblkdnolgaaaGreatDoor
namespace Go.Proofs.YtjefblkdnolgaaaGreatDoor
theorem meaningBack_holds:Rows.MeaningBackUptoCardSaid:=zK fun f n a b t x h0 h1 h2 h3 h4 h5=>PL.aBQ f n a b t x h0 h1 h2 h3 h4 h5
#print axioms meaningBack_holds
end Go.Proofs.YtjefblkdnolgaaaGreatDoor
