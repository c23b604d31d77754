/-
  MeaningRows: for all arguments of bulk at most 1048576 the law returns true and leaves its arguments as they were; the listed tables are tied to the program's text. Own work.
  Parts ahead of it: The row of MeaningRows from what its function gives, and its card. Own work.
-/
import Derived.Test.YtjefblkdnolgaaaGreatDoorMj
import Derived.Test.YtjefblkdnolgaaaGreatDoorCards
import Derived.Test.YtjefblkdnolgaaaGreatDoorTie
import Derived.SizedLaws
import Derived.Deep.DeepHandedRow
import Derived.Lib.LaidTab
set_option maxHeartbeats 4000000
namespace Go.Proofs.YtjefblkdnolgaaaGreatDoor
open Go Go.RowKit
variable {W:World}
abbrev Oy {H:Type}:List (String×DataW H):=[("math/bits.deBruijn32tab", Rows.laid_math_bits_deBruijn32tab),("math/bits.deBruijn64tab", Rows.laid_math_bits_deBruijn64tab),("internal/strconv.uint64pow10", Rows.laid_internal_strconv_uint64pow10)]
theorem own:ownKnob Tryz.prog.godebug=none:=by kernel_rfl
theorem aVN:Tryz.prog.globalNamed "internal/strconv.uint64pow10" = some 1:=by kernel_rfl
theorem aAI:(Rows.laid_internal_strconv_uint64pow10:DataW Unit)=Lib.tabData .u64 Lib.pow10Tab:=by rfl
theorem aMJ(h:laidMetH Tryz.prog Oy W):Lib.TabIs Tryz.prog W "internal/strconv.uint64pow10" .u64 Lib.pow10Tab/\1<W.heap.size:=by
 have h':laidMet Tryz.prog Oy W:=h;obtain⟨ps,hv,_⟩:=h';obtain⟨g1,t1,cs1,f1,p1,q1,_,_,_,_,hv2,_⟩:=hv;obtain⟨g2,t2,cs2,f2,p2,q2,_,_,_,_,hv3,_⟩:=hv2;obtain⟨g,t,cs,fuel,p,q,hg,hty,hvar,hd,_,_⟩:=hv3;obtain rfl:=Option.some.inj (aVN.symm.trans hg)
 have hT:Lib.TabIs Tryz.prog W "internal/strconv.uint64pow10" .u64 Lib.pow10Tab:=by
  have ht':((Tryz.prog.globals[1]?).map (·.type))=some 311:=by kernel_rfl
  obtain rfl:=Option.some.inj (ht'.symm.trans hty);rw[aAI]at hd;unfold Lib.TabIs;rw[hvar,<-Lib.cells_of_tab Tryz.underlying311 Tryz.underlying269 (by kernel_rfl) (by kernel_rfl) hd]
 refine⟨hT,?_⟩;have hc:=hT.cell aVN 0 (by decide);refine Classical.byContradiction fun h0=>?_;have:W.heap[1]? = none:=Array.getElem?_eq_none (by omega);simp[World.cell?,this]at hc
theorem glt(h:laidMetH Tryz.prog Oy W):PL.GLT Tryz.prog (fun b=>b<W.heap.size) W:=by intro b hb;obtain⟨h1,h2⟩:=aMJ h;obtain rfl:=Option.some.inj (aVN.symm.trans hb);exact⟨h1,h2⟩
theorem glp(h:laidMetH Tryz.prog Oy W):PL.GLP Tryz.prog (fun b=>b<W.heap.size) W:=⟨glt h,fun he=>by cases he⟩
def aTG:DataW Unit->Array Value
 | .agg l=>(l.map fun d=>match d with | .lit (.int k z)=>Value.int k z | _=>.bool false).toArray
 | _=>#[]
noncomputable def aHQ (h:Array Obj)(b:Nat)(d:DataW Unit):Array Obj:=h.modify b fun
 | .cells _ t frozen=>.cells (aTG d) t frozen
 | o=>o
noncomputable def zS (os:Os):World:=
 { World.holding Tryz.prog os ⟨#[],#[],[]⟩ with heap:=aHQ (aHQ (aHQ (World.holding Tryz.prog os ⟨#[],#[],[]⟩).heap 1 Rows.laid_internal_strconv_uint64pow10) 4 Rows.laid_math_bits_deBruijn32tab) 5 Rows.laid_math_bits_deBruijn64tab }
theorem aES(os:Os)(args:Array Value):laidMet Tryz.prog Oy ((zS os).forCall (fun _ _=>0) ⟨#[],args,[]⟩).memory:=
 laidMet_of_run' 8 (by kernel_rfl) (by kernel_rfl)
noncomputable abbrev aDK:Array Value:=#[.slice none 0 0,.agg #[.int .i64 0,.slice none 0 0,.string .empty,.int .i64 0,.slice none 0 0,.int .i64 0,.int .i64 0,.int .i64 0,.slice none 0 0,.slice none 0 0,.int .i64 0,.int .i64 0,.int .i64 0,.slice none 0 0,.slice none 0 0,.slice none 0 0],.slice none 0 0,.slice none 0 0,.slice none 0 0]
open Go.PL in
set_option maxRecDepth 100000 in
theorem zE(hF:∀ (a0:List PL.aU) (a1:PL.aG) (a2:List PL.aC) (a3:List PL.aC) (a4:List (List Int)),PL.okL 104 PL.eC a0->PL.jI a1->PL.okL 40 PL.dZ a2->PL.okL 40 PL.dZ a3->PL.okL 24 (PL.okL 8 PL.fA) a4->PL.aAJ a0 a1 a2 a3 a4=some true)(os:Os)(started:os.Started)(H:Type)(enc:TypeId×Value->H)(F:Stop.Interp):
  ReturnsInHanded {} Tryz.checked os 8 .any ((Rows.OpenSpec.upto Rows.meaningRowsSpec).preRow enc Tryz.prog Tryz.f8 Rows.meaningRowsUptoRow.domain false Rows.meaningRowsUptoRow.laid) (((Rows.OpenSpec.upto Rows.meaningRowsSpec).at F).post enc Tryz.prog Tryz.f8 false true false false):=by
 refine returnsInHanded_of_row (C:=Tryz.checked) (s:=Rows.OpenSpec.upto Rows.meaningRowsSpec) own started (by kernel_rfl) Tryz.func8
  (witness_row_at (enc:=enc) (C:=Tryz.checked) false (zS os) aDK rfl (by kernel_rfl) (by kernel_rfl) (by kernel_rfl)
   (OpenSpec.preRow_of_cond 8 (x:=Option.get (DataW.whole enc Tryz.prog ((zS os).forCall (fun _ _=>0) ⟨#[],aDK,[]⟩).memory Tryz.f8.params.toList (Rows.OpenSpec.upto Rows.meaningRowsSpec).vars false aDK.toList 8) (by kernel_rfl)) (Option.some_get _).symm (by kernel_rfl) (fun k hk=>by cases hk; kernel_rfl) (by kernel_rfl) (aES os _))) ?_
 intro W base args ds gs before hval0 hW _ hcond _ hL _ _;have hsz:=hcond _ rfl;have hval:∀ (j:Nat) t v,Tryz.f8.params[j]? = some t->args[j]? = some v->Value.okWide Tryz.prog W .any base t v:=hval0;have hW':DataW.Whole enc Tryz.prog Tryz.f8.params.toList Rows.meaningRowsSpec.vars false W args.toList ds gs before:=hW;obtain⟨p,q,hA0,hV,rfl,_⟩:=hW;have hA:DataW.TrodAll enc Tryz.prog W 0 (fun _=>true) true Tryz.f8.params.toList args.toList ds p:=hA0;rw[Tryz.params8]at hA hval;obtain⟨v0,vs0,d0,ds0,p0,q0,hl0,rfl,rfl,h0,r0⟩:=Go.ChangeShapes.trodAll_cons hA;obtain⟨v1,vs1,d1,ds1,p1,q1,hl1,rfl,rfl,h1,r1⟩:=Go.ChangeShapes.trodAll_cons r0;obtain⟨v2,vs2,d2,ds2,p2,q2,hl2,rfl,rfl,h2,r2⟩:=Go.ChangeShapes.trodAll_cons r1;obtain⟨v3,vs3,d3,ds3,p3,q3,hl3,rfl,rfl,h3,r3⟩:=Go.ChangeShapes.trodAll_cons r2;obtain⟨v4,vs4,d4,ds4,p4,q4,hl4,rfl,rfl,h4,r4⟩:=Go.ChangeShapes.trodAll_cons r3;obtain⟨hl5,rfl,rfl⟩:=Go.ChangeShapes.trodAll_nil r4;subst hl5;subst hl4;subst hl3;subst hl2;subst hl1;obtain rfl:args=#[v0,v1,v2,v3,v4]:=by cases args; simp_all
 obtain⟨rfl,rfl⟩:=Go.ChangeShapes.trodVars_none hV;have hwt:Rows.uptoBulkAll [d0,d1,d2,d3,d4]<=1048576:=by have:=of_decide_eq_true hsz;simpa using this
 simp only[Rows.uptoBulkAll]at hwt;obtain⟨x0,hx0,ok0⟩:=uG (c:=fun xs=>eL bM (xs)) Tryz.underlying22 (fun fuel=>o22 fuel) (hval 0 22 v0 rfl rfl) h0 (by omega);obtain⟨x1,hx1,ok1⟩:=Vg (c:=Oe) Tryz.underlying29 (fun fuel=>o29 fuel) (hval 1 29 v1 rfl rfl) h1 (by omega);obtain⟨x2,hx2,ok2⟩:=uG (c:=fun xs=>eL aH (xs)) Tryz.underlying37 (fun fuel=>o37 fuel) (hval 2 37 v2 rfl rfl) h2 (by omega);obtain⟨x3,hx3,ok3⟩:=uG (c:=fun xs=>eL aH (xs)) Tryz.underlying37 (fun fuel=>o37 fuel) (hval 3 37 v3 rfl rfl) h3 (by omega);obtain⟨x4,hx4,ok4⟩:=uG (c:=fun xs=>eL kE (xs)) Tryz.underlying55 (fun fuel=>o55 fuel) (hval 4 55 v4 rfl rfl) h4 (by omega);have hn:=hF x0 x1 x2 x3 x4 ok0 ok1 ok2 ok3 ok4;refine(iJ.law ((aOU x0 x1 x2 x3 x4).h true hn) (W:=W) (vs:=#[v0,v1,v2,v3,v4]) rfl (fun j x v hj hv=>?_) (glp hL)).mono fun e W' ⟨he,hb⟩=>?_
 ·match j,hj,hv with
  | 0,hj,hv=>cases hj; cases hv; exact .t hx0
  | 1,hj,hv=>cases hj; cases hv; exact .t hx1
  | 2,hj,hv=>cases hj; cases hv; exact .t hx2
  | 3,hj,hv=>cases hj; cases hv; exact .t hx3
  | 4,hj,hv=>cases hj; cases hv; exact .t hx4
  | j+5,hj,hv=>simp at hj
 ·subst he;exact⟨_,rfl,aFE (by kernel_rfl) rfl hW' hb (tb:=4) (by kernel_rfl) Tryz.underlying4 (fun t ht=>by rw[Tryz.params8]at ht; simp at ht; rcases ht with rfl | rfl | rfl | rfl <;> exact⟨by kernel_rfl,of_decide_eq_true (by kernel_rfl)⟩) rfl⟩
theorem aPP:laidOutB Tryz.pinned.checked.prog=true:=by kernel_rfl
theorem aHM:(Rows.meaningRowsUptoRow.inPlace==Tryz.pinned.checked.prog.inPlace 8)=true:=by kernel_rfl
theorem aVM:(Rows.meaningRowsUptoRow.unfollowed==Tryz.pinned.checked.prog.unfollowed 8)=true:=by kernel_rfl
theorem aWJ:(Rows.meaningRowsUptoRow.recurses==Tryz.pinned.checked.prog.recurses 8)=true:=by kernel_rfl
theorem aHJ:(Rows.meaningRowsUptoRow.named==Tryz.pinned.checked.prog.varsNamed 8)=true:=by kernel_rfl
theorem aGB:Tryz.pinned.checked.prog.stopsHeard=true:=by kernel_rfl
theorem aJT:Tryz.pinned.checked.prog.mayEnter=true:=by kernel_rfl
theorem aDI:(Rows.meaningRowsUptoRow.lifted==Tryz.pinned.checked.prog.liftsFinal)=true:=by kernel_rfl
theorem aNZ:mapsRowed Tryz.pinned.checked.prog=true:=by kernel_rfl
theorem jf:joinedFacts Tryz.pinned.checked.prog 8 Tryz.f8 (Rows.OpenSpec.upto Rows.meaningRowsSpec).bare Rows.meaningRowsUptoRow=true:=by unfold joinedFacts;simp only[Bool.and_eq_true];refine⟨⟨⟨⟨⟨⟨⟨⟨⟨⟨⟨⟨⟨⟨⟨⟨⟨⟨⟨⟨⟨⟨⟨⟨⟨⟨⟨⟨⟨⟨⟨?_,aPP⟩,aNZ⟩,?_⟩,?_⟩,?_⟩,?_⟩,?_⟩,?_⟩,aHM⟩,aVM⟩,aWJ⟩,aHJ⟩,?_⟩,?_⟩,?_⟩,?_⟩,?_⟩,?_⟩,?_⟩,?_⟩,?_⟩,?_⟩,?_⟩,aGB⟩,aJT⟩,aDI⟩,?_⟩,?_⟩,?_⟩,?_⟩,?_⟩ <;> kernel_rfl
open Go.PL in
theorem Cn(hF:∀ (a0:List PL.aU) (a1:PL.aG) (a2:List PL.aC) (a3:List PL.aC) (a4:List (List Int)),PL.okL 104 PL.eC a0->PL.jI a1->PL.okL 40 PL.dZ a2->PL.okL 40 PL.dZ a3->PL.okL 24 (PL.okL 8 PL.fA) a4->PL.aAJ a0 a1 a2 a3 a4=some true):Rows.MeaningRowsUptoSaid:=
 OpenClaim.holds_of_cond 8 Tryz.f8 rfl rfl rfl rfl rfl rfl rfl ⟨rfl,rfl,rfl,rfl,rfl⟩ rfl rfl rfl rfl rfl (by kernel_rfl) Tryz.func8 jf (of_decide_eq_true (by kernel_rfl)) (by unfold Func.isWrapper; first | (rw[if_pos (by decide +kernel)]; kernel_rfl) | (rw[if_neg (by decide +kernel)]; exact⟨rfl,rfl⟩))
  (fun os started H enc _ F=>by rw[OpenClaim.pre_eq_preRow]; exact zE hF os started H enc F)
theorem yC(f:FuncId)(fn:Func)(hf:Tryz.pinned.checked.prog.funcNamed "errata/erratalaw21.MeaningRows" = some f)(hfn:Tryz.pinned.checked.prog.funcs[f]? = some fn):
  true=Tryz.pinned.checked.prog.looks []/\∀ (j:Nat) t,fn.params[j]? = some t->Tryz.pinned.checked.prog.wantsStandIn t=false:=by
 obtain rfl:f=8:=Option.some.inj ((show Tryz.prog.funcNamed "errata/erratalaw21.MeaningRows" = some 8 by kernel_rfl).symm.trans hf) |>.symm
 obtain rfl:fn=Tryz.f8:=(Option.some.inj (Tryz.func8.symm.trans hfn)).symm;refine⟨by kernel_rfl,fun j t ht=>?_⟩;rw[Tryz.params8]at ht;have hm:=Array.mem_of_getElem? ht;simp at hm;rcases hm with rfl | rfl | rfl | rfl
 ·exact(show Tryz.prog.wantsStandIn 22=false by kernel_rfl)
 ·exact(show Tryz.prog.wantsStandIn 29=false by kernel_rfl)
 ·exact(show Tryz.prog.wantsStandIn 37=false by kernel_rfl)
 ·exact(show Tryz.prog.wantsStandIn 55=false by kernel_rfl)
theorem aZQ:Rows.meaningRowsUptoRow.wfByText (Rows.OpenSpec.upto Rows.meaningRowsSpec)=true:=by kernel_rfl
theorem aKG:Tryz.pinned.checked.prog.mainIs=some (Rows.meaningRowsUptoCard.stood.harness.1,Rows.meaningRowsUptoCard.stood.harness.2.toList):=by kernel_rfl
theorem aML:false=Rows.meaningRowsUptoRow.goesBy Tryz.pinned.checked.prog:=by kernel_rfl
open Go.PL in
theorem zM(hF:∀ (a0:List PL.aU) (a1:PL.aG) (a2:List PL.aC) (a3:List PL.aC) (a4:List (List Int)),PL.okL 104 PL.eC a0->PL.jI a1->PL.okL 40 PL.dZ a2->PL.okL 40 PL.dZ a3->PL.okL 24 (PL.okL 8 PL.fA) a4->PL.aAJ a0 a1 a2 a3 a4=some true):Rows.MeaningRowsUptoCardSaid:=
 Claim7.holds_tied_plain_at .later [] _ _ _ _ (Cn hF) (fun _ h=>by cases h) aZQ (fun _ h=>by cases h) meaningRowsUpto_row_tie rfl ⟨rfl,rfl⟩ aKG rfl yC aML
end Go.Proofs.YtjefblkdnolgaaaGreatDoor
namespace Go.Proofs.YtjefblkdnolgaaaGreatDoor
theorem meaningRows_holds:Rows.MeaningRowsUptoCardSaid:=zM fun f n a b t h0 h1 h2 h3 h4=>PL.aCH f n a b t h0 h1 h2 h3 h4
#print axioms meaningRows_holds
end Go.Proofs.YtjefblkdnolgaaaGreatDoor
