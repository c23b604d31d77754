/-
  MeaningTells: for all arguments of bulk at most 1048576 the law returns true and leaves its arguments as they were; the listed tables are tied to the program's text. Own work.
  Parts ahead of it: The row of MeaningTells from what its function gives, and its card. Own work.
-/
import Derived.Test.YtjefblkdnolgaaaGreatDoorMk
import Derived.Test.YtjefblkdnolgaaaGreatDoorCards
import Derived.Test.YtjefblkdnolgaaaGreatDoorTie
import Derived.SizedLaws
import Derived.Deep.DeepHandedRow
import Derived.Lib.LaidTab
set_option maxHeartbeats 4000000
namespace Go.Proofs.YtjefblkdnolgaaaGreatDoor
open Go Go.RowKit
variable {W:World}
abbrev Uh {H:Type}:List (String×DataW H):=[("math/bits.deBruijn32tab", Rows.laid_math_bits_deBruijn32tab),("math/bits.deBruijn64tab", Rows.laid_math_bits_deBruijn64tab),("internal/strconv.uint64pow10", Rows.laid_internal_strconv_uint64pow10)]
theorem own:ownKnob Tryz.prog.godebug=none:=by kernel_rfl
theorem bDP:Tryz.prog.globalNamed "internal/strconv.uint64pow10" = some 1:=by kernel_rfl
theorem aCU:(Rows.laid_internal_strconv_uint64pow10:DataW Unit)=Lib.tabData .u64 Lib.pow10Tab:=by rfl
theorem aSC(h:laidMetH Tryz.prog Uh W):Lib.TabIs Tryz.prog W "internal/strconv.uint64pow10" .u64 Lib.pow10Tab/\1<W.heap.size:=by
 have h':laidMet Tryz.prog Uh W:=h;obtain⟨ps,hv,_⟩:=h';obtain⟨g1,t1,cs1,f1,p1,q1,_,_,_,_,hv2,_⟩:=hv;obtain⟨g2,t2,cs2,f2,p2,q2,_,_,_,_,hv3,_⟩:=hv2;obtain⟨g,t,cs,fuel,p,q,hg,hty,hvar,hd,_,_⟩:=hv3;obtain rfl:=Option.some.inj (bDP.symm.trans hg)
 have hT:Lib.TabIs Tryz.prog W "internal/strconv.uint64pow10" .u64 Lib.pow10Tab:=by
  have ht':((Tryz.prog.globals[1]?).map (·.type))=some 311:=by kernel_rfl
  obtain rfl:=Option.some.inj (ht'.symm.trans hty);rw[aCU]at hd;unfold Lib.TabIs;rw[hvar,<-Lib.cells_of_tab Tryz.underlying311 Tryz.underlying269 (by kernel_rfl) (by kernel_rfl) hd]
 refine⟨hT,?_⟩;have hc:=hT.cell bDP 0 (by decide);refine Classical.byContradiction fun h0=>?_;have:W.heap[1]? = none:=Array.getElem?_eq_none (by omega);simp[World.cell?,this]at hc
theorem glt(h:laidMetH Tryz.prog Uh W):PL.GLT Tryz.prog (fun b=>b<W.heap.size) W:=by intro b hb;obtain⟨h1,h2⟩:=aSC h;obtain rfl:=Option.some.inj (bDP.symm.trans hb);exact⟨h1,h2⟩
theorem glp(h:laidMetH Tryz.prog Uh W):PL.GLP Tryz.prog (fun b=>b<W.heap.size) W:=⟨glt h,fun he=>by cases he⟩
def bCQ:DataW Unit->Array Value
 | .agg l=>(l.map fun d=>match d with | .lit (.int k z)=>Value.int k z | _=>.bool false).toArray
 | _=>#[]
noncomputable def aHV (h:Array Obj)(b:Nat)(d:DataW Unit):Array Obj:=h.modify b fun
 | .cells _ t frozen=>.cells (bCQ d) t frozen
 | o=>o
noncomputable def Ar (os:Os):World:=
 { World.holding Tryz.prog os ⟨#[],#[],[]⟩ with heap:=aHV (aHV (aHV (World.holding Tryz.prog os ⟨#[],#[],[]⟩).heap 1 Rows.laid_internal_strconv_uint64pow10) 4 Rows.laid_math_bits_deBruijn32tab) 5 Rows.laid_math_bits_deBruijn64tab }
theorem aJT(os:Os)(args:Array Value):laidMet Tryz.prog Uh ((Ar os).forCall (fun _ _=>0) ⟨#[],args,[]⟩).memory:=
 laidMet_of_run' 8 (by kernel_rfl) (by kernel_rfl)
noncomputable abbrev aIO:Array Value:=#[.slice none 0 0,.agg #[.int .i64 0,.slice none 0 0,.string .empty,.int .i64 0,.slice none 0 0,.int .i64 0,.int .i64 0,.int .i64 0,.slice none 0 0,.slice none 0 0,.int .i64 0,.int .i64 0,.int .i64 0,.slice none 0 0,.slice none 0 0,.slice none 0 0],.slice none 0 0,.slice none 0 0,.slice none 0 0]
open Go.PL in
set_option maxRecDepth 100000 in
theorem xD(hF:∀ (a0:List PL.aS) (a1:PL.aG) (a2:List PL.aB) (a3:List PL.aB) (a4:List (List Int)),PL.okL 104 PL.dK a0->PL.iO a1->PL.okL 40 PL.dX a2->PL.okL 40 PL.dX a3->PL.okL 24 (PL.okL 8 PL.eZ) a4->PL.aCP a0 a1 a2 a3 a4=some true)(os:Os)(J:os.Started)(H:Type)(enc:TypeId×Value->H)(F:Stop.Interp):
  ReturnsInHanded {} Tryz.checked os 6 .any ((Rows.OpenSpec.upto Rows.meaningTellsSpec).preRow enc Tryz.prog Tryz.f6 Rows.meaningTellsUptoRow.domain false Rows.meaningTellsUptoRow.laid) (((Rows.OpenSpec.upto Rows.meaningTellsSpec).at F).post enc Tryz.prog Tryz.f6 false true false false):=by
 refine returnsInHanded_of_row (C:=Tryz.checked) (s:=Rows.OpenSpec.upto Rows.meaningTellsSpec) own J (by kernel_rfl) Tryz.func6
  (witness_row_at (enc:=enc) (C:=Tryz.checked) false (Ar os) aIO rfl (by kernel_rfl) (by kernel_rfl) (by kernel_rfl)
   (OpenSpec.preRow_of_cond 8 (x:=Option.get (DataW.whole enc Tryz.prog ((Ar os).forCall (fun _ _=>0) ⟨#[],aIO,[]⟩).memory Tryz.f6.params.toList (Rows.OpenSpec.upto Rows.meaningTellsSpec).vars false aIO.toList 8) (by kernel_rfl)) (Option.some_get _).symm (by kernel_rfl) (fun k hk=>by cases hk; kernel_rfl) (by kernel_rfl) (aJT os _))) ?_
 intro W base args ds gs M Q hW _ Z _ hL _ _;have hsz:=Z _ rfl;have D:∀ (j:Nat) t v,Tryz.f6.params[j]? = some t->args[j]? = some v->Value.okWide Tryz.prog W .any base t v:=Q;have hW':DataW.Whole enc Tryz.prog Tryz.f6.params.toList Rows.meaningTellsSpec.vars false W args.toList ds gs M:=hW;obtain⟨p,q,hA0,hV,rfl,_⟩:=hW;have hA:DataW.TrodAll enc Tryz.prog W 0 (fun _=>true) true Tryz.f6.params.toList args.toList ds p:=hA0;rw[Tryz.params6]at hA D;obtain⟨v0,vs0,d0,ds0,p0,q0,hl0,rfl,rfl,h0,r0⟩:=Go.ChangeShapes.trodAll_cons hA;obtain⟨v1,vs1,d1,ds1,p1,q1,hl1,rfl,rfl,h1,r1⟩:=Go.ChangeShapes.trodAll_cons r0;obtain⟨v2,vs2,d2,ds2,p2,q2,hl2,rfl,rfl,h2,r2⟩:=Go.ChangeShapes.trodAll_cons r1;obtain⟨v3,vs3,d3,ds3,p3,q3,hl3,rfl,rfl,h3,r3⟩:=Go.ChangeShapes.trodAll_cons r2;obtain⟨v4,vs4,d4,ds4,p4,q4,hl4,rfl,rfl,h4,r4⟩:=Go.ChangeShapes.trodAll_cons r3;obtain⟨hl5,rfl,rfl⟩:=Go.ChangeShapes.trodAll_nil r4;subst hl5;subst hl4;subst hl3;subst hl2;subst hl1;obtain rfl:args=#[v0,v1,v2,v3,v4]:=by cases args; simp_all
 obtain⟨rfl,rfl⟩:=Go.ChangeShapes.trodVars_none hV;have hwt:Rows.uptoBulkAll [d0,d1,d2,d3,d4]<=1048576:=by have:=of_decide_eq_true hsz;simpa using this
 simp only[Rows.uptoBulkAll]at hwt;obtain⟨x0,hx0,ok0⟩:=tZ (c:=fun xs=>eL aW (xs)) Tryz.underlying22 (fun fuel=>o22 fuel) (D 0 22 v0 rfl rfl) h0 (by omega);obtain⟨x1,hx1,ok1⟩:=Uz (c:=Of) Tryz.underlying29 (fun fuel=>o29 fuel) (D 1 29 v1 rfl rfl) h1 (by omega);obtain⟨x2,hx2,ok2⟩:=tZ (c:=fun xs=>eL aH (xs)) Tryz.underlying37 (fun fuel=>o37 fuel) (D 2 37 v2 rfl rfl) h2 (by omega);obtain⟨x3,hx3,ok3⟩:=tZ (c:=fun xs=>eL aH (xs)) Tryz.underlying37 (fun fuel=>o37 fuel) (D 3 37 v3 rfl rfl) h3 (by omega);obtain⟨x4,hx4,ok4⟩:=tZ (c:=fun xs=>eL nW (xs)) Tryz.underlying55 (fun fuel=>o55 fuel) (D 4 55 v4 rfl rfl) h4 (by omega);have hn:=hF x0 x1 x2 x3 x4 ok0 ok1 ok2 ok3 ok4;refine(gX.law ((aUC x0 x1 x2 x3 x4).h true hn) (W:=W) (vs:=#[v0,v1,v2,v3,v4]) rfl (fun j x v G hv=>?_) (glp hL)).mono fun e W' ⟨he,hb⟩=>?_
 ·match j,G,hv with
  | 0,G,hv=>cases G; cases hv; exact .t hx0
  | 1,G,hv=>cases G; cases hv; exact .t hx1
  | 2,G,hv=>cases G; cases hv; exact .t hx2
  | 3,G,hv=>cases G; cases hv; exact .t hx3
  | 4,G,hv=>cases G; cases hv; exact .t hx4
  | j+5,G,hv=>simp at G
 ·subst he;exact⟨_,rfl,aLV (by kernel_rfl) rfl hW' hb (tb:=4) (by kernel_rfl) Tryz.underlying4 (fun t ht=>by rw[Tryz.params6]at ht; simp at ht; rcases ht with rfl | rfl | rfl | rfl <;> exact⟨by kernel_rfl,of_decide_eq_true (by kernel_rfl)⟩) rfl⟩
theorem aNV:laidOutB Tryz.pinned.checked.prog=true:=by kernel_rfl
theorem aIQ:(Rows.meaningTellsUptoRow.inPlace==Tryz.pinned.checked.prog.inPlace 6)=true:=by kernel_rfl
theorem aZJ:(Rows.meaningTellsUptoRow.unfollowed==Tryz.pinned.checked.prog.unfollowed 6)=true:=by kernel_rfl
theorem bAB:(Rows.meaningTellsUptoRow.recurses==Tryz.pinned.checked.prog.recurses 6)=true:=by kernel_rfl
theorem aGO:(Rows.meaningTellsUptoRow.named==Tryz.pinned.checked.prog.varsNamed 6)=true:=by kernel_rfl
theorem aKP:Tryz.pinned.checked.prog.stopsHeard=true:=by kernel_rfl
theorem aHR:Tryz.pinned.checked.prog.mayEnter=true:=by kernel_rfl
theorem aKR:(Rows.meaningTellsUptoRow.lifted==Tryz.pinned.checked.prog.liftsFinal)=true:=by kernel_rfl
theorem aRO:mapsRowed Tryz.pinned.checked.prog=true:=by kernel_rfl
theorem jf:joinedFacts Tryz.pinned.checked.prog 6 Tryz.f6 (Rows.OpenSpec.upto Rows.meaningTellsSpec).bare Rows.meaningTellsUptoRow=true:=by unfold joinedFacts;simp only[Bool.and_eq_true];refine⟨⟨⟨⟨⟨⟨⟨⟨⟨⟨⟨⟨⟨⟨⟨⟨⟨⟨⟨⟨⟨⟨⟨⟨⟨⟨⟨⟨⟨⟨⟨?_,aNV⟩,aRO⟩,?_⟩,?_⟩,?_⟩,?_⟩,?_⟩,?_⟩,aIQ⟩,aZJ⟩,bAB⟩,aGO⟩,?_⟩,?_⟩,?_⟩,?_⟩,?_⟩,?_⟩,?_⟩,?_⟩,?_⟩,?_⟩,?_⟩,aKP⟩,aHR⟩,aKR⟩,?_⟩,?_⟩,?_⟩,?_⟩,?_⟩ <;> kernel_rfl
open Go.PL in
theorem Ap(hF:∀ (Q:List PL.aS) (M:PL.aG) (a2:List PL.aB) (J:List PL.aB) (G:List (List Int)),PL.okL 104 PL.dK Q->PL.iO M->PL.okL 40 PL.dX a2->PL.okL 40 PL.dX J->PL.okL 24 (PL.okL 8 PL.eZ) G->PL.aCP Q M a2 J G=some true):Rows.MeaningTellsUptoSaid:=
 OpenClaim.holds_of_cond 6 Tryz.f6 rfl rfl rfl rfl rfl rfl rfl ⟨rfl,rfl,rfl,rfl,rfl⟩ rfl rfl rfl rfl rfl (by kernel_rfl) Tryz.func6 jf (of_decide_eq_true (by kernel_rfl)) (by unfold Func.isWrapper; first | (rw[if_pos (by decide +kernel)]; kernel_rfl) | (rw[if_neg (by decide +kernel)]; exact⟨rfl,rfl⟩))
  (fun os D H enc _ F=>by rw[OpenClaim.pre_eq_preRow]; exact xD hF os D H enc F)
theorem wV(f:FuncId)(fn:Func)(hf:Tryz.pinned.checked.prog.funcNamed "errata/erratalaw21.MeaningTells" = some f)(hfn:Tryz.pinned.checked.prog.funcs[f]? = some fn):
  true=Tryz.pinned.checked.prog.looks []/\∀ (j:Nat) t,fn.params[j]? = some t->Tryz.pinned.checked.prog.wantsStandIn t=false:=by
 obtain rfl:f=6:=Option.some.inj ((show Tryz.prog.funcNamed "errata/erratalaw21.MeaningTells" = some 6 by kernel_rfl).symm.trans hf) |>.symm
 obtain rfl:fn=Tryz.f6:=(Option.some.inj (Tryz.func6.symm.trans hfn)).symm;refine⟨by kernel_rfl,fun j t ht=>?_⟩;rw[Tryz.params6]at ht;have hm:=Array.mem_of_getElem? ht;simp at hm;rcases hm with rfl | rfl | rfl | rfl
 ·exact(show Tryz.prog.wantsStandIn 22=false by kernel_rfl)
 ·exact(show Tryz.prog.wantsStandIn 29=false by kernel_rfl)
 ·exact(show Tryz.prog.wantsStandIn 37=false by kernel_rfl)
 ·exact(show Tryz.prog.wantsStandIn 55=false by kernel_rfl)
theorem bEJ:Rows.meaningTellsUptoRow.wfByText (Rows.OpenSpec.upto Rows.meaningTellsSpec)=true:=by kernel_rfl
theorem aQJ:Tryz.pinned.checked.prog.mainIs=some (Rows.meaningTellsUptoCard.stood.harness.1,Rows.meaningTellsUptoCard.stood.harness.2.toList):=by kernel_rfl
theorem aUZ:false=Rows.meaningTellsUptoRow.goesBy Tryz.pinned.checked.prog:=by kernel_rfl
open Go.PL in
theorem xI(hF:∀ (M:List PL.aS) (J:PL.aG) (a2:List PL.aB) (G:List PL.aB) (D:List (List Int)),PL.okL 104 PL.dK M->PL.iO J->PL.okL 40 PL.dX a2->PL.okL 40 PL.dX G->PL.okL 24 (PL.okL 8 PL.eZ) D->PL.aCP M J a2 G D=some true):Rows.MeaningTellsUptoCardSaid:=
 Claim7.holds_tied_plain_at .later [] _ _ _ _ (Ap hF) (fun _ h=>by cases h) bEJ (fun _ h=>by cases h) meaningTellsUpto_row_tie rfl ⟨rfl,rfl⟩ aQJ rfl wV aUZ
end Go.Proofs.YtjefblkdnolgaaaGreatDoor
namespace Go.Proofs.YtjefblkdnolgaaaGreatDoor
theorem meaningTells_holds:Rows.MeaningTellsUptoCardSaid:=xI fun f n a b t D h1 h2 h3 h4=>PL.aEO f n a b t D h1 h2 h3 h4
#print axioms meaningTells_holds
end Go.Proofs.YtjefblkdnolgaaaGreatDoor
