/-
  CertifyRules: for all arguments of bulk at most 1048576 the law returns true and leaves its arguments as they were; the listed tables are tied to the program's text. Own work.
  Parts ahead of it: The row of CertifyRules from what its function gives, and its card. Own work.
-/
import Derived.Test.YtabcengbnoidlaaGreatDoorMj
import Derived.Test.YtabcengbnoidlaaGreatDoorCards
import Derived.Test.YtabcengbnoidlaaGreatDoorTie
import Derived.SizedLaws
import Derived.Deep.DeepHandedRow
import Derived.Deep.DeepWitnessRowRef
import Derived.Lib.LaidTab
import Derived.Deep.DeepLaidRun
set_option maxHeartbeats 4000000
set_option maxRecDepth 100000
namespace Go.Proofs.YtabcengbnoidlaaGreatDoor
open Go Go.RowKit
variable {W:World}
abbrev Ac:List (String×DataW Unit):=[("math/bits.deBruijn32tab", Rows.laid_math_bits_deBruijn32tab),("math/bits.deBruijn64tab", Rows.laid_math_bits_deBruijn64tab),("internal/strconv.uint64pow10", Rows.laid_internal_strconv_uint64pow10),("unicode.White_Space", Rows.laid_unicode_White_Space),("strings.asciiSpace", Rows.laid_strings_asciiSpace)]
theorem own:ownKnob Tryz.prog.godebug=none:=by kernel_rfl
theorem aRQ:Tryz.prog.globalNamed "internal/strconv.uint64pow10" = some 2:=by kernel_rfl
theorem aAS:(Rows.laid_internal_strconv_uint64pow10:DataW Unit)=Lib.tabData .u64 Lib.pow10Tab:=by rfl
theorem aKD(h:laidMetH Tryz.prog Ac W):Lib.TabIs Tryz.prog W "internal/strconv.uint64pow10" .u64 Lib.pow10Tab/\2<W.heap.size:=by
 have h':laidMet Tryz.prog Ac W:=h;obtain⟨ps,hv,_⟩:=h';obtain⟨g1,t1,cs1,f1,p1,q1,_,_,_,_,hv2,_⟩:=hv;obtain⟨g2,t2,cs2,f2,p2,q2,_,_,_,_,hv3,_⟩:=hv2;obtain⟨g,t,cs,fuel,p,q,hg,hty,hvar,hd,_,_⟩:=hv3;obtain rfl:=Option.some.inj (aRQ.symm.trans hg)
 have hT:Lib.TabIs Tryz.prog W "internal/strconv.uint64pow10" .u64 Lib.pow10Tab:=by
  have ht':((Tryz.prog.globals[2]?).map (·.type))=some 238:=by kernel_rfl
  obtain rfl:=Option.some.inj (ht'.symm.trans hty);rw[aAS]at hd;unfold Lib.TabIs;rw[hvar,<-Lib.cells_of_tab Tryz.underlying238 Tryz.underlying217 (by kernel_rfl) (by kernel_rfl) hd]
 refine⟨hT,?_⟩;have hc:=hT.cell aRQ 0 (by decide);refine Classical.byContradiction fun h0=>?_;have:W.heap[2]? = none:=Array.getElem?_eq_none (by omega);simp[World.cell?,this]at hc
theorem Zk:(Rows.laid_strings_asciiSpace:DataW Unit)=Lib.tabData .u8 Lib.asciiSpaceTab:=by rfl
theorem gls(h:laidMetH Tryz.prog Ac W):PL.GLS Tryz.prog (fun b=>b<W.heap.size) W:=by
 have h':laidMet Tryz.prog Ac W:=h;obtain⟨ps,hv,_⟩:=h';obtain⟨g0,t0,cs0,f0,p0,q0,i0,j0,k0,l0,hv1,_⟩:=hv;obtain⟨g1,t1,cs1,f1,p1,q1,i1,j1,k1,l1,hv2,_⟩:=hv1;obtain⟨g2,t2,cs2,f2,p2,q2,i2,j2,k2,l2,hv3,_⟩:=hv2;obtain⟨g3,t3,cs3,f3,p3,q3,i3,j3,k3,l3,hv4,_⟩:=hv3;obtain⟨g,t,cs,fuel,p,q,hg,hty,hvar,hd,_,_⟩:=hv4
 have gS:Tryz.prog.globalNamed "strings.asciiSpace" = some 0:=by kernel_rfl
 obtain rfl:=Option.some.inj (gS.symm.trans hg)
 have hT:Lib.TabIs Tryz.prog W "strings.asciiSpace" .u8 Lib.asciiSpaceTab:=by
  have ht':((Tryz.prog.globals[0]?).map (·.type))=some 181:=by kernel_rfl
  obtain rfl:=Option.some.inj (ht'.symm.trans hty);rw[Zk]at hd;unfold Lib.TabIs;rw[hvar,<-Lib.cells_of_tab Tryz.underlying181 Tryz.underlying5 (by kernel_rfl) (by kernel_rfl) hd]
 intro b hb;obtain rfl:=Option.some.inj (gS.symm.trans hb);refine⟨hT,?_⟩;have hc:=hT.cell gS 0 (by decide);refine Classical.byContradiction fun h0=>?_;have:W.heap[0]? = none:=Array.getElem?_eq_none (by omega);simp[World.cell?,this]at hc
theorem glt(h:laidMetH Tryz.prog Ac W):PL.GLT Tryz.prog (fun b=>b<W.heap.size) W:=by intro b hb;obtain⟨h1,h2⟩:=aKD h;obtain rfl:=Option.some.inj (aRQ.symm.trans hb);exact⟨h1,h2⟩
theorem glp(h:laidMetH Tryz.prog Ac W)(_hsh:W.ShapedOpen Tryz.prog):PL.GLP Tryz.prog (fun b=>b<W.heap.size) W:=
 ⟨glt h,fun _=>⟨fun b hb=>(Option.some_ne_none _ (hb.symm.trans (show Tryz.prog.globalNamed "strconv.ErrSyntax" = none by kernel_rfl))).elim,fun b hb=>(Option.some_ne_none _ (hb.symm.trans (show Tryz.prog.globalNamed "strconv.ErrRange" = none by kernel_rfl))).elim⟩,
  fun _=>⟨gls h,fun b hb=>(Option.some_ne_none _ (hb.symm.trans (show Tryz.prog.globalNamed "internal/bytealg.MaxLen" = none by kernel_rfl))).elim⟩⟩
def aSJ:DataW Unit->Array Value
 | .agg l=>(l.flatMap fun d=>match d with | .lit (.int k z)=>[Value.int k z] | .agg m=>m.map fun d=>(match d with | .lit (.int k z)=>Value.int k z | _=>.bool false) | _=>[.bool false]).toArray
 | _=>#[]
noncomputable def Sl (h:Array Obj)(b:Nat)(d:DataW Unit):Array Obj:=h.modify b fun
 | .cells _ t frozen=>.cells (aSJ d) t frozen
 | o=>o
noncomputable def low:Nat:=(World.holding Tryz.prog default ⟨#[],#[],[]⟩).heap.size
noncomputable def bBP (h:Array Obj)(b k:Nat):Array Obj:=h.modify b fun
 | .cells _ t frozen=>.cells #[.pointer (some ⟨low+k,0,none⟩)] t frozen
 | o=>o
noncomputable def wE (os:Os):World:=
 { World.holding Tryz.prog os ⟨#[.cells #[.int .u16 9,.int .u16 13,.int .u16 1,.int .u16 32,.int .u16 133,.int .u16 101,.int .u16 160,.int .u16 5760,.int .u16 5600,.int .u16 8192,.int .u16 8202,.int .u16 1,.int .u16 8232,.int .u16 8233,.int .u16 1,.int .u16 8239,.int .u16 8287,.int .u16 48,.int .u16 12288,.int .u16 12288,.int .u16 1] 211,.cells #[.slice (some ⟨low,0,none⟩) 7 7,.slice none 0 0,.int .i64 2] 208],#[],[]⟩ with heap:=bBP (Sl (Sl (Sl (Sl (World.holding Tryz.prog os ⟨#[.cells #[.int .u16 9,.int .u16 13,.int .u16 1,.int .u16 32,.int .u16 133,.int .u16 101,.int .u16 160,.int .u16 5760,.int .u16 5600,.int .u16 8192,.int .u16 8202,.int .u16 1,.int .u16 8232,.int .u16 8233,.int .u16 1,.int .u16 8239,.int .u16 8287,.int .u16 48,.int .u16 12288,.int .u16 12288,.int .u16 1] 211,.cells #[.slice (some ⟨low,0,none⟩) 7 7,.slice none 0 0,.int .i64 2] 208],#[],[]⟩).heap 2 Rows.laid_internal_strconv_uint64pow10) 3 Rows.laid_math_bits_deBruijn32tab) 4 Rows.laid_math_bits_deBruijn64tab) 0 Rows.laid_strings_asciiSpace) 1 1 }
theorem aHZ(os:Os)(args:Array Value):laidMet Tryz.prog Ac ((wE os).forCall (fun _ _=>0) ⟨#[],args,[]⟩).memory:=
 laidMet_of_run3 12 (by kernel_rfl) (by kernel_rfl) (by kernel_rfl)
noncomputable abbrev aBI:Array Value:=#[.agg #[.slice none 0 0,.slice none 0 0],.agg #[.int .i64 0,.int .i64 0,.int .i64 0]]
open Go.PL in
set_option maxRecDepth 100000 in
theorem uO(hF:∀ (a0:PL.aE) (a1:PL.cA),PL.gU a0->PL.lP a1->PL.aAU a0 a1=some true)(os:Os)(started:os.Started)(H:Type)(enc:TypeId×Value->H)(F:Stop.Interp):
  ReturnsInHanded {} Tryz.checked os 3 .any ((Rows.OpenSpec.upto Rows.certifyRulesSpec).preRow enc Tryz.prog Tryz.f3 Rows.certifyRulesUptoRow.domain false Rows.certifyRulesUptoRow.laid) (((Rows.OpenSpec.upto Rows.certifyRulesSpec).at F).post enc Tryz.prog Tryz.f3 false true false false):=by
 refine returnsInHanded_of_row (C:=Tryz.checked) (s:=Rows.OpenSpec.upto Rows.certifyRulesSpec) own started (by kernel_rfl) Tryz.func3
  (witness_row_atRef (enc:=enc) (C:=Tryz.checked) false (wE os) aBI rfl (by kernel_rfl) (by kernel_rfl) (by kernel_rfl)
   (OpenSpec.preRow_of_cond 8 (x:=Option.get (DataW.whole enc Tryz.prog ((wE os).forCall (fun _ _=>0) ⟨#[],aBI,[]⟩).memory Tryz.f3.params.toList (Rows.OpenSpec.upto Rows.certifyRulesSpec).vars false aBI.toList 8) (by kernel_rfl)) (Option.some_get _).symm (by kernel_rfl) (fun k hk=>by cases hk; kernel_rfl) (by kernel_rfl) (aHZ os _))) ?_
 intro W base args ds gs before hval0 hW _ hcond _ hL hsh _;have hsz:=hcond _ rfl;have hval:∀ (j:Nat) t v,Tryz.f3.params[j]? = some t->args[j]? = some v->Value.okWide Tryz.prog W .any base t v:=hval0;have hW':DataW.Whole enc Tryz.prog Tryz.f3.params.toList Rows.certifyRulesSpec.vars false W args.toList ds gs before:=hW;obtain⟨p,q,hA0,hV,rfl,_⟩:=hW;have hA:DataW.TrodAll enc Tryz.prog W 0 (fun _=>true) true Tryz.f3.params.toList args.toList ds p:=hA0;rw[Tryz.params3]at hA hval;obtain⟨v0,vs0,d0,ds0,p0,q0,hl0,rfl,rfl,h0,r0⟩:=Go.ChangeShapes.trodAll_cons hA;obtain⟨v1,vs1,d1,ds1,p1,q1,hl1,rfl,rfl,h1,r1⟩:=Go.ChangeShapes.trodAll_cons r0;obtain⟨hl2,rfl,rfl⟩:=Go.ChangeShapes.trodAll_nil r1;subst hl2;subst hl1;obtain rfl:args=#[v0,v1]:=by cases args; simp_all
 obtain⟨rfl,rfl⟩:=Go.ChangeShapes.trodVars_none hV;have hwt:Rows.uptoBulkAll [d0,d1]<=1048576:=by have:=of_decide_eq_true hsz;simpa using this
 simp only[Rows.uptoBulkAll]at hwt;obtain⟨x0,hx0,ok0⟩:=Al (c:=bK) Tryz.underlying25 (fun fuel=>o25 fuel) (hval 0 25 v0 rfl rfl) h0 (by omega);obtain⟨x1,hx1,ok1⟩:=Al (c:=dS) Tryz.underlying27 (fun fuel=>o27 fuel) (hval 1 27 v1 rfl rfl) h1 (by omega);have hn:=hF x0 x1 ok0 ok1;refine(fS.law ((aOS x0 x1).h true hn) (W:=W) (vs:=#[v0,v1]) rfl (fun j x v hj hv=>?_) (glp hL hsh)).mono fun e W' ⟨he,hb⟩=>?_
 ·match j,hj,hv with
  | 0,hj,hv=>cases hj; cases hv; exact .t hx0
  | 1,hj,hv=>cases hj; cases hv; exact .t hx1
  | j+2,hj,hv=>simp at hj
 ·subst he;exact⟨_,rfl,aFK (by kernel_rfl) rfl hW' hb (tb:=4) (by kernel_rfl) Tryz.underlying4 (fun t ht=>by rw[Tryz.params3]at ht; simp at ht; rcases ht with rfl | rfl <;> exact⟨by kernel_rfl,of_decide_eq_true (by kernel_rfl)⟩) rfl⟩
theorem aLD:laidOutB Tryz.pinned.checked.prog=true:=by kernel_rfl
theorem aBV:(Rows.certifyRulesUptoRow.inPlace==Tryz.pinned.checked.prog.inPlace 3)=true:=by kernel_rfl
theorem aVK:(Rows.certifyRulesUptoRow.unfollowed==Tryz.pinned.checked.prog.unfollowed 3)=true:=by kernel_rfl
theorem aSG:(Rows.certifyRulesUptoRow.recurses==Tryz.pinned.checked.prog.recurses 3)=true:=by kernel_rfl
theorem aHB:(Rows.certifyRulesUptoRow.named==Tryz.pinned.checked.prog.varsNamed 3)=true:=by kernel_rfl
theorem aGG:Tryz.pinned.checked.prog.stopsHeard=true:=by kernel_rfl
theorem aBO:Tryz.pinned.checked.prog.mayEnter=true:=by kernel_rfl
theorem aEO:(Rows.certifyRulesUptoRow.lifted==Tryz.pinned.checked.prog.liftsFinal)=true:=by kernel_rfl
theorem aJG:mapsRowed Tryz.pinned.checked.prog=true:=by kernel_rfl
theorem jf:joinedFacts Tryz.pinned.checked.prog 3 Tryz.f3 (Rows.OpenSpec.upto Rows.certifyRulesSpec).bare Rows.certifyRulesUptoRow=true:=by unfold joinedFacts;simp only[Bool.and_eq_true];refine⟨⟨⟨⟨⟨⟨⟨⟨⟨⟨⟨⟨⟨⟨⟨⟨⟨⟨⟨⟨⟨⟨⟨⟨⟨⟨⟨⟨⟨⟨⟨?_,aLD⟩,aJG⟩,?_⟩,?_⟩,?_⟩,?_⟩,?_⟩,?_⟩,aBV⟩,aVK⟩,aSG⟩,aHB⟩,?_⟩,?_⟩,?_⟩,?_⟩,?_⟩,?_⟩,?_⟩,?_⟩,?_⟩,?_⟩,?_⟩,aGG⟩,aBO⟩,aEO⟩,?_⟩,?_⟩,?_⟩,?_⟩,?_⟩ <;> kernel_rfl
open Go.PL in
theorem vL(hF:∀ (a0:PL.aE) (a1:PL.cA),PL.gU a0->PL.lP a1->PL.aAU a0 a1=some true):Rows.CertifyRulesUptoSaid:=
 OpenClaim.holds_of_cond 3 Tryz.f3 rfl rfl rfl rfl rfl rfl rfl ⟨rfl,rfl,rfl,rfl,rfl⟩ rfl rfl rfl rfl rfl (by kernel_rfl) Tryz.func3 jf (of_decide_eq_true (by kernel_rfl)) (by unfold Func.isWrapper; first | (rw[if_pos (by decide +kernel)]; kernel_rfl) | (rw[if_neg (by decide +kernel)]; exact⟨rfl,rfl⟩))
  (fun os started H enc _ F=>by rw[OpenClaim.pre_eq_preRow]; exact uO hF os started H enc F)
theorem tA(f:FuncId)(fn:Func)(hf:Tryz.pinned.checked.prog.funcNamed "errata/erratalaw23.CertifyRules" = some f)(hfn:Tryz.pinned.checked.prog.funcs[f]? = some fn):
  true=Tryz.pinned.checked.prog.looks []/\∀ (j:Nat) t,fn.params[j]? = some t->Tryz.pinned.checked.prog.wantsStandIn t=false:=by
 obtain rfl:f=3:=Option.some.inj ((show Tryz.prog.funcNamed "errata/erratalaw23.CertifyRules" = some 3 by kernel_rfl).symm.trans hf) |>.symm
 obtain rfl:fn=Tryz.f3:=(Option.some.inj (Tryz.func3.symm.trans hfn)).symm;refine⟨by kernel_rfl,fun j t ht=>?_⟩;rw[Tryz.params3]at ht;have hm:=Array.mem_of_getElem? ht;simp at hm;rcases hm with rfl | rfl
 ·exact(show Tryz.prog.wantsStandIn 25=false by kernel_rfl)
 ·exact(show Tryz.prog.wantsStandIn 27=false by kernel_rfl)
theorem aYP:Rows.certifyRulesUptoRow.wfByText (Rows.OpenSpec.upto Rows.certifyRulesSpec)=true:=by kernel_rfl
theorem aOG:Tryz.pinned.checked.prog.mainIs=some (Rows.certifyRulesUptoCard.stood.harness.1,Rows.certifyRulesUptoCard.stood.harness.2.toList):=by kernel_rfl
theorem aJM:false=Rows.certifyRulesUptoRow.goesBy Tryz.pinned.checked.prog:=by kernel_rfl
open Go.PL in
theorem tY(hF:∀ (a0:PL.aE) (a1:PL.cA),PL.gU a0->PL.lP a1->PL.aAU a0 a1=some true):Rows.CertifyRulesUptoCardSaid:=
 Claim7.holds_tied_plain_at .later [] _ _ _ _ (vL hF) (fun _ h=>by cases h) aYP (fun _ h=>by cases h) certifyRulesUpto_row_tie rfl ⟨rfl,rfl⟩ aOG rfl tA aJM
end Go.Proofs.YtabcengbnoidlaaGreatDoor
namespace Go.Proofs.YtabcengbnoidlaaGreatDoor
theorem certifyRules_holds:Rows.CertifyRulesUptoCardSaid:=tY fun a0 a1 h0 h1=>PL.Wr a0 a1 h0 h1
#print axioms certifyRules_holds
end Go.Proofs.YtabcengbnoidlaaGreatDoor
