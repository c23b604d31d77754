/-
  JoinBack: for all arguments of bulk at most 1048576 the law returns true and leaves its arguments as they were; the listed tables and errors are tied to the program's text. Own work.
  Parts ahead of it: The row of JoinBack from what its function gives, and its card. Own work.
-/
import Derived.Test.YthifkbcpnbcenaaGreatDoorMh
import Derived.Test.YthifkbcpnbcenaaGreatDoorCards
import Derived.Test.YthifkbcpnbcenaaGreatDoorTie
import Derived.SizedLaws
import Derived.Deep.DeepHandedRow
import Derived.Lib.LaidTab
namespace Go.Proofs.YthifkbcpnbcenaaGreatDoor
open Go Go.RowKit
abbrev laid3 {H:Type}:List (String×DataW H):=[("math/bits.deBruijn32tab", Rows.laid_math_bits_deBruijn32tab),("math/bits.deBruijn64tab", Rows.laid_math_bits_deBruijn64tab),("internal/strconv.uint64pow10", Rows.laid_internal_strconv_uint64pow10),("strconv.ErrRange", Rows.laid_strconv_ErrRange),("strconv.ErrSyntax", Rows.laid_strconv_ErrSyntax)]
theorem own:ownKnob Tryz.prog.godebug=none:=by kernel_rfl
theorem gTab:Tryz.prog.globalNamed "internal/strconv.uint64pow10" = some 3:=by kernel_rfl
theorem pow_datum:(Rows.laid_internal_strconv_uint64pow10:DataW Unit)=Lib.tabData .u64 Lib.pow10Tab:=by rfl
theorem pow_tab{W:World}(h:laidMetH Tryz.prog laid3 W):Lib.TabIs Tryz.prog W "internal/strconv.uint64pow10" .u64 Lib.pow10Tab∧3<W.heap.size:=by
 have h':laidMet Tryz.prog laid3 W:=h
 obtain⟨ps,hv,_⟩:=h'
 obtain⟨g1,t1,cs1,f1,p1,q1,_,_,_,_,hv2,_⟩:=hv
 obtain⟨g2,t2,cs2,f2,p2,q2,_,_,_,_,hv3,_⟩:=hv2
 obtain⟨g,t,cs,fuel,p,q,hg,hty,hvar,hd,_,_⟩:=hv3
 obtain rfl:=Option.some.inj (gTab.symm.trans hg)
 have hT:Lib.TabIs Tryz.prog W "internal/strconv.uint64pow10" .u64 Lib.pow10Tab:=by
  have ht':((Tryz.prog.globals[3]?).map (·.type))=some 206:=by kernel_rfl
  obtain rfl:=Option.some.inj (ht'.symm.trans hty)
  rw[pow_datum]at hd
  unfold Lib.TabIs
  rw[hvar,←Lib.cells_of_tab Tryz.underlying206 Tryz.underlying192 (by kernel_rfl) (by kernel_rfl) hd]
 refine⟨hT,?_⟩
 have hc:=hT.cell gTab 0 (by decide)
 refine Classical.byContradiction fun h0=>?_
 have:W.heap[3]? = none:=Array.getElem?_eq_none (by omega)
 simp[World.cell?,this]at hc
theorem glp{W:World}(h:laidMetH Tryz.prog laid3 W):PL.GLP Tryz.prog (fun b=>b<W.heap.size) W:=by
 intro b hb
 obtain⟨h1,h2⟩:=pow_tab h
 obtain rfl:=Option.some.inj (gTab.symm.trans hb)
 exact⟨h1,h2⟩
def cellsD:DataW Unit→Array Value
 | .agg l=>(l.map fun d=>match d with | .lit (.int k z)=>Value.int k z | _=>.bool false).toArray
 | _=>#[]
noncomputable def layAt (h:Array Obj)(b:Nat)(d:DataW Unit):Array Obj:=h.modify b fun
 | .cells _ t frozen=>.cells (cellsD d) t frozen
 | o=>o
abbrev synS:ByteArray:={ data:=#[105,110,118,97,108,105,100,32,115,121,110,116,97,120] }
abbrev rngS:ByteArray:={ data:=#[118,97,108,117,101,32,111,117,116,32,111,102,32,114,97,110,103,101] }
noncomputable def low:Nat:=(World.holding Tryz.prog default ⟨#[],#[],[]⟩).heap.size
noncomputable def layE (h:Array Obj)(b k:Nat):Array Obj:=h.modify b fun
 | .cells _ t frozen=>.cells #[.iface 212 (.pointer (some ⟨low+k,0,none⟩))] t frozen
 | o=>o
noncomputable def laidWorld (os:Os):World:=
 { World.holding Tryz.prog os ⟨#[.cells #[.string synS] 214,.cells #[.string rngS] 214],#[],[]⟩ with heap:=layE (layE (layAt (layAt (layAt (World.holding Tryz.prog os ⟨#[.cells #[.string synS] 214,.cells #[.string rngS] 214],#[],[]⟩).heap 3 Rows.laid_internal_strconv_uint64pow10) 4 Rows.laid_math_bits_deBruijn32tab) 5 Rows.laid_math_bits_deBruijn64tab) 1 0) 2 1 }
theorem laid_met(os:Os)(args:Array Value):laidMet Tryz.prog laid3 ((laidWorld os).forCall (fun _ _=>0) ⟨#[],args,[]⟩).memory:=
 laidMet_of_run' 8 (by kernel_rfl) (by kernel_rfl)
noncomputable abbrev argsW:Array Value:=#[.agg #[.int .i64 0,.slice none 0 0,.string .empty,.int .i64 0,.slice none 0 0,.int .i64 0,.int .i64 0,.int .i64 0,.slice none 0 0,.slice none 0 0,.int .i64 0,.int .i64 0,.int .i64 0,.slice none 0 0,.slice none 0 0,.slice none 0 0],.slice none 0 0,.slice none 0 0,.int .i64 0,.string .empty]
open Go.PL in
set_option maxRecDepth 100000 in
theorem joinBack_lift(hF:∀ (a0:PL.GNode) (a1:List (List Int)) (a2:List PL.GAct) (a3:Int) (a4:ByteArray),PL.okGNode a0→PL.okL 24 (PL.okL 8 PL.inI64) a1→PL.okL 40 PL.okGAct a2→PL.inI64 a3→PL.okStr a4→PL.G6 a0 a1 a2 a3 a4=some true)(os:Os)(started:os.Started)(H:Type)(enc:TypeId×Value→H)(F:Stop.Interp):
  ReturnsInHanded {} Tryz.checked os 3 .any ((Rows.OpenSpec.upto Rows.joinBackSpec).preRow enc Tryz.prog Tryz.f3 Rows.joinBackUptoRow.domain false Rows.joinBackUptoRow.laid) (((Rows.OpenSpec.upto Rows.joinBackSpec).at F).post enc Tryz.prog Tryz.f3 false true false false):=by
 refine returnsInHanded_of_row (C:=Tryz.checked) (s:=Rows.OpenSpec.upto Rows.joinBackSpec) own started (by kernel_rfl) Tryz.func3
  (witness_row_at (enc:=enc) (C:=Tryz.checked) false (laidWorld os) argsW rfl (by kernel_rfl) (by kernel_rfl) (by kernel_rfl)
   (OpenSpec.preRow_of_cond 8 (x:=Option.get (DataW.whole enc Tryz.prog ((laidWorld os).forCall (fun _ _=>0) ⟨#[],argsW,[]⟩).memory Tryz.f3.params.toList (Rows.OpenSpec.upto Rows.joinBackSpec).vars false argsW.toList 8) (by kernel_rfl)) (Option.some_get _).symm (by kernel_rfl) (fun k hk=>by cases hk; kernel_rfl) (by kernel_rfl) (laid_met os _))) ?_
 intro W base args ds gs before hval0 hW _ hcond _ hL _ _
 have hsz:=hcond _ rfl
 have hval:∀ (j:Nat) t v,Tryz.f3.params[j]? = some t→args[j]? = some v→Value.okWide Tryz.prog W .any base t v:=hval0
 have hW':DataW.Whole enc Tryz.prog Tryz.f3.params.toList Rows.joinBackSpec.vars false W args.toList ds gs before:=hW
 obtain⟨p,q,hA0,hV,rfl,_⟩:=hW
 have hA:DataW.TrodAll enc Tryz.prog W 0 (fun _=>true) true Tryz.f3.params.toList args.toList ds p:=hA0
 rw[Tryz.params3]at hA hval
 obtain⟨v0,vs0,d0,ds0,p0,q0,hl0,rfl,rfl,h0,r0⟩:=Go.ChangeShapes.trodAll_cons hA
 obtain⟨v1,vs1,d1,ds1,p1,q1,hl1,rfl,rfl,h1,r1⟩:=Go.ChangeShapes.trodAll_cons r0
 obtain⟨v2,vs2,d2,ds2,p2,q2,hl2,rfl,rfl,h2,r2⟩:=Go.ChangeShapes.trodAll_cons r1
 obtain⟨v3,vs3,d3,ds3,p3,q3,hl3,rfl,rfl,h3,r3⟩:=Go.ChangeShapes.trodAll_cons r2
 obtain⟨v4,vs4,d4,ds4,p4,q4,hl4,rfl,rfl,h4,r4⟩:=Go.ChangeShapes.trodAll_cons r3
 obtain⟨hl5,rfl,rfl⟩:=Go.ChangeShapes.trodAll_nil r4
 subst hl5
 subst hl4
 subst hl3
 subst hl2
 subst hl1
 obtain rfl:args=#[v0,v1,v2,v3,v4]:=by cases args; simp_all
 obtain⟨rfl,rfl⟩:=Go.ChangeShapes.trodVars_none hV
 have hwt:Rows.uptoBulkAll [d0,d1,d2,d3,d4]≤1048576:=by
  have:=of_decide_eq_true hsz
  simpa using this
 simp only[Rows.uptoBulkAll]at hwt
 obtain⟨x0,hx0,ok0⟩:=arg_struct (c:=cGNode) Tryz.underlying28 (fun fuel=>o28 fuel) (hval 0 28 v0 rfl rfl) h0 (by omega)
 obtain⟨x1,hx1,ok1⟩:=arg_slice (c:=fun xs=>eL cL_cInt (xs)) Tryz.underlying29 (fun fuel=>o29 fuel) (hval 1 29 v1 rfl rfl) h1 (by omega)
 obtain⟨x2,hx2,ok2⟩:=arg_slice (c:=fun xs=>eL cGAct (xs)) Tryz.underlying30 (fun fuel=>o30 fuel) (hval 2 30 v2 rfl rfl) h2 (by omega)
 obtain⟨x3,hx3,ok3⟩:=arg_int Tryz.underlying3 (hval 3 3 v3 rfl rfl) h3 (by omega)
 obtain⟨x4,hx4,ok4⟩:=arg_string Tryz.underlying9 (hval 4 9 v4 rfl rfl) h4 (by omega)
 have hn:=hF x0 x1 x2 x3 x4 ok0 ok1 ok2 ok3 ok4
 refine(PCall.law ((G6_ok x0 x1 x2 x3 x4).h true hn) (W:=W) (vs:=#[v0,v1,v2,v3,v4]) rfl (fun j x v hj hv=>?_) (glp hL)).mono fun e W' ⟨he,hb⟩=>?_
 ·match j,hj,hv with
  | 0,hj,hv=>cases hj; cases hv; exact .t hx0
  | 1,hj,hv=>cases hj; cases hv; exact .t hx1
  | 2,hj,hv=>cases hj; cases hv; exact .t hx2
  | 3,hj,hv=>cases hj; cases hv; exact .t hx3
  | 4,hj,hv=>cases hj; cases hv; exact .t hx4
  | j+5,hj,hv=>simp at hj
 ·subst he
  exact⟨_,rfl,law_post (by kernel_rfl) rfl hW' hb (tb:=4) (by kernel_rfl) Tryz.underlying4 (fun t ht=>by rw[Tryz.params3]at ht; simp at ht; rcases ht with rfl | rfl | rfl | rfl | rfl <;> exact⟨by kernel_rfl,of_decide_eq_true (by kernel_rfl)⟩) rfl⟩
theorem jf_laid:laidOutB Tryz.pinned.checked.prog=true:=by kernel_rfl
theorem jf_place:(Rows.joinBackUptoRow.inPlace==Tryz.pinned.checked.prog.inPlace 3)=true:=by kernel_rfl
theorem jf_unf:(Rows.joinBackUptoRow.unfollowed==Tryz.pinned.checked.prog.unfollowed 3)=true:=by kernel_rfl
theorem jf_rec:(Rows.joinBackUptoRow.recurses==Tryz.pinned.checked.prog.recurses 3)=true:=by kernel_rfl
theorem jf_named:(Rows.joinBackUptoRow.named==Tryz.pinned.checked.prog.varsNamed 3)=true:=by kernel_rfl
theorem jf_heard:Tryz.pinned.checked.prog.stopsHeard=true:=by kernel_rfl
theorem jf_enter:Tryz.pinned.checked.prog.mayEnter=true:=by kernel_rfl
theorem jf_lifts:(Rows.joinBackUptoRow.lifted==Tryz.pinned.checked.prog.liftsFinal)=true:=by kernel_rfl
theorem jf_maps:mapsRowed Tryz.pinned.checked.prog=true:=by kernel_rfl
theorem jf:joinedFacts Tryz.pinned.checked.prog 3 Tryz.f3 (Rows.OpenSpec.upto Rows.joinBackSpec).bare Rows.joinBackUptoRow=true:=by
 unfold joinedFacts
 simp only[Bool.and_eq_true]
 refine⟨⟨⟨⟨⟨⟨⟨⟨⟨⟨⟨⟨⟨⟨⟨⟨⟨⟨⟨⟨⟨⟨⟨⟨⟨⟨⟨⟨⟨⟨⟨?_,jf_laid⟩,jf_maps⟩,?_⟩,?_⟩,?_⟩,?_⟩,?_⟩,?_⟩,jf_place⟩,jf_unf⟩,jf_rec⟩,jf_named⟩,?_⟩,?_⟩,?_⟩,?_⟩,?_⟩,?_⟩,?_⟩,?_⟩,?_⟩,?_⟩,?_⟩,jf_heard⟩,jf_enter⟩,jf_lifts⟩,?_⟩,?_⟩,?_⟩,?_⟩,?_⟩ <;> kernel_rfl
open Go.PL in
theorem joinBack_row(hF:∀ (a0:PL.GNode) (a1:List (List Int)) (a2:List PL.GAct) (a3:Int) (a4:ByteArray),PL.okGNode a0→PL.okL 24 (PL.okL 8 PL.inI64) a1→PL.okL 40 PL.okGAct a2→PL.inI64 a3→PL.okStr a4→PL.G6 a0 a1 a2 a3 a4=some true):Rows.JoinBackUptoSaid:=
 OpenClaim.holds_of_cond 3 Tryz.f3 rfl rfl rfl rfl rfl rfl rfl ⟨rfl,rfl,rfl,rfl,rfl⟩ rfl rfl rfl rfl rfl (by kernel_rfl) Tryz.func3 jf (of_decide_eq_true (by kernel_rfl)) (by unfold Func.isWrapper; first | (rw[if_pos (by decide +kernel)]; kernel_rfl) | (rw[if_neg (by decide +kernel)]; exact⟨rfl,rfl⟩))
  (fun os started H enc _ F=>by rw[OpenClaim.pre_eq_preRow]; exact joinBack_lift hF os started H enc F)
theorem joinBack_plain(f:FuncId)(fn:Func)(hf:Tryz.pinned.checked.prog.funcNamed "errata/erratalaw32.JoinBack" = some f)(hfn:Tryz.pinned.checked.prog.funcs[f]? = some fn):
  true=Tryz.pinned.checked.prog.looks []∧∀ (j:Nat) t,fn.params[j]? = some t→Tryz.pinned.checked.prog.wantsStandIn t=false:=by
 obtain rfl:f=3:=Option.some.inj ((show Tryz.prog.funcNamed "errata/erratalaw32.JoinBack" = some 3 by kernel_rfl).symm.trans hf) |>.symm
 obtain rfl:fn=Tryz.f3:=(Option.some.inj (Tryz.func3.symm.trans hfn)).symm
 refine⟨by kernel_rfl,fun j t ht=>?_⟩
 rw[Tryz.params3]at ht
 have hm:=Array.mem_of_getElem? ht
 simp at hm
 rcases hm with rfl | rfl | rfl | rfl | rfl
 ·exact(show Tryz.prog.wantsStandIn 28=false by kernel_rfl)
 ·exact(show Tryz.prog.wantsStandIn 29=false by kernel_rfl)
 ·exact(show Tryz.prog.wantsStandIn 30=false by kernel_rfl)
 ·exact(show Tryz.prog.wantsStandIn 3=false by kernel_rfl)
 ·exact(show Tryz.prog.wantsStandIn 9=false by kernel_rfl)
theorem jc_wf:Rows.joinBackUptoRow.wfByText (Rows.OpenSpec.upto Rows.joinBackSpec)=true:=by kernel_rfl
theorem jc_main:Tryz.pinned.checked.prog.mainIs=some (Rows.joinBackUptoCard.stood.harness.1,Rows.joinBackUptoCard.stood.harness.2.toList):=by kernel_rfl
theorem jc_goes:false=Rows.joinBackUptoRow.goesBy Tryz.pinned.checked.prog:=by kernel_rfl
open Go.PL in
theorem joinBack_card(hF:∀ (a0:PL.GNode) (a1:List (List Int)) (a2:List PL.GAct) (a3:Int) (a4:ByteArray),PL.okGNode a0→PL.okL 24 (PL.okL 8 PL.inI64) a1→PL.okL 40 PL.okGAct a2→PL.inI64 a3→PL.okStr a4→PL.G6 a0 a1 a2 a3 a4=some true):Rows.JoinBackUptoCardSaid:=
 Claim7.holds_tied_plain_at .later [] _ _ _ _ (joinBack_row hF) (fun _ h=>by cases h) jc_wf (fun _ h=>by cases h) joinBackUpto_row_tie rfl ⟨rfl,rfl⟩ jc_main rfl joinBack_plain jc_goes
end Go.Proofs.YthifkbcpnbcenaaGreatDoor
namespace Go.Proofs.YthifkbcpnbcenaaGreatDoor
theorem joinBack_holds:Rows.JoinBackUptoCardSaid:=joinBack_card fun n t l a s h0 h1 h2 h3 h4=>PL.G6_true n t l a s h0 h1 h2
#print axioms joinBack_holds
end Go.Proofs.YthifkbcpnbcenaaGreatDoor
