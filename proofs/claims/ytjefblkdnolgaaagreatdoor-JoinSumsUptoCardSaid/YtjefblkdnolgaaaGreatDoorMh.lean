/-
  JoinSums: for all arguments of bulk at most 1048576 the law returns true and leaves its arguments as they were; the listed tables are tied to the program's text. Own work.
  Parts ahead of it: The row of JoinSums from what its function gives, and its card. Own work.
-/
import Derived.Test.YtjefblkdnolgaaaGreatDoorMg
import Derived.Test.YtjefblkdnolgaaaGreatDoorCards
import Derived.Test.YtjefblkdnolgaaaGreatDoorTie
import Derived.SizedLaws
import Derived.Deep.DeepHandedRow
import Derived.Lib.LaidTab
namespace Go.Proofs.YtjefblkdnolgaaaGreatDoor
open Go Go.RowKit
abbrev laid3 {H : Type} : List (String × DataW H) := [("math/bits.deBruijn32tab", Rows.laid_math_bits_deBruijn32tab), ("math/bits.deBruijn64tab", Rows.laid_math_bits_deBruijn64tab), ("internal/strconv.uint64pow10", Rows.laid_internal_strconv_uint64pow10)]
theorem own : ownKnob Tryz.prog.godebug = none := by kernel_rfl
theorem gTab : Tryz.prog.globalNamed "internal/strconv.uint64pow10" = some 1 := by kernel_rfl
theorem pow_datum : (Rows.laid_internal_strconv_uint64pow10 : DataW Unit) = Lib.tabData .u64 Lib.pow10Tab := by rfl
theorem pow_tab {W : World} (h : laidMetH Tryz.prog laid3 W) : Lib.TabIs Tryz.prog W "internal/strconv.uint64pow10" .u64 Lib.pow10Tab ∧ 1 < W.heap.size := by
 have h' : laidMet Tryz.prog laid3 W := h
 obtain ⟨ps, hv, _⟩ := h'
 obtain ⟨g1, t1, cs1, f1, p1, q1, _, _, _, _, hv2, _⟩ := hv
 obtain ⟨g2, t2, cs2, f2, p2, q2, _, _, _, _, hv3, _⟩ := hv2
 obtain ⟨g, t, cs, fuel, p, q, hg, hty, hvar, hd, _, _⟩ := hv3
 obtain rfl := Option.some.inj (gTab.symm.trans hg)
 have hT : Lib.TabIs Tryz.prog W "internal/strconv.uint64pow10" .u64 Lib.pow10Tab := by
  have ht' : ((Tryz.prog.globals[1]?).map (·.type)) = some 311 := by kernel_rfl
  obtain rfl := Option.some.inj (ht'.symm.trans hty)
  rw [pow_datum] at hd
  unfold Lib.TabIs
  rw [hvar, ← Lib.cells_of_tab Tryz.underlying311 Tryz.underlying269 (by kernel_rfl) (by kernel_rfl) hd]
 refine ⟨hT, ?_⟩
 have hc := hT.cell gTab 0 (by decide)
 refine Classical.byContradiction fun h0 => ?_
 have : W.heap[1]? = none := Array.getElem?_eq_none (by omega)
 simp [World.cell?, this] at hc
theorem glp {W : World} (h : laidMetH Tryz.prog laid3 W) : PL.GLP Tryz.prog (fun b => b < W.heap.size) W := by
 intro b hb
 obtain ⟨h1, h2⟩ := pow_tab h
 obtain rfl := Option.some.inj (gTab.symm.trans hb)
 exact ⟨h1, h2⟩
def cellsD : DataW Unit → Array Value
 | .agg l => (l.map fun d => match d with | .lit (.int k z) => Value.int k z | _ => .bool false).toArray
 | _ => #[]
noncomputable def layAt (h : Array Obj) (b : Nat) (d : DataW Unit) : Array Obj := h.modify b fun
 | .cells _ t frozen => .cells (cellsD d) t frozen
 | o => o
noncomputable def laidWorld (os : Os) : World :=
 { World.holding Tryz.prog os ⟨#[], #[], []⟩ with heap := layAt (layAt (layAt (World.holding Tryz.prog os ⟨#[], #[], []⟩).heap 1 Rows.laid_internal_strconv_uint64pow10) 4 Rows.laid_math_bits_deBruijn32tab) 5 Rows.laid_math_bits_deBruijn64tab }
theorem laid_met (os : Os) (args : Array Value) : laidMet Tryz.prog laid3 ((laidWorld os).forCall (fun _ _ => 0) ⟨#[], args, []⟩).memory :=
 laidMet_of_run' 8 (by kernel_rfl) (by kernel_rfl)
noncomputable abbrev argsW : Array Value := #[.agg #[.int .i64 0, .slice none 0 0, .string .empty, .int .i64 0, .slice none 0 0, .int .i64 0, .int .i64 0, .int .i64 0, .slice none 0 0, .slice none 0 0, .int .i64 0, .int .i64 0, .int .i64 0, .slice none 0 0, .slice none 0 0, .slice none 0 0], .slice none 0 0, .slice none 0 0]
open Go.PL in
set_option maxRecDepth 100000 in
theorem joinSums_lift (hF : ∀ (a0 : PL.GNode) (a1 : List (List Int)) (a2 : List PL.GAct), PL.okGNode a0 → PL.okL 24 (PL.okL 8 PL.inI64) a1 → PL.okL 40 PL.okGAct a2 → PL.G309 a0 a1 a2 = some true) (os : Os) (started : os.Started) (H : Type) (enc : TypeId × Value → H) (F : Stop.Interp) :
  ReturnsInHanded {} Tryz.checked os 12 .any ((Rows.OpenSpec.upto Rows.joinSumsSpec).preRow enc Tryz.prog Tryz.f12 Rows.joinSumsUptoRow.domain false Rows.joinSumsUptoRow.laid) (((Rows.OpenSpec.upto Rows.joinSumsSpec).at F).post enc Tryz.prog Tryz.f12 false true false false) := by
 refine returnsInHanded_of_row (C := Tryz.checked) (s := Rows.OpenSpec.upto Rows.joinSumsSpec) own started (by kernel_rfl) Tryz.func12
  (witness_row_at (enc := enc) (C := Tryz.checked) false (laidWorld os) argsW rfl (by kernel_rfl) (by kernel_rfl) (by kernel_rfl)
   (OpenSpec.preRow_of_cond 8 (x := Option.get (DataW.whole enc Tryz.prog ((laidWorld os).forCall (fun _ _ => 0) ⟨#[], argsW, []⟩).memory Tryz.f12.params.toList (Rows.OpenSpec.upto Rows.joinSumsSpec).vars false argsW.toList 8) (by kernel_rfl)) (Option.some_get _).symm (by kernel_rfl) (fun k hk => by cases hk; kernel_rfl) (by kernel_rfl) (laid_met os _))) ?_
 intro W base args ds gs before hval0 hW _ hcond _ hL _ _
 have hsz := hcond _ rfl
 have hval : ∀ (j : Nat) t v, Tryz.f12.params[j]? = some t → args[j]? = some v → Value.okWide Tryz.prog W .any base t v := hval0
 have hW' : DataW.Whole enc Tryz.prog Tryz.f12.params.toList Rows.joinSumsSpec.vars false W args.toList ds gs before := hW
 obtain ⟨p, q, hA0, hV, rfl, _⟩ := hW
 have hA : DataW.TrodAll enc Tryz.prog W 0 (fun _ => true) true Tryz.f12.params.toList args.toList ds p := hA0
 rw [Tryz.params12] at hA hval
 obtain ⟨v0, vs0, d0, ds0, p0, q0, hl0, rfl, rfl, h0, r0⟩ := Go.ChangeShapes.trodAll_cons hA
 obtain ⟨v1, vs1, d1, ds1, p1, q1, hl1, rfl, rfl, h1, r1⟩ := Go.ChangeShapes.trodAll_cons r0
 obtain ⟨v2, vs2, d2, ds2, p2, q2, hl2, rfl, rfl, h2, r2⟩ := Go.ChangeShapes.trodAll_cons r1
 obtain ⟨hl3, rfl, rfl⟩ := Go.ChangeShapes.trodAll_nil r2
 subst hl3
 subst hl2
 subst hl1
 obtain rfl : args = #[v0, v1, v2] := by cases args; simp_all
 obtain ⟨rfl, rfl⟩ := Go.ChangeShapes.trodVars_none hV
 have hwt : Rows.uptoBulkAll [d0, d1, d2] ≤ 1048576 := by
  have := of_decide_eq_true hsz
  simpa using this
 simp only [Rows.uptoBulkAll] at hwt
 obtain ⟨x0, hx0, ok0⟩ := arg_struct (c := cGNode) Tryz.underlying29 (fun fuel => o29 fuel) (hval 0 29 v0 rfl rfl) h0 (by omega)
 obtain ⟨x1, hx1, ok1⟩ := arg_slice (c := fun xs => eL cL_cInt (xs)) Tryz.underlying55 (fun fuel => o55 fuel) (hval 1 55 v1 rfl rfl) h1 (by omega)
 obtain ⟨x2, hx2, ok2⟩ := arg_slice (c := fun xs => eL cGAct (xs)) Tryz.underlying80 (fun fuel => o80 fuel) (hval 2 80 v2 rfl rfl) h2 (by omega)
 have hn := hF x0 x1 x2 ok0 ok1 ok2
 refine (PCall.law ((G309_ok x0 x1 x2).h true hn) (W := W) (vs := #[v0, v1, v2]) rfl (fun j x v hj hv => ?_) (glp hL)).mono fun e W' ⟨he, hb⟩ => ?_
 ·match j, hj, hv with
  | 0, hj, hv => cases hj; cases hv; exact .t hx0
  | 1, hj, hv => cases hj; cases hv; exact .t hx1
  | 2, hj, hv => cases hj; cases hv; exact .t hx2
  | j + 3, hj, hv => simp at hj
 ·subst he
  exact ⟨_, rfl, law_post (by kernel_rfl) rfl hW' hb (tb := 4) (by kernel_rfl) Tryz.underlying4 (fun t ht => by rw [Tryz.params12] at ht; simp at ht; rcases ht with rfl | rfl | rfl <;> exact ⟨by kernel_rfl, of_decide_eq_true (by kernel_rfl)⟩) rfl⟩
theorem jf_laid : laidOutB Tryz.pinned.checked.prog = true := by kernel_rfl
theorem jf_place : (Rows.joinSumsUptoRow.inPlace == Tryz.pinned.checked.prog.inPlace 12) = true := by kernel_rfl
theorem jf_unf : (Rows.joinSumsUptoRow.unfollowed == Tryz.pinned.checked.prog.unfollowed 12) = true := by kernel_rfl
theorem jf_rec : (Rows.joinSumsUptoRow.recurses == Tryz.pinned.checked.prog.recurses 12) = true := by kernel_rfl
theorem jf_named : (Rows.joinSumsUptoRow.named == Tryz.pinned.checked.prog.varsNamed 12) = true := by kernel_rfl
theorem jf_heard : Tryz.pinned.checked.prog.stopsHeard = true := by kernel_rfl
theorem jf_enter : Tryz.pinned.checked.prog.mayEnter = true := by kernel_rfl
theorem jf_lifts : (Rows.joinSumsUptoRow.lifted == Tryz.pinned.checked.prog.liftsFinal) = true := by kernel_rfl
theorem jf_maps : mapsRowed Tryz.pinned.checked.prog = true := by kernel_rfl
theorem jf : joinedFacts Tryz.pinned.checked.prog 12 Tryz.f12 (Rows.OpenSpec.upto Rows.joinSumsSpec).bare Rows.joinSumsUptoRow = true := by
 unfold joinedFacts
 simp only [Bool.and_eq_true]
 refine ⟨⟨⟨⟨⟨⟨⟨⟨⟨⟨⟨⟨⟨⟨⟨⟨⟨⟨⟨⟨⟨⟨⟨⟨⟨⟨⟨⟨⟨⟨⟨?_, jf_laid⟩, jf_maps⟩, ?_⟩, ?_⟩, ?_⟩, ?_⟩, ?_⟩, ?_⟩, jf_place⟩, jf_unf⟩, jf_rec⟩, jf_named⟩, ?_⟩, ?_⟩, ?_⟩, ?_⟩, ?_⟩, ?_⟩, ?_⟩, ?_⟩, ?_⟩, ?_⟩, ?_⟩, jf_heard⟩, jf_enter⟩, jf_lifts⟩, ?_⟩, ?_⟩, ?_⟩, ?_⟩, ?_⟩ <;> kernel_rfl
open Go.PL in
theorem joinSums_row (hF : ∀ (a0 : PL.GNode) (a1 : List (List Int)) (a2 : List PL.GAct), PL.okGNode a0 → PL.okL 24 (PL.okL 8 PL.inI64) a1 → PL.okL 40 PL.okGAct a2 → PL.G309 a0 a1 a2 = some true) : Rows.JoinSumsUptoSaid :=
 OpenClaim.holds_of_cond 12 Tryz.f12 rfl rfl rfl rfl rfl rfl rfl ⟨rfl, rfl, rfl, rfl, rfl⟩ rfl rfl rfl rfl rfl (by kernel_rfl) Tryz.func12 jf (of_decide_eq_true (by kernel_rfl)) (by unfold Func.isWrapper; first | (rw [if_pos (by decide +kernel)]; kernel_rfl) | (rw [if_neg (by decide +kernel)]; exact ⟨rfl, rfl⟩))
  (fun os started H enc _ F => by rw [OpenClaim.pre_eq_preRow]; exact joinSums_lift hF os started H enc F)
theorem joinSums_plain (f : FuncId) (fn : Func) (hf : Tryz.pinned.checked.prog.funcNamed "errata/erratalaw32.JoinSums" = some f) (hfn : Tryz.pinned.checked.prog.funcs[f]? = some fn) :
  true = Tryz.pinned.checked.prog.looks [] ∧ ∀ (j : Nat) t, fn.params[j]? = some t → Tryz.pinned.checked.prog.wantsStandIn t = false := by
 obtain rfl : f = 12 := Option.some.inj ((show Tryz.prog.funcNamed "errata/erratalaw32.JoinSums" = some 12 by kernel_rfl).symm.trans hf) |>.symm
 obtain rfl : fn = Tryz.f12 := (Option.some.inj (Tryz.func12.symm.trans hfn)).symm
 refine ⟨by kernel_rfl, fun j t ht => ?_⟩
 rw [Tryz.params12] at ht
 have hm := Array.mem_of_getElem? ht
 simp at hm
 rcases hm with rfl | rfl | rfl
 ·exact (show Tryz.prog.wantsStandIn 29 = false by kernel_rfl)
 ·exact (show Tryz.prog.wantsStandIn 55 = false by kernel_rfl)
 ·exact (show Tryz.prog.wantsStandIn 80 = false by kernel_rfl)
theorem jc_wf : Rows.joinSumsUptoRow.wfByText (Rows.OpenSpec.upto Rows.joinSumsSpec) = true := by kernel_rfl
theorem jc_main : Tryz.pinned.checked.prog.mainIs = some (Rows.joinSumsUptoCard.stood.harness.1, Rows.joinSumsUptoCard.stood.harness.2.toList) := by kernel_rfl
theorem jc_goes : false = Rows.joinSumsUptoRow.goesBy Tryz.pinned.checked.prog := by kernel_rfl
open Go.PL in
theorem joinSums_card (hF : ∀ (a0 : PL.GNode) (a1 : List (List Int)) (a2 : List PL.GAct), PL.okGNode a0 → PL.okL 24 (PL.okL 8 PL.inI64) a1 → PL.okL 40 PL.okGAct a2 → PL.G309 a0 a1 a2 = some true) : Rows.JoinSumsUptoCardSaid :=
 Claim7.holds_tied_plain_at .later [] _ _ _ _ (joinSums_row hF) (fun _ h => by cases h) jc_wf (fun _ h => by cases h) joinSumsUpto_row_tie rfl ⟨rfl, rfl⟩ jc_main rfl joinSums_plain jc_goes
end Go.Proofs.YtjefblkdnolgaaaGreatDoor
namespace Go.Proofs.YtjefblkdnolgaaaGreatDoor
theorem joinSums_holds : Rows.JoinSumsUptoCardSaid := joinSums_card fun n t a h1 h2 h3 => PL.G309_true n t a h1 h2 h3
#print axioms joinSums_holds
end Go.Proofs.YtjefblkdnolgaaaGreatDoor
