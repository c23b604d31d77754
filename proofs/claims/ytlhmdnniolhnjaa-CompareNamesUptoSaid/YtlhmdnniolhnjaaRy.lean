/-
  The row of CompareNames, from what its function gives. Printed by a program of our own.
-/
import Derived.Test.YtlhmdnniolhnjaaRows
import Derived.Test.YtlhmdnniolhnjaaRo
import Derived.SizedLaws
import Derived.Test.YtlhmdnniolhnjaaFc
namespace Go.Proofs.Ytlhmdnniolhnjaa
open Go Go.RowKit

open Go.PL in
set_option maxRecDepth 100000 in
theorem compareNames_lift (hF : ∀ (a0 : GProgram) (a1 : GProgram), PL.okGProgram a0 → PL.okGProgram a1 → ∃ n, PL.F4 n a0 a1 = some true) (os : Os) (started : os.Started) (H : Type) (enc : TypeId × Value → H) (F : Stop.Interp) : ReturnsInHanded {} Try.checked os 4 .any ((Rows.OpenSpec.upto Rows.compareNamesSpec).pre6 enc Try.prog Try.f4 Rows.compareNamesUptoRow.domain false) (((Rows.OpenSpec.upto Rows.compareNamesSpec).at F).post enc Try.prog Try.f4 false true false false) := by
  refine returnsInHanded_of_cond (C := Try.checked) (s := Rows.OpenSpec.upto Rows.compareNamesSpec) (k := Rows.uptoSmall) rfl (by kernel_rfl) started (by kernel_rfl) Try.func4 (OpenSpec.witness (enc := enc) (C := Try.checked) (fn := Try.f4) (s := Rows.OpenSpec.upto Rows.compareNamesSpec) (k := Rows.uptoSmall) rfl false ⟨#[], #[.agg #[.slice none 0 0, .slice none 0 0], .agg #[.slice none 0 0, .slice none 0 0]], []⟩ 8 (by kernel_rfl) (by kernel_rfl) (by kernel_rfl) (x := Option.get (DataW.whole enc Try.prog (World.plainHolding Try.prog os ⟨#[], #[.agg #[.slice none 0 0, .slice none 0 0], .agg #[.slice none 0 0, .slice none 0 0]], []⟩).memory Try.f4.params.toList (Rows.OpenSpec.upto Rows.compareNamesSpec).vars false (#[.agg #[.slice none 0 0, .slice none 0 0], .agg #[.slice none 0 0, .slice none 0 0]] : Array Value).toList 8) (by kernel_rfl)) (Option.some_get _).symm rfl (by kernel_rfl) (by kernel_rfl)) ?_
  intro W base args ds gs before hval0 hW _ hsz _
  have hval : ∀ (j : Nat) t v, Try.f4.params[j]? = some t → args[j]? = some v → Value.okWide Try.prog W .any base t v := hval0
  have hW' : DataW.Whole enc Try.prog Try.f4.params.toList Rows.compareNamesSpec.vars false W args.toList ds gs before := hW
  obtain ⟨p, q, hA0, hV, rfl, _⟩ := hW
  have hA : DataW.TrodAll enc Try.prog W 0 (fun _ => true) true Try.f4.params.toList args.toList ds p := hA0
  rw [Try.params4] at hA hval
  obtain ⟨v0, vs0, d0, ds0, p0, q0, hl0, rfl, rfl, h0, r0⟩ := Go.ChangeShapes.trodAll_cons hA
  obtain ⟨v1, vs1, d1, ds1, p1, q1, hl1, rfl, rfl, h1, r1⟩ := Go.ChangeShapes.trodAll_cons r0
  obtain ⟨hl2, rfl, rfl⟩ := Go.ChangeShapes.trodAll_nil r1
  subst hl2
  subst hl1
  obtain rfl : args = #[v0, v1] := by cases args; simp_all
  obtain ⟨rfl, rfl⟩ := Go.ChangeShapes.trodVars_none hV
  have hwt : Rows.uptoBulkAll [d0, d1] ≤ 1048576 := by
    have := of_decide_eq_true hsz
    simpa using this
  simp only [Rows.uptoBulkAll] at hwt
  obtain ⟨x0, hx0, ok0⟩ := arg_struct (c := cGProgram) Try.underlying25 (fun fuel => o25 fuel) (hval 0 25 v0 rfl rfl) h0 (by omega)
  obtain ⟨x1, hx1, ok1⟩ := arg_struct (c := cGProgram) Try.underlying25 (fun fuel => o25 fuel) (hval 1 25 v1 rfl rfl) h1 (by omega)
  obtain ⟨n, hn⟩ := hF x0 x1 ok0 ok1
  refine (PCall.law (F4_ok n x0 x1 true hn) (W := W) (vs := #[v0, v1]) rfl (fun j x v hj hv => ?_)).mono fun e W' ⟨he, hb⟩ => ?_
  · match j, hj, hv with
    | 0, hj, hv => cases hj; cases hv; exact .t hx0
    | 1, hj, hv => cases hj; cases hv; exact .t hx1
    | j + 2, hj, hv => simp at hj
  · subst he
    exact ⟨_, rfl, law_post (by kernel_rfl) rfl hW' hb (tb := 4) (by kernel_rfl) Try.underlying4 (fun t ht => by rw [Try.params4] at ht; simp at ht; subst ht; exact ⟨by kernel_rfl, of_decide_eq_true (by kernel_rfl)⟩) rfl⟩

open Go.PL in
theorem compareNames_row (hF : ∀ (a0 : GProgram) (a1 : GProgram), PL.okGProgram a0 → PL.okGProgram a1 → ∃ n, PL.F4 n a0 a1 = some true) : Rows.CompareNamesUptoSaid :=
  OpenClaim.holds_of_cond 4 Try.f4 rfl rfl rfl rfl rfl rfl rfl ⟨rfl, rfl, rfl, rfl, rfl⟩ rfl rfl rfl rfl rfl (by kernel_rfl) Try.func4 (by kernel_rfl) (of_decide_eq_true (by kernel_rfl)) (by unfold Func.isWrapper; first | (rw [if_pos (by decide +kernel)]; kernel_rfl) | (rw [if_neg (by decide +kernel)]; exact ⟨rfl, rfl⟩)) (fun os started H enc _ F => compareNames_lift hF os started H enc F)

end Go.Proofs.Ytlhmdnniolhnjaa
