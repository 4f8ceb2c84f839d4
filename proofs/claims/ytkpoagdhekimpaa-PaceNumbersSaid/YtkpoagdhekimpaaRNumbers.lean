/- depotlaw: PaceNumbers answers true for every input and turns nothing that was there. -/
import Derived.Test.YtkpoagdhekimpaaVcO
import Derived.Test.YtkpoagdhekimpaaNum
set_option linter.unusedVariables false
set_option linter.unusedSimpArgs false
set_option maxRecDepth 100000
namespace Go.Proofs.Ytkpoagdhekimpaa.Pace
open Go Go.Proofs.Ytkpoagdhekimpaa.Vc Go.Proofs.Ytkpoagdhekimpaa.T Go.ChangeShapes Go.WideShapes Go.ChangeAt Go.RowKit
theorem paceNumbers_lifted (os : Os) (started : os.Started) (H : Type) (enc : TypeId × Value → H) :
    ReturnsInHanded {} Try.checked os 8 .any (Rows.paceNumbersSpec.pre6 enc Try.prog Try.f8 Rows.paceNumbersRow.domain false) (Rows.paceNumbersSpec.post enc Try.prog Try.f8 false true false false) := by
  refine row_true (C := Try.checked) (tb := 4) (by kernel_rfl) started (by kernel_rfl) Try.func8
    (ChangeSpec.witness6 (enc := enc) (C := Try.checked) false ⟨#[], #[], []⟩ 12 (by kernel_rfl) (by kernel_rfl) (by kernel_rfl) (by kernel_rfl))
    (by kernel_rfl) (by kernel_rfl) rfl (by kernel_rfl) Try.underlying4 ?_ ?_
  · intro ds hd
    match ds, hd with
    | [], _ => exact ⟨rfl, rfl, rfl⟩
  · intro W base args ds ps hval hA
    have hA' : DataW.TrodAll enc Try.prog W 0 (fun _ => true) true Try.f8.params.toList args.toList ds ps := hA
    rw [Try.params8] at hA' hval
    obtain ⟨hargs, rfl, rfl⟩ := trodAll_nil hA'
    obtain rfl : args = #[] := by cases args; simp_all
    exact law8 W
theorem paceNumbers_over : Rows.paceNumbersRow.holds Try.pinned (OpenSpec.ofChange Rows.paceNumbersSpec) :=
  OpenClaim.holds_of_wide 8 Try.f8 rfl rfl rfl rfl rfl rfl rfl ⟨rfl, rfl, rfl, rfl, rfl⟩ rfl rfl rfl rfl rfl (by kernel_rfl) Try.func8 (by kernel_rfl)
    (of_decide_eq_true (by kernel_rfl)) (by unfold Func.isWrapper; first | (rw [if_pos (by decide +kernel)]; kernel_rfl) | (rw [if_neg (by decide +kernel)]; exact ⟨rfl, rfl⟩))
    (fun os started H enc _ => paceNumbers_lifted os started H enc)
end Go.Proofs.Ytkpoagdhekimpaa.Pace
namespace Go.Proofs.Ytkpoagdhekimpaa
theorem paceNumbers_holds : Rows.PaceNumbersSaid := Pace.paceNumbers_over
end Go.Proofs.Ytkpoagdhekimpaa
