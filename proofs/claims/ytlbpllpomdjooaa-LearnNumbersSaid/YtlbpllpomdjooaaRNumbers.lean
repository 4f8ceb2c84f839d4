/- depotlaw: LearnNumbers answers true for every input and turns nothing that was there. -/
import Derived.Test.YtlbpllpomdjooaaVcO
import Derived.Test.YtlbpllpomdjooaaLearnN
set_option linter.unusedVariables false
set_option linter.unusedSimpArgs false
set_option maxRecDepth 100000
namespace Go.Proofs.Ytlbpllpomdjooaa.Learn
open Go Go.Proofs.Ytlbpllpomdjooaa.Vc Go.Proofs.Ytlbpllpomdjooaa.T Go.ChangeShapes Go.WideShapes Go.ChangeAt Go.RowKit
theorem learnNumbers_lifted (os : Os) (started : os.Started) (H : Type) (enc : TypeId × Value → H) :
    ReturnsInHanded {} Try.checked os 6 .any (Rows.learnNumbersSpec.pre6 enc Try.prog Try.f6 Rows.learnNumbersRow.domain false) (Rows.learnNumbersSpec.post enc Try.prog Try.f6 false true false false) := by
  refine row_true (C := Try.checked) (tb := 4) (by kernel_rfl) started (by kernel_rfl) Try.func6
    (ChangeSpec.witness6 (enc := enc) (C := Try.checked) false ⟨#[], #[], []⟩ 12 (by kernel_rfl) (by kernel_rfl) (by kernel_rfl) (by kernel_rfl))
    (by kernel_rfl) (by kernel_rfl) rfl (by kernel_rfl) Try.underlying4 ?_ ?_
  · intro ds hd
    match ds, hd with
    | [], _ => exact ⟨rfl, rfl, rfl⟩
  · intro W base args ds ps hval hA
    have hA' : DataW.TrodAll enc Try.prog W 0 (fun _ => true) true Try.f6.params.toList args.toList ds ps := hA
    rw [Try.params6] at hA' hval
    obtain ⟨hargs, rfl, rfl⟩ := trodAll_nil hA'
    obtain rfl : args = #[] := by cases args; simp_all
    exact law6 W
theorem learnNumbers_over : Rows.learnNumbersRow.holds Try.pinned (OpenSpec.ofChange Rows.learnNumbersSpec) :=
  OpenClaim.holds_of_wide 6 Try.f6 rfl rfl rfl rfl rfl rfl rfl ⟨rfl, rfl, rfl, rfl, rfl⟩ rfl rfl rfl rfl rfl (by kernel_rfl) Try.func6 (by kernel_rfl)
    (of_decide_eq_true (by kernel_rfl)) (by unfold Func.isWrapper; first | (rw [if_pos (by decide +kernel)]; kernel_rfl) | (rw [if_neg (by decide +kernel)]; exact ⟨rfl, rfl⟩))
    (fun os started H enc _ => learnNumbers_lifted os started H enc)
end Go.Proofs.Ytlbpllpomdjooaa.Learn
namespace Go.Proofs.Ytlbpllpomdjooaa
theorem learnNumbers_holds : Rows.LearnNumbersSaid := Learn.learnNumbers_over
end Go.Proofs.Ytlbpllpomdjooaa
