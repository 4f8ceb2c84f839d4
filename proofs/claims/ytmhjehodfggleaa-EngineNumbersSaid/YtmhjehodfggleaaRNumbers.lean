/- depotlaw: EngineNumbers answers true for every input and turns nothing that was there. -/
import Derived.Test.YtmhjehodfggleaaMVcL
import Derived.Test.YtmhjehodfggleaaMNum
set_option linter.unusedVariables false
set_option linter.unusedSimpArgs false
set_option maxRecDepth 100000
namespace Go.Proofs.Ytmhjehodfggleaa.Eng
open Go Go.Proofs.Ytmhjehodfggleaa.Vc Go.Proofs.Ytmhjehodfggleaa.T Go.ChangeShapes Go.WideShapes Go.ChangeAt Go.RowKit
theorem engineNumbers_lifted (os : Os) (started : os.Started) (H : Type) (enc : TypeId × Value → H) :
    ReturnsInHanded {} Try.checked os 3 .any (Rows.engineNumbersSpec.pre6 enc Try.prog Try.f3 Rows.engineNumbersRow.domain false) (Rows.engineNumbersSpec.post enc Try.prog Try.f3 false true false false) := by
  refine row_true (C := Try.checked) (tb := 4) (by kernel_rfl) started (by kernel_rfl) Try.func3
    (ChangeSpec.witness6 (enc := enc) (C := Try.checked) false ⟨#[], #[], []⟩ 12 (by kernel_rfl) (by kernel_rfl) (by kernel_rfl) (by kernel_rfl))
    (by kernel_rfl) (by kernel_rfl) rfl (by kernel_rfl) Try.underlying4 ?_ ?_
  · intro ds hd
    match ds, hd with
    | [], _ => exact ⟨rfl, rfl, rfl⟩
  · intro W base args ds ps hval hA
    have hA' : DataW.TrodAll enc Try.prog W 0 (fun _ => true) true Try.f3.params.toList args.toList ds ps := hA
    rw [Try.params3] at hA' hval
    obtain ⟨hargs, rfl, rfl⟩ := trodAll_nil hA'
    obtain rfl : args = #[] := by cases args; simp_all
    exact law3 W
theorem engineNumbers_over : Rows.engineNumbersRow.holds Try.pinned (OpenSpec.ofChange Rows.engineNumbersSpec) :=
  OpenClaim.holds_of_wide 3 Try.f3 rfl rfl rfl rfl rfl rfl rfl ⟨rfl, rfl, rfl, rfl, rfl⟩ rfl rfl rfl rfl rfl (by kernel_rfl) Try.func3 (by kernel_rfl)
    (of_decide_eq_true (by kernel_rfl)) (by unfold Func.isWrapper; first | (rw [if_pos (by decide +kernel)]; kernel_rfl) | (rw [if_neg (by decide +kernel)]; exact ⟨rfl, rfl⟩))
    (fun os started H enc _ => engineNumbers_lifted os started H enc)
end Go.Proofs.Ytmhjehodfggleaa.Eng
namespace Go.Proofs.Ytmhjehodfggleaa
theorem engineNumbers_holds : Rows.EngineNumbersSaid := Eng.engineNumbers_over
end Go.Proofs.Ytmhjehodfggleaa
