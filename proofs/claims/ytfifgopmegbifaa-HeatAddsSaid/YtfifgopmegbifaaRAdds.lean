/- depotlaw: HeatAdds answers true for every input and turns nothing that was there. -/
import Derived.Test.YtfifgopmegbifaaVcO
import Derived.Test.YtfifgopmegbifaaOpenA
import Derived.Test.YtfifgopmegbifaaHeatD
set_option linter.unusedVariables false
set_option linter.unusedSimpArgs false
set_option maxRecDepth 100000
namespace Go.Proofs.Ytfifgopmegbifaa.Heat
open Go Go.Proofs.Ytfifgopmegbifaa.Vc Go.Proofs.Ytfifgopmegbifaa.T Go.ChangeShapes Go.WideShapes Go.ChangeAt Go.RowKit
theorem heatAdds_lifted (os : Os) (started : os.Started) (H : Type) (enc : TypeId × Value → H) :
    ReturnsInHanded {} Try.checked os 5 .any (Rows.heatAddsSpec.pre6 enc Try.prog Try.f5 Rows.heatAddsRow.domain false) (Rows.heatAddsSpec.post enc Try.prog Try.f5 false true false false) := by
  refine row_true (C := Try.checked) (tb := 4) (by kernel_rfl) started (by kernel_rfl) Try.func5
    (ChangeSpec.witness6 (enc := enc) (C := Try.checked) false ⟨#[], #[.slice none 0 0], []⟩ 12 (by kernel_rfl) (by kernel_rfl) (by kernel_rfl) (by kernel_rfl))
    (by kernel_rfl) (by kernel_rfl) rfl (by kernel_rfl) Try.underlying4 ?_ ?_
  · intro ds hd
    match ds, hd with
    | [d0], _ => exact ⟨rfl, rfl, rfl⟩
  · intro W base args ds ps hval hA
    have hA' : DataW.TrodAll enc Try.prog W 0 (fun _ => true) true Try.f5.params.toList args.toList ds ps := hA
    rw [Try.params5] at hA' hval
    obtain ⟨v0, vs0, d0, ds0, p0, q0, hargs, rfl, rfl, h0, r0⟩ := trodAll_cons hA'
    obtain ⟨rfl, rfl, rfl⟩ := trodAll_nil r0
    obtain rfl : args = #[v0] := by cases args; simp_all
    have hv0 := hval 0 33 v0 rfl rfl
    obtain ⟨p, m, c, cs, rfl, hm, hR, hcs⟩ := ints_of hv0 h0
    exact law5 p m c cs W hm hR hcs
theorem heatAdds_over : Rows.heatAddsRow.holds Try.pinned (OpenSpec.ofChange Rows.heatAddsSpec) :=
  OpenClaim.holds_of_wide 5 Try.f5 rfl rfl rfl rfl rfl rfl rfl ⟨rfl, rfl, rfl, rfl, rfl⟩ rfl rfl rfl rfl rfl (by kernel_rfl) Try.func5 (by kernel_rfl)
    (of_decide_eq_true (by kernel_rfl)) (by unfold Func.isWrapper; first | (rw [if_pos (by decide +kernel)]; kernel_rfl) | (rw [if_neg (by decide +kernel)]; exact ⟨rfl, rfl⟩))
    (fun os started H enc _ => heatAdds_lifted os started H enc)
end Go.Proofs.Ytfifgopmegbifaa.Heat
namespace Go.Proofs.Ytfifgopmegbifaa
theorem heatAdds_holds : Rows.HeatAddsSaid := Heat.heatAdds_over
end Go.Proofs.Ytfifgopmegbifaa
