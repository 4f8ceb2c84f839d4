/- depotlaw: HeatScript answers true for every input and turns nothing that was there. -/
import Derived.Test.YtfifgopmegbifaaVcO
import Derived.Test.YtfifgopmegbifaaOpenV
import Derived.Test.YtfifgopmegbifaaHeatV
set_option linter.unusedVariables false
set_option linter.unusedSimpArgs false
set_option maxRecDepth 100000
namespace Go.Proofs.Ytfifgopmegbifaa.Heat
open Go Go.Proofs.Ytfifgopmegbifaa.Vc Go.Proofs.Ytfifgopmegbifaa.T Go.ChangeShapes Go.WideShapes Go.ChangeAt Go.RowKit
theorem heatScript_lifted (os : Os) (started : os.Started) (H : Type) (enc : TypeId × Value → H) :
    ReturnsInHanded {} Try.checked os 7 .any (Rows.heatScriptSpec.pre6 enc Try.prog Try.f7 Rows.heatScriptRow.domain false) (Rows.heatScriptSpec.post enc Try.prog Try.f7 false true false false) := by
  refine row_true (C := Try.checked) (tb := 4) (by kernel_rfl) started (by kernel_rfl) Try.func7
    (ChangeSpec.witness6 (enc := enc) (C := Try.checked) false ⟨#[], #[.agg #[.int .i64 0, .int .i64 0, .float .f64 0, .float .f64 0, .slice none 0 0]], []⟩ 12 (by kernel_rfl) (by kernel_rfl) (by kernel_rfl) (by kernel_rfl))
    (by kernel_rfl) (by kernel_rfl) rfl (by kernel_rfl) Try.underlying4 ?_ ?_
  · intro ds hd
    match ds, hd with
    | [d0], _ => exact ⟨rfl, rfl, rfl⟩
  · intro W base args ds ps hval hA
    have hA' : DataW.TrodAll enc Try.prog W 0 (fun _ => true) true Try.f7.params.toList args.toList ds ps := hA
    rw [Try.params7] at hA' hval
    obtain ⟨v0, vs0, d0, ds0, p0, q0, hargs, rfl, rfl, h0, r0⟩ := trodAll_cons hA'
    obtain ⟨rfl, rfl, rfl⟩ := trodAll_nil r0
    obtain rfl : args = #[v0] := by cases args; simp_all
    have hv0 := hval 0 49 v0 rfl rfl
    obtain ⟨v0, v1, x0, x1, sp, n, c, rfl, r0, r1, hn, hS⟩ := script_of hv0 h0
    exact law7 v0 v1 x0 x1 sp n c W r0 r1 hn hS
theorem heatScript_over : Rows.heatScriptRow.holds Try.pinned (OpenSpec.ofChange Rows.heatScriptSpec) :=
  OpenClaim.holds_of_wide 7 Try.f7 rfl rfl rfl rfl rfl rfl rfl ⟨rfl, rfl, rfl, rfl, rfl⟩ rfl rfl rfl rfl rfl (by kernel_rfl) Try.func7 (by kernel_rfl)
    (of_decide_eq_true (by kernel_rfl)) (by unfold Func.isWrapper; first | (rw [if_pos (by decide +kernel)]; kernel_rfl) | (rw [if_neg (by decide +kernel)]; exact ⟨rfl, rfl⟩))
    (fun os started H enc _ => heatScript_lifted os started H enc)
end Go.Proofs.Ytfifgopmegbifaa.Heat
namespace Go.Proofs.Ytfifgopmegbifaa
theorem heatScript_holds : Rows.HeatScriptSaid := Heat.heatScript_over
end Go.Proofs.Ytfifgopmegbifaa
