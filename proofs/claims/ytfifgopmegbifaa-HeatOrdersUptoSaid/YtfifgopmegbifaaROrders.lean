/- depotlaw: HeatOrders answers true for every input of bulk at most 1048576 and turns nothing that was there. -/
import Derived.Test.YtfifgopmegbifaaVcO
import Derived.Test.YtfifgopmegbifaaOpenHK
import Derived.Test.YtfifgopmegbifaaHeatP
set_option linter.unusedVariables false
set_option linter.unusedSimpArgs false
set_option maxRecDepth 100000
namespace Go.Proofs.Ytfifgopmegbifaa.Heat
open Go Go.Proofs.Ytfifgopmegbifaa.Vc Go.Proofs.Ytfifgopmegbifaa.T Go.ChangeShapes Go.WideShapes Go.ChangeAt Go.RowKit
theorem heatOrders_lifted (os : Os) (started : os.Started) (H : Type) (enc : TypeId × Value → H) (F : Stop.Interp) :
    ReturnsInHanded {} Try.checked os 8 .any ((Rows.OpenSpec.upto Rows.heatOrdersSpec).pre6 enc Try.prog Try.f8 Rows.heatOrdersUptoRow.domain false) (((Rows.OpenSpec.upto Rows.heatOrdersSpec).at F).post enc Try.prog Try.f8 false true false false) := by
  refine row_upto (C := Try.checked) (tb := 4) (by kernel_rfl) started (by kernel_rfl) Try.func8
    (OpenSpec.witness (enc := enc) (C := Try.checked) (s := Rows.OpenSpec.upto Rows.heatOrdersSpec) (k := Rows.uptoSmall) rfl false ⟨#[], #[.agg #[.int .i64 0, .float .f64 0, .slice none 0 0]], []⟩ 12 (by kernel_rfl) (by kernel_rfl) (by kernel_rfl)
      (x := ([.agg [.lit (.int .i64 0), .lit (.float .f64 0), .nil]], [], [])) (by kernel_rfl) (by kernel_rfl) (by first | kernel_rfl | simp [Rows.uptoSmall, Rows.uptoBulkAll, Rows.uptoBulk]))
    (by kernel_rfl) (by kernel_rfl) rfl (by kernel_rfl) Try.underlying4 ?_ ?_
  · intro ds hd
    match ds, hd with
    | [d0], _ => exact ⟨rfl, rfl, rfl⟩
  · intro W base args ds ps hval hA hB
    have hA' : DataW.TrodAll enc Try.prog W 0 (fun _ => true) true Try.f8.params.toList args.toList ds ps := hA
    rw [Try.params8] at hA' hval
    obtain ⟨v0, vs0, d0, ds0, p0, q0, hargs, rfl, rfl, h0, r0⟩ := trodAll_cons hA'
    obtain ⟨rfl, rfl, rfl⟩ := trodAll_nil r0
    obtain rfl : args = #[v0] := by cases args; simp_all
    have hv0 := hval 0 38 v0 rfl rfl
    have hb0 : Rows.uptoBulk d0 ≤ 1048576 := Nat.le_trans (bulk_mem (by simp)) hB
    obtain ⟨v0, dd, sp, n, c, rfl, r0, hn, hS⟩ := case_of hv0 h0
    exact law8 v0 dd sp n c W r0 (case_upto h0 hb0) hS
theorem heatOrders_over : Rows.heatOrdersUptoRow.holds Try.pinned (Rows.OpenSpec.upto Rows.heatOrdersSpec) :=
  OpenClaim.holds_of_cond 8 Try.f8 rfl rfl rfl rfl rfl rfl rfl ⟨rfl, rfl, rfl, rfl, rfl⟩ rfl rfl rfl rfl rfl (by kernel_rfl) Try.func8 (by kernel_rfl)
    (of_decide_eq_true (by kernel_rfl)) (by unfold Func.isWrapper; first | (rw [if_pos (by decide +kernel)]; kernel_rfl) | (rw [if_neg (by decide +kernel)]; exact ⟨rfl, rfl⟩))
    (fun os started H enc _ F => heatOrders_lifted os started H enc F)
end Go.Proofs.Ytfifgopmegbifaa.Heat
namespace Go.Proofs.Ytfifgopmegbifaa
theorem heatOrders_holds : Rows.HeatOrdersUptoSaid := Heat.heatOrders_over
end Go.Proofs.Ytfifgopmegbifaa
