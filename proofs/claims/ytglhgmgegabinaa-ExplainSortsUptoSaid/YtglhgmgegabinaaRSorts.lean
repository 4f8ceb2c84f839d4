/- depotlaw: ExplainSorts answers true for every input of bulk at most 1048576 and turns nothing that was there. -/
import Derived.Test.YtglhgmgegabinaaVcO
import Derived.Test.YtglhgmgegabinaaExO
import Derived.Test.YtglhgmgegabinaaExE
set_option linter.unusedVariables false
set_option linter.unusedSimpArgs false
set_option maxRecDepth 100000
namespace Go.Proofs.Ytglhgmgegabinaa.Ex
open Go Go.Proofs.Ytglhgmgegabinaa.Vc Go.Proofs.Ytglhgmgegabinaa.T Go.ChangeShapes Go.WideShapes Go.ChangeAt Go.RowKit
theorem explainSorts_lifted (os : Os) (started : os.Started) (H : Type) (enc : TypeId × Value → H) (F : Stop.Interp) :
    ReturnsInHanded {} Try.checked os 4 .any ((Rows.OpenSpec.upto Rows.explainSortsSpec).pre6 enc Try.prog Try.f4 Rows.explainSortsUptoRow.domain false) (((Rows.OpenSpec.upto Rows.explainSortsSpec).at F).post enc Try.prog Try.f4 false true false false) := by
  refine row_upto (C := Try.checked) (tb := 4) (by kernel_rfl) started (by kernel_rfl) Try.func4
    (OpenSpec.witness (enc := enc) (C := Try.checked) (s := Rows.OpenSpec.upto Rows.explainSortsSpec) (k := Rows.uptoSmall) rfl false ⟨#[], #[.agg #[.int .i64 0, .int .i64 0, .slice none 0 0], .slice none 0 0], []⟩ 12 (by kernel_rfl) (by kernel_rfl) (by kernel_rfl)
      (x := ([.agg [.lit (.int .i64 0), .lit (.int .i64 0), .nil], .nil], [], [])) (by kernel_rfl) (by kernel_rfl) (by first | kernel_rfl | simp [Rows.uptoSmall, Rows.uptoBulkAll, Rows.uptoBulk]))
    (by kernel_rfl) (by kernel_rfl) rfl (by kernel_rfl) Try.underlying4 ?_ ?_
  · intro ds hd
    match ds, hd with
    | [d0, d1], _ => exact ⟨rfl, rfl, rfl⟩
  · intro W base args ds ps hval hA hB
    have hA' : DataW.TrodAll enc Try.prog W 0 (fun _ => true) true Try.f4.params.toList args.toList ds ps := hA
    rw [Try.params4] at hA' hval
    obtain ⟨v0, vs0, d0, ds0, p0, q0, hargs, rfl, rfl, h0, r0⟩ := trodAll_cons hA'
    obtain ⟨v1, vs1, d1, ds1, p1, q1, rfl, rfl, rfl, h1, r1⟩ := trodAll_cons r0
    obtain ⟨rfl, rfl, rfl⟩ := trodAll_nil r1
    obtain rfl : args = #[v0, v1] := by cases args; simp_all
    have hv0 := hval 0 24 v0 rfl rfl
    have hb0 : Rows.uptoBulk d0 ≤ 1048576 := Nat.le_trans (bulk_mem (by simp)) hB
    have hv1 := hval 1 25 v1 rfl rfl
    have hb1 : Rows.uptoBulk d1 ≤ 1048576 := Nat.le_trans (bulk_mem (by simp)) hB
    obtain ⟨a, b, tp, tn, tc, os, rfl, htn, hF⟩ := table_of hv0 h0 hb0
    obtain ⟨q, m, d, cs, rfl, hm, hC⟩ := ints_of hv1 h1 hb1
    exact law4 a b hF htn hC hm
theorem explainSorts_over : Rows.explainSortsUptoRow.holds Try.pinned (Rows.OpenSpec.upto Rows.explainSortsSpec) :=
  OpenClaim.holds_of_cond 4 Try.f4 rfl rfl rfl rfl rfl rfl rfl ⟨rfl, rfl, rfl, rfl, rfl⟩ rfl rfl rfl rfl rfl (by kernel_rfl) Try.func4 (by kernel_rfl)
    (of_decide_eq_true (by kernel_rfl)) (by unfold Func.isWrapper; first | (rw [if_pos (by decide +kernel)]; kernel_rfl) | (rw [if_neg (by decide +kernel)]; exact ⟨rfl, rfl⟩))
    (fun os started H enc _ F => explainSorts_lifted os started H enc F)
end Go.Proofs.Ytglhgmgegabinaa.Ex
namespace Go.Proofs.Ytglhgmgegabinaa
theorem explainSorts_holds : Rows.ExplainSortsUptoSaid := Ex.explainSorts_over
end Go.Proofs.Ytglhgmgegabinaa
