/- depotlaw: PaceKeeps answers true for every input and turns nothing that was there. -/
import Derived.Test.YtkpoagdhekimpaaVcO
import Derived.Test.YtkpoagdhekimpaaKeeps
import Derived.Test.YtkpoagdhekimpaaOpenC
set_option linter.unusedVariables false
set_option linter.unusedSimpArgs false
set_option maxRecDepth 100000
namespace Go.Proofs.Ytkpoagdhekimpaa.Pace
open Go Go.Proofs.Ytkpoagdhekimpaa.Vc Go.Proofs.Ytkpoagdhekimpaa.T Go.ChangeShapes Go.WideShapes Go.ChangeAt Go.RowKit
theorem paceKeeps_lifted (os : Os) (started : os.Started) (H : Type) (enc : TypeId × Value → H) :
    ReturnsInHanded {} Try.checked os 12 .any (Rows.paceKeepsSpec.pre6 enc Try.prog Try.f12 Rows.paceKeepsRow.domain false) (Rows.paceKeepsSpec.post enc Try.prog Try.f12 false true false false) := by
  refine row_true (C := Try.checked) (tb := 4) (by kernel_rfl) started (by kernel_rfl) Try.func12
    (ChangeSpec.witness6 (enc := enc) (C := Try.checked) false ⟨#[], #[.agg #[.int .i64 0, .int .i64 0, .int .i64 0, .float .f64 0, .int .i64 0, .int .i64 0], .agg #[.int .i64 0, .int .i64 0, .int .i64 0, .float .f64 0, .int .i64 0, .int .i64 0], .int .i64 0], []⟩ 12 (by kernel_rfl) (by kernel_rfl) (by kernel_rfl) (by kernel_rfl))
    (by kernel_rfl) (by kernel_rfl) rfl (by kernel_rfl) Try.underlying4 ?_ ?_
  · intro ds hd
    match ds, hd with
    | [d0, d1, d2], _ => exact ⟨rfl, rfl, rfl⟩
  · intro W base args ds ps hval hA
    have hA' : DataW.TrodAll enc Try.prog W 0 (fun _ => true) true Try.f12.params.toList args.toList ds ps := hA
    rw [Try.params12] at hA' hval
    obtain ⟨v0, vs0, d0, ds0, p0, q0, hargs, rfl, rfl, h0, r0⟩ := trodAll_cons hA'
    obtain ⟨v1, vs1, d1, ds1, p1, q1, rfl, rfl, rfl, h1, r1⟩ := trodAll_cons r0
    obtain ⟨v2, vs2, d2, ds2, p2, q2, rfl, rfl, rfl, h2, r2⟩ := trodAll_cons r1
    obtain ⟨rfl, rfl, rfl⟩ := trodAll_nil r2
    obtain rfl : args = #[v0, v1, v2] := by cases args; simp_all
    have hv0 := hval 0 24 v0 rfl rfl
    have hv1 := hval 1 24 v1 rfl rfl
    have hv2 := hval 2 3 v2 rfl rfl
    obtain ⟨b0, f0, g0, x0, p0', q0', rfl, _⟩ := cfg_of hv0 h0
    obtain ⟨b1, f1, g1, x1, p1', q1', rfl, _⟩ := cfg_of hv1 h1
    obtain ⟨a2, rfl, rfl, rfl, w2⟩ := open_int Try.underlying3 hv2 h2
    exact law12 b0 f0 g0 x0 p0' q0' b1 f1 g1 x1 p1' q1' a2 W
theorem paceKeeps_over : Rows.paceKeepsRow.holds Try.pinned (OpenSpec.ofChange Rows.paceKeepsSpec) :=
  OpenClaim.holds_of_wide 12 Try.f12 rfl rfl rfl rfl rfl rfl rfl ⟨rfl, rfl, rfl, rfl, rfl⟩ rfl rfl rfl rfl rfl (by kernel_rfl) Try.func12 (by kernel_rfl)
    (of_decide_eq_true (by kernel_rfl)) (by unfold Func.isWrapper; first | (rw [if_pos (by decide +kernel)]; kernel_rfl) | (rw [if_neg (by decide +kernel)]; exact ⟨rfl, rfl⟩))
    (fun os started H enc _ => paceKeeps_lifted os started H enc)
end Go.Proofs.Ytkpoagdhekimpaa.Pace
namespace Go.Proofs.Ytkpoagdhekimpaa
theorem paceKeeps_holds : Rows.PaceKeepsSaid := Pace.paceKeeps_over
end Go.Proofs.Ytkpoagdhekimpaa
