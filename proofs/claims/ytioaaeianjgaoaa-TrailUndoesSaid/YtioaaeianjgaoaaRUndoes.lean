/- depotlaw: TrailUndoes answers true for every input and turns nothing that was there. -/
import Derived.Test.YtioaaeianjgaoaaVcO
import Derived.Test.YtioaaeianjgaoaaOpen3
set_option linter.unusedVariables false
set_option linter.unusedSimpArgs false
set_option maxRecDepth 100000
namespace Go.Proofs.Ytioaaeianjgaoaa.Trail
open Go Go.Proofs.Ytioaaeianjgaoaa.Vc Go.Proofs.Ytioaaeianjgaoaa.T Go.ChangeShapes Go.WideShapes Go.ChangeAt Go.RowKit
theorem trailUndoes_lifted (os : Os) (started : os.Started) (H : Type) (enc : TypeId × Value → H) :
    ReturnsInHanded {} Try.checked os 4 .any (Rows.trailUndoesSpec.pre6 enc Try.prog Try.f4 Rows.trailUndoesRow.domain false) (Rows.trailUndoesSpec.post enc Try.prog Try.f4 false true false false) := by
  refine row_true (C := Try.checked) (tb := 4) (by kernel_rfl) started (by kernel_rfl) Try.func4
    (ChangeSpec.witness6 (enc := enc) (C := Try.checked) false ⟨#[], #[.agg #[.int .i64 0, .slice none 0 0, .int .i64 0, .slice none 0 0]], []⟩ 12 (by kernel_rfl) (by kernel_rfl) (by kernel_rfl) (by kernel_rfl))
    (by kernel_rfl) (by kernel_rfl) rfl (by kernel_rfl) Try.underlying4 ?_ ?_
  · intro ds hd
    match ds, hd with
    | [d0], _ => exact ⟨rfl, rfl, rfl⟩
  · intro W base args ds ps hval hA
    have hA' : DataW.TrodAll enc Try.prog W 0 (fun _ => true) true Try.f4.params.toList args.toList ds ps := hA
    rw [Try.params4] at hA' hval
    obtain ⟨v0, vs0, d0, ds0, p0, q0, hargs, rfl, rfl, h0, r0⟩ := trodAll_cons hA'
    obtain ⟨rfl, rfl, rfl⟩ := trodAll_nil r0
    obtain rfl : args = #[v0] := by cases args; simp_all
    have hv0 := hval 0 37 v0 rfl rfl
    obtain ⟨v0, ap, am, ac, dd, bp, bm, bc, A, B, rfl, r0, r1, hA, hB⟩ := undone_of hv0 h0
    exact law4 v0 dd ap am ac bp bm bc A B W r0 r1 hA hB
theorem trailUndoes_over : Rows.trailUndoesRow.holds Try.pinned (OpenSpec.ofChange Rows.trailUndoesSpec) :=
  OpenClaim.holds_of_wide 4 Try.f4 rfl rfl rfl rfl rfl rfl rfl ⟨rfl, rfl, rfl, rfl, rfl⟩ rfl rfl rfl rfl rfl (by kernel_rfl) Try.func4 (by kernel_rfl)
    (of_decide_eq_true (by kernel_rfl)) (by unfold Func.isWrapper; first | (rw [if_pos (by decide +kernel)]; kernel_rfl) | (rw [if_neg (by decide +kernel)]; exact ⟨rfl, rfl⟩))
    (fun os started H enc _ => trailUndoes_lifted os started H enc)
end Go.Proofs.Ytioaaeianjgaoaa.Trail
namespace Go.Proofs.Ytioaaeianjgaoaa
theorem trailUndoes_holds : Rows.TrailUndoesSaid := Trail.trailUndoes_over
end Go.Proofs.Ytioaaeianjgaoaa
