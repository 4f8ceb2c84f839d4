/- depotlaw: WatchPlays answers true for every input and turns nothing that was there. -/
import Derived.Test.YtjpblaenebodlaaMVcL
import Derived.Test.YtjpblaenebodlaaMWDh
set_option linter.unusedVariables false
set_option linter.unusedSimpArgs false
set_option maxRecDepth 100000
namespace Go.Proofs.Ytjpblaenebodlaa.Wt
open Go Go.Proofs.Ytjpblaenebodlaa.Vc Go.Proofs.Ytjpblaenebodlaa.T Go.ChangeShapes Go.WideShapes Go.ChangeAt Go.RowKit
theorem watchPlays_lifted (os : Os) (started : os.Started) (H : Type) (enc : TypeId × Value → H) :
    ReturnsInHanded {} Try.checked os 5 .any (Rows.watchPlaysSpec.pre6 enc Try.prog Try.f5 Rows.watchPlaysRow.domain false) (Rows.watchPlaysSpec.post enc Try.prog Try.f5 false true false false) := by
  refine row_sized (C := Try.checked) (tb := 4) (by kernel_rfl) started (by kernel_rfl) Try.func5
    (ChangeSpec.witness6 (enc := enc) (C := Try.checked) false ⟨#[], #[.agg #[.int .i64 0, .slice none 0 0, .int .i64 0, .slice none 0 0, .slice none 0 0]], []⟩ 12 (by kernel_rfl) (by kernel_rfl) (by kernel_rfl) (by kernel_rfl))
    (by kernel_rfl) (by kernel_rfl) rfl (by kernel_rfl) Try.underlying4 ?_ ?_
  · intro ds hd
    match ds, hd with
    | [d0], _ => exact ⟨rfl, rfl, rfl⟩
  · intro W base args ds ps hval hA hZ
    have hZ' : (DataW.weightsEach Try.prog Try.f5.params.toList ds).all (· ≤ reachBytes) = true := hZ
    have hA' : DataW.TrodAll enc Try.prog W 0 (fun _ => true) true Try.f5.params.toList args.toList ds ps := hA
    rw [Try.params5] at hA' hval hZ'
    obtain ⟨v0, vs0, d0, ds0, p0, q0, hargs, rfl, rfl, h0, r0⟩ := trodAll_cons hA'
    obtain ⟨rfl, rfl, rfl⟩ := trodAll_nil r0
    obtain rfl : args = #[v0] := by cases args; simp_all
    have hv0 := hval 0 43 v0 rfl rfl
    have hz0 : (d0.weights Try.prog 43).all (· ≤ reachBytes) = true := weights_each (i := 0) rfl rfl hZ'
    obtain ⟨nv, p, n, c, css, nv', p', n', c', css', sp, sn, sc, xs, rfl, _, hC, _, hC', hS⟩ := script_of hv0 h0 hz0
    exact law5 hC hC' hS
theorem watchPlays_over : Rows.watchPlaysRow.holds Try.pinned (OpenSpec.ofChange Rows.watchPlaysSpec) :=
  OpenClaim.holds_of_wide 5 Try.f5 rfl rfl rfl rfl rfl rfl rfl ⟨rfl, rfl, rfl, rfl, rfl⟩ rfl rfl rfl rfl rfl (by kernel_rfl) Try.func5 (by kernel_rfl)
    (of_decide_eq_true (by kernel_rfl)) (by unfold Func.isWrapper; first | (rw [if_pos (by decide +kernel)]; kernel_rfl) | (rw [if_neg (by decide +kernel)]; exact ⟨rfl, rfl⟩))
    (fun os started H enc _ => watchPlays_lifted os started H enc)
end Go.Proofs.Ytjpblaenebodlaa.Wt
namespace Go.Proofs.Ytjpblaenebodlaa
theorem watchPlays_holds : Rows.WatchPlaysSaid := Wt.watchPlays_over
end Go.Proofs.Ytjpblaenebodlaa
