/- depotlaw: WatchRoads answers true for every input and turns nothing that was there. -/
import Derived.Test.YtjpblaenebodlaaMVcL
import Derived.Test.YtjpblaenebodlaaMWRoad2
set_option linter.unusedVariables false
set_option linter.unusedSimpArgs false
set_option maxRecDepth 100000
namespace Go.Proofs.Ytjpblaenebodlaa.Wt
open Go Go.Proofs.Ytjpblaenebodlaa.Vc Go.Proofs.Ytjpblaenebodlaa.T Go.ChangeShapes Go.WideShapes Go.ChangeAt Go.RowKit
theorem watchRoads_lifted (os : Os) (started : os.Started) (H : Type) (enc : TypeId × Value → H) :
    ReturnsInHanded {} Try.checked os 4 .any (Rows.watchRoadsSpec.pre6 enc Try.prog Try.f4 Rows.watchRoadsRow.domain false) (Rows.watchRoadsSpec.post enc Try.prog Try.f4 false true false false) := by
  refine row_sized (C := Try.checked) (tb := 4) (by kernel_rfl) started (by kernel_rfl) Try.func4
    (ChangeSpec.witness6 (enc := enc) (C := Try.checked) false ⟨#[], #[.agg #[.int .i64 0, .slice none 0 0], .slice none 0 0, .int .i64 0], []⟩ 12 (by kernel_rfl) (by kernel_rfl) (by kernel_rfl) (by kernel_rfl))
    (by kernel_rfl) (by kernel_rfl) rfl (by kernel_rfl) Try.underlying4 ?_ ?_
  · intro ds hd
    match ds, hd with
    | [d0, d1, d2], _ => exact ⟨rfl, rfl, rfl⟩
  · intro W base args ds ps hval hA hZ
    have hZ' : (DataW.weightsEach Try.prog Try.f4.params.toList ds).all (· ≤ reachBytes) = true := hZ
    have hA' : DataW.TrodAll enc Try.prog W 0 (fun _ => true) true Try.f4.params.toList args.toList ds ps := hA
    rw [Try.params4] at hA' hval hZ'
    obtain ⟨v0, vs0, d0, ds0, p0, q0, hargs, rfl, rfl, h0, r0⟩ := trodAll_cons hA'
    obtain ⟨v1, vs1, d1, ds1, p1, q1, rfl, rfl, rfl, h1, r1⟩ := trodAll_cons r0
    obtain ⟨v2, vs2, d2, ds2, p2, q2, rfl, rfl, rfl, h2, r2⟩ := trodAll_cons r1
    obtain ⟨rfl, rfl, rfl⟩ := trodAll_nil r2
    obtain rfl : args = #[v0, v1, v2] := by cases args; simp_all
    have hv0 := hval 0 28 v0 rfl rfl
    have hv1 := hval 1 29 v1 rfl rfl
    have hv2 := hval 2 3 v2 rfl rfl
    have hz0 : (d0.weights Try.prog 28).all (· ≤ reachBytes) = true := weights_each (i := 0) rfl rfl hZ'
    have hz1 : (d1.weights Try.prog 29).all (· ≤ reachBytes) = true := weights_each (i := 1) rfl rfl hZ'
    have hz2 : (d2.weights Try.prog 3).all (· ≤ reachBytes) = true := weights_each (i := 2) rfl rfl hZ'
    obtain ⟨nv0, p0_, n0, c0, css0, rfl, hi0, hC0⟩ := formula_of hv0 h0 hz0
    obtain ⟨fp, fn, fc, fs, rfl, hfc, hfcl, hF, hfb, _⟩ := ints_of hv1 h1 hz1
    obtain ⟨a2, rfl, rfl, rfl, w2⟩ := open_int Try.underlying3 hv2 h2
    exact law4 hC0 hF (by omega) hfb a2
theorem watchRoads_over : Rows.watchRoadsRow.holds Try.pinned (OpenSpec.ofChange Rows.watchRoadsSpec) :=
  OpenClaim.holds_of_wide 4 Try.f4 rfl rfl rfl rfl rfl rfl rfl ⟨rfl, rfl, rfl, rfl, rfl⟩ rfl rfl rfl rfl rfl (by kernel_rfl) Try.func4 (by kernel_rfl)
    (of_decide_eq_true (by kernel_rfl)) (by unfold Func.isWrapper; first | (rw [if_pos (by decide +kernel)]; kernel_rfl) | (rw [if_neg (by decide +kernel)]; exact ⟨rfl, rfl⟩))
    (fun os started H enc _ => watchRoads_lifted os started H enc)
end Go.Proofs.Ytjpblaenebodlaa.Wt
namespace Go.Proofs.Ytjpblaenebodlaa
theorem watchRoads_holds : Rows.WatchRoadsSaid := Wt.watchRoads_over
end Go.Proofs.Ytjpblaenebodlaa
