/- How a script comes in. -/
import Derived.Test.YtfifgopmegbifaaOpenH
set_option linter.unusedVariables false
set_option linter.unusedSimpArgs false
set_option maxRecDepth 100000
namespace Go.Proofs.Ytfifgopmegbifaa.Heat
open Go Go.Proofs.Ytfifgopmegbifaa.Vc Go.Proofs.Ytfifgopmegbifaa.T Go.ChangeShapes Go.WideShapes Go.ChangeAt Go.RowKit
theorem c46 : Try.prog.cellsOf 46 = 2 := by kernel_rfl
theorem c47 : Try.prog.cellsOf 47 = 2 := by kernel_rfl
theorem c49 : Try.prog.cellsOf 49 = 5 := by kernel_rfl
theorem script_of {H : Type} {enc : TypeId × Value → H} {W : World} {base : Nat} {v : Value} {d : DataW H} {ps : List MemPlace}
    (hv : Value.okWide Try.prog W .any base 49 v) (h : DataW.Trod enc Try.prog W 0 (fun _ => true) true 49 v d ps) :
    ∃ v0 v1 d0 d1 sp n c, v = .agg #[I v0, I v1, F d0, F d1, .slice sp n c] ∧ i64 v0 ∧ i64 v1 ∧ n ≤ 9223372036854775807 ∧ OpL W sp n := by
  obtain ⟨cs, rfl⟩ := agg_of_struct Try.underlying49 hv
  have hf := fits_of h 4
  unfold Fits at hf; rw [Try.underlying49] at hf
  obtain ⟨hl, hf⟩ := hf
  rw [c49] at hl
  have hcs : (Value.agg cs).cells.toList = cs.toList := rfl
  rw [hcs] at hl hf
  match hq : cs.toList, hl with
  | [a0, a1, a2, a3, a4], _ =>
    rw [hq] at hf
    have h0 : Fits Try.prog W 3 46 [a0, a1] := by simpa [c46, c47, c36] using hf 0 _ rfl
    have h1 : Fits Try.prog W 3 47 [a2, a3] := by simpa [c46, c47, c36] using hf 1 _ rfl
    obtain ⟨p, n, c, e4, hn, hs⟩ := fits36 (m := 0) (cs := [a4]) (by simpa [c46, c47, c36] using hf 2 _ rfl)
    unfold Fits at h0; rw [Try.underlying46] at h0
    obtain ⟨_, h0⟩ := h0
    unfold Fits at h1; rw [Try.underlying47] at h1
    obtain ⟨_, h1⟩ := h1
    obtain ⟨n0, e0, w0⟩ := fits3 (m := 1) (cs := [a0]) (by simpa [c3] using h0 0 (by omega))
    obtain ⟨n1, e1, w1⟩ := fits3 (m := 1) (cs := [a1]) (by simpa [c3] using h0 1 (by omega))
    obtain ⟨x0, e2⟩ := fits22 (m := 1) (cs := [a2]) (by simpa [c22] using h1 0 (by omega))
    obtain ⟨x1, e3⟩ := fits22 (m := 1) (cs := [a3]) (by simpa [c22] using h1 1 (by omega))
    simp only [List.cons.injEq, and_true] at e0 e1 e2 e3 e4
    subst e0 e1 e2 e3 e4
    refine ⟨n0, n1, x0, x1, p, n, c, ?_, wf_i64 w0, wf_i64 w1, hn, hs⟩
    have : cs = #[I n0, I n1, F x0, F x1, .slice p n c] := Array.toList_inj.1 hq
    rw [this]
end Go.Proofs.Ytfifgopmegbifaa.Heat
