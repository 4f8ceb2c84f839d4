/- How numbers, calls and cases come in. -/
import Derived.Test.YtfifgopmegbifaaVcO
import Derived.Test.YtfifgopmegbifaaHeatR
set_option linter.unusedVariables false
set_option linter.unusedSimpArgs false
set_option maxRecDepth 100000
namespace Go.Proofs.Ytfifgopmegbifaa.Heat
open Go Go.Proofs.Ytfifgopmegbifaa.Vc Go.Proofs.Ytfifgopmegbifaa.T Go.ChangeShapes Go.WideShapes Go.ChangeAt Go.RowKit

theorem maxLen_eq : maxLen = 9223372036854775807 := by decide +kernel
theorem c3 : Try.prog.cellsOf 3 = 1 := by kernel_rfl
theorem c22 : Try.prog.cellsOf 22 = 1 := by kernel_rfl
theorem c36 : Try.prog.cellsOf 36 = 1 := by kernel_rfl
theorem c38 : Try.prog.cellsOf 38 = 3 := by kernel_rfl
theorem c56 : Try.prog.cellsOf 56 = 3 := by kernel_rfl
theorem wf_i64 {x : Int} (h : (Lit.int .i64 x).wf = true) : i64 x := by
  simp [Lit.wf, IntKind.min, IntKind.max, IntKind.signed, IntKind.bits] at h
  exact ⟨h.1, by omega⟩
theorem fits3 {w : World} {m : Nat} {cs : List Value} (h : Fits Try.prog w (m + 1) 3 cs) : ∃ n, cs = [I n] ∧ (Lit.int .i64 n).wf = true := by
  unfold Fits at h; rw [Try.underlying3] at h; exact h
theorem fits22 {w : World} {m : Nat} {cs : List Value} (h : Fits Try.prog w (m + 1) 22 cs) : ∃ n, cs = [F n] := by
  unfold Fits at h; rw [Try.underlying22] at h
  obtain ⟨n, e, _⟩ := h
  exact ⟨n, e⟩
theorem fits56 {w : World} {m : Nat} {cs : List Value} (h : Fits Try.prog w (m + 2) 56 cs) : ∃ on kd x, cs = [I on, I kd, I x] ∧ i64 on ∧ i64 kd ∧ i64 x := by
  unfold Fits at h; rw [Try.underlying56] at h
  obtain ⟨hl, h⟩ := h
  rw [c56] at hl
  match cs, hl with
  | [a0, a1, a2], _ =>
    obtain ⟨n0, e0, w0⟩ := fits3 (m := m) (cs := [a0]) (by simpa [c3] using h 0 _ rfl)
    obtain ⟨n1, e1, w1⟩ := fits3 (m := m) (cs := [a1]) (by simpa [c3] using h 1 _ rfl)
    obtain ⟨n2, e2, w2⟩ := fits3 (m := m) (cs := [a2]) (by simpa [c3] using h 2 _ rfl)
    simp only [List.cons.injEq, and_true] at e0 e1 e2
    subst e0 e1 e2
    exact ⟨_, _, _, rfl, wf_i64 w0, wf_i64 w1, wf_i64 w2⟩
theorem fits36 {w : World} {m : Nat} {cs : List Value} (h : Fits Try.prog w (m + 3) 36 cs) : ∃ p n c, cs = [.slice p n c] ∧ n ≤ 9223372036854775807 ∧ OpL w p n := by
  unfold Fits at h; rw [Try.underlying36] at h
  rcases h with rfl | ⟨a, len, cap, rfl, hl, hm, hx⟩
  · exact ⟨none, 0, 0, rfl, by omega, fun i hi => by omega⟩
  · rw [maxLen_eq] at hm
    refine ⟨some a, len, cap, rfl, by omega, fun i hi => ?_⟩
    obtain ⟨cs', h1, h2⟩ := hx i (by omega)
    obtain ⟨on, kd, x, rfl, r0, r1, r2⟩ := fits56 h2
    rw [c56] at h1
    obtain ⟨_, _, hc⟩ := World.cells?_some h1
    exact ⟨a, on, kd, x, rfl, hc 0 (by omega), hc 1 (by omega), hc 2 (by omega), r0, r1, r2⟩
theorem case_of {H : Type} {enc : TypeId × Value → H} {W : World} {base : Nat} {v : Value} {d : DataW H} {ps : List MemPlace}
    (hv : Value.okWide Try.prog W .any base 38 v) (h : DataW.Trod enc Try.prog W 0 (fun _ => true) true 38 v d ps) :
    ∃ v0 d sp n c, v = .agg #[I v0, F d, .slice sp n c] ∧ i64 v0 ∧ n ≤ 9223372036854775807 ∧ OpL W sp n := by
  obtain ⟨cs, rfl⟩ := agg_of_struct Try.underlying38 hv
  have hf := fits_of h 4
  unfold Fits at hf; rw [Try.underlying38] at hf
  obtain ⟨hl, hf⟩ := hf
  rw [c38] at hl
  have hcs : (Value.agg cs).cells.toList = cs.toList := rfl
  rw [hcs] at hl hf
  match hq : cs.toList, hl with
  | [a0, a1, a2], _ =>
    rw [hq] at hf
    obtain ⟨n0, e0, w0⟩ := fits3 (m := 2) (cs := [a0]) (by simpa [c3] using hf 0 _ rfl)
    obtain ⟨n1, e1⟩ := fits22 (m := 2) (cs := [a1]) (by simpa [c22] using hf 1 _ rfl)
    obtain ⟨p, n, c, e2, hn, hs⟩ := fits36 (m := 0) (cs := [a2]) (by simpa [c36] using hf 2 _ rfl)
    simp only [List.cons.injEq, and_true] at e0 e1 e2
    subst e0 e1 e2
    refine ⟨n0, n1, p, n, c, ?_, wf_i64 w0, hn, hs⟩
    have : cs = #[I n0, F n1, .slice p n c] := Array.toList_inj.1 hq
    rw [this]
end Go.Proofs.Ytfifgopmegbifaa.Heat
