/- A record of two scripts, as data. -/
import Derived.Test.YtioaaeianjgaoaaOpen2
import Derived.Test.YtioaaeianjgaoaaUndo2
set_option linter.unusedVariables false
set_option linter.unusedSimpArgs false
set_option maxRecDepth 100000
namespace Go.Proofs.Ytioaaeianjgaoaa.Trail
open Go Go.Proofs.Ytioaaeianjgaoaa.Vc Go.Proofs.Ytioaaeianjgaoaa.T Go.ChangeShapes Go.WideShapes Go.ChangeAt Go.RowKit

theorem c37 : Try.prog.cellsOf 37 = 4 := by kernel_rfl
theorem undone_of {H : Type} {enc : TypeId × Value → H} {W : World} {base : Nat} {v : Value} {d : DataW H} {ps : List MemPlace}
    (hv : Value.okWide Try.prog W .any base 37 v) (h : DataW.Trod enc Try.prog W 0 (fun _ => true) true 37 v d ps) :
    ∃ v0 ap am ac dd bp bm bc A B, v = .agg #[I v0, .slice ap am ac, I dd, .slice bp bm bc] ∧ i64 v0 ∧ i64 dd ∧ OpD W ap am A ∧ OpD W bp bm B := by
  obtain ⟨cs, rfl⟩ := agg_of_struct Try.underlying37 hv
  have hf := fits_of h 5
  unfold Fits at hf; rw [Try.underlying37] at hf
  obtain ⟨hl, hf⟩ := hf
  rw [c37] at hl
  have hcs : (Value.agg cs).cells.toList = cs.toList := rfl
  rw [hcs] at hl hf
  match hq : cs.toList, hl with
  | [a0, a1, a2, a3], _ =>
    rw [hq] at hf
    obtain ⟨n0, e0, w0⟩ := fits3 (m := 3) (cs := [a0]) (by simpa [c3, c35] using hf 0 _ rfl)
    obtain ⟨p, n, c, e1, hn, hs⟩ := fits35 (m := 0) (cs := [a1]) (by simpa [c3, c35] using hf 1 _ rfl)
    obtain ⟨n2, e2, w2⟩ := fits3 (m := 3) (cs := [a2]) (by simpa [c3, c35] using hf 2 _ rfl)
    obtain ⟨p3, n3, c3', e3, hn3, hs3⟩ := fits35 (m := 0) (cs := [a3]) (by simpa [c3, c35] using hf 3 _ rfl)
    simp only [List.cons.injEq, and_true] at e0 e1 e2 e3
    subst e0 e1 e2 e3
    obtain ⟨A, hA⟩ := opD_of hn hs
    obtain ⟨B, hB⟩ := opD_of hn3 hs3
    refine ⟨n0, p, n, c, n2, p3, n3, c3', A, B, ?_, wf_i64 w0, wf_i64 w2, hA, hB⟩
    have : cs = #[I n0, .slice p n c, I n2, .slice p3 n3 c3'] := Array.toList_inj.1 hq
    rw [this]
end Go.Proofs.Ytioaaeianjgaoaa.Trail
