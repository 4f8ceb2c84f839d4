/- How a config comes in. -/
import Derived.Test.YtkpoagdhekimpaaVcO
import Derived.Test.YtkpoagdhekimpaaTFormed
set_option linter.unusedVariables false
set_option linter.unusedSimpArgs false
set_option maxRecDepth 100000
namespace Go.Proofs.Ytkpoagdhekimpaa.Pace
open Go Go.Proofs.Ytkpoagdhekimpaa.Vc Go.Proofs.Ytkpoagdhekimpaa.T Go.ChangeShapes Go.WideShapes Go.ChangeAt Go.RowKit

theorem maxLen_le : maxLen = 9223372036854775807 := by decide +kernel
theorem c3 : Try.prog.cellsOf 3 = 1 := by kernel_rfl
theorem c22 : Try.prog.cellsOf 22 = 1 := by kernel_rfl
theorem c24 : Try.prog.cellsOf 24 = 6 := by kernel_rfl
theorem fits3 {w : World} {m : Nat} {cs : List Value} (h : Fits Try.prog w (m + 1) 3 cs) : ∃ n, cs = [.int .i64 n] ∧ (Lit.int .i64 n).wf = true := by
  unfold Fits at h; rw [Try.underlying3] at h; exact h
theorem fits22 {w : World} {m : Nat} {cs : List Value} (h : Fits Try.prog w (m + 1) 22 cs) : ∃ n, cs = [.float .f64 n] ∧ (Lit.float .f64 n).wf = true := by
  unfold Fits at h; rw [Try.underlying22] at h; exact h
theorem fits24 {w : World} {m : Nat} {cs : List Value} (h : Fits Try.prog w (m + 2) 24 cs) :
    ∃ (b f g : Int) (x : Nat) (p q : Int), cs = [.int .i64 b, .int .i64 f, .int .i64 g, .float .f64 x, .int .i64 p, .int .i64 q] ∧ (Lit.float .f64 x).wf = true := by
  unfold Fits at h; rw [Try.underlying24] at h
  obtain ⟨hl, h⟩ := h
  rw [c24] at hl
  match cs, hl with
  | [c0, c1, c2, c3', c4, c5], _ =>
    obtain ⟨n0, e0, w0⟩ := fits3 (m := m) (cs := [c0]) (by simpa [c3, c22] using h 0 _ rfl)
    obtain ⟨n1, e1, w1⟩ := fits3 (m := m) (cs := [c1]) (by simpa [c3, c22] using h 1 _ rfl)
    obtain ⟨n2, e2, w2⟩ := fits3 (m := m) (cs := [c2]) (by simpa [c3, c22] using h 2 _ rfl)
    obtain ⟨n3, e3, w3⟩ := fits22 (m := m) (cs := [c3']) (by simpa [c3, c22] using h 3 _ rfl)
    obtain ⟨n4, e4, w4⟩ := fits3 (m := m) (cs := [c4]) (by simpa [c3, c22] using h 4 _ rfl)
    obtain ⟨n5, e5, w5⟩ := fits3 (m := m) (cs := [c5]) (by simpa [c3, c22] using h 5 _ rfl)
    simp only [List.cons.injEq, and_true] at e0 e1 e2 e3 e4 e5
    subst e0 e1 e2 e3 e4 e5
    exact ⟨_, _, _, _, _, _, rfl, w3⟩
theorem cfg_of {H : Type} {enc : TypeId × Value → H} {W : World} {base : Nat} {v : Value} {d : DataW H} {ps : List MemPlace}
    (hv : Value.okWide Try.prog W .any base 24 v) (h : DataW.Trod enc Try.prog W 0 (fun _ => true) true 24 v d ps) :
    ∃ (b f g : Int) (x : Nat) (p q : Int), v = .agg #[.int .i64 b, .int .i64 f, .int .i64 g, .float .f64 x, .int .i64 p, .int .i64 q] ∧ (Lit.float .f64 x).wf = true := by
  obtain ⟨cs, rfl⟩ := agg_of_struct Try.underlying24 hv
  obtain ⟨b, f, g, x, p, q, e, hw⟩ := fits24 (m := 0) (fits_of h 2)
  refine ⟨b, f, g, x, p, q, ?_, hw⟩
  have e' : cs = #[.int .i64 b, .int .i64 f, .int .i64 g, .float .f64 x, .int .i64 p, .int .i64 q] := Array.toList_inj.1 (by rw [← e]; rfl)
  rw [e']
theorem one_of {W : World} {base : Nat} {t e : TypeId} {v x : Value} (hu : Try.prog.underlying t = some (.slice e)) (hv : Value.okWide Try.prog W .any base t v) (h : v.cells.toList = [x]) : v = x := by
  cases v with
  | agg cs =>
    unfold Value.okWide at hv
    rw [hu] at hv
    simp [Cell.okWide, Cell.ok, hu] at hv
  | _ => simp [Value.cells] at h; exact h
end Go.Proofs.Ytkpoagdhekimpaa.Pace
