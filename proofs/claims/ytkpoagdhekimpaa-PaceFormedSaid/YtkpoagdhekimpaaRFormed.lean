/- depotlaw13.PaceFormed answers true for every config, and turns nothing. -/
import Derived.Test.YtkpoagdhekimpaaVcO
import Derived.Test.YtkpoagdhekimpaaFormed
set_option linter.unusedVariables false
set_option linter.unusedSimpArgs false
namespace Go.Proofs.Ytkpoagdhekimpaa.Pace
open Go Go.Proofs.Ytkpoagdhekimpaa.Vc Go.Proofs.Ytkpoagdhekimpaa.T Go.ChangeShapes Go.WideShapes Go.ChangeAt Go.RowKit

theorem own : ownKnob Try.prog.godebug = none := by kernel_rfl

theorem c3 : Try.prog.cellsOf 3 = 1 := by kernel_rfl
theorem c22 : Try.prog.cellsOf 22 = 1 := by kernel_rfl
theorem c24 : Try.prog.cellsOf 24 = 6 := by kernel_rfl
theorem fits3 {w : World} {m : Nat} {cs : List Value} (h : Fits Try.prog w (m + 1) 3 cs) : ∃ n, cs = [.int .i64 n] ∧ (Lit.int .i64 n).wf = true := by
  unfold Fits at h; rw [Try.underlying3] at h; exact h
theorem fits22 {w : World} {m : Nat} {cs : List Value} (h : Fits Try.prog w (m + 1) 22 cs) : ∃ n, cs = [.float .f64 n] ∧ (Lit.float .f64 n).wf = true := by
  unfold Fits at h; rw [Try.underlying22] at h; exact h
theorem fits24 {w : World} {m : Nat} {cs : List Value} (h : Fits Try.prog w (m + 2) 24 cs) :
    ∃ (b f g : Int) (x : Nat) (p q : Int), cs = [.int .i64 b, .int .i64 f, .int .i64 g, .float .f64 x, .int .i64 p, .int .i64 q] ∧ (Lit.float .f64 x).wf = true := by
  unfold Fits at h; rw [Try.underlying24] at h
  obtain ⟨hl, h⟩ := h
  rw [c24] at hl
  match cs, hl with
  | [c0, c1, c2, c3', c4, c5], _ =>
    obtain ⟨n0, e0, w0⟩ := fits3 (m := m) (cs := [c0]) (by simpa [c3, c22] using h 0 _ rfl)
    obtain ⟨n1, e1, w1⟩ := fits3 (m := m) (cs := [c1]) (by simpa [c3, c22] using h 1 _ rfl)
    obtain ⟨n2, e2, w2⟩ := fits3 (m := m) (cs := [c2]) (by simpa [c3, c22] using h 2 _ rfl)
    obtain ⟨n3, e3, w3⟩ := fits22 (m := m) (cs := [c3']) (by simpa [c3, c22] using h 3 _ rfl)
    obtain ⟨n4, e4, w4⟩ := fits3 (m := m) (cs := [c4]) (by simpa [c3, c22] using h 4 _ rfl)
    obtain ⟨n5, e5, w5⟩ := fits3 (m := m) (cs := [c5]) (by simpa [c3, c22] using h 5 _ rfl)
    simp only [List.cons.injEq, and_true] at e0 e1 e2 e3 e4 e5
    subst e0 e1 e2 e3 e4 e5
    exact ⟨_, _, _, _, _, _, rfl, w3⟩
theorem cfg_of {H : Type} {enc : TypeId × Value → H} {W : World} {base : Nat} {v : Value} {d : DataW H} {ps : List MemPlace}
    (hv : Value.okWide Try.prog W .any base 24 v) (h : DataW.Trod enc Try.prog W 0 (fun _ => true) true 24 v d ps) :
    ∃ (b f g : Int) (x : Nat) (p q : Int), v = .agg #[.int .i64 b, .int .i64 f, .int .i64 g, .float .f64 x, .int .i64 p, .int .i64 q] ∧ (Lit.float .f64 x).wf = true := by
  obtain ⟨cs, rfl⟩ := agg_of_struct Try.underlying24 hv
  obtain ⟨b, f, g, x, p, q, e, hw⟩ := fits24 (m := 0) (fits_of h 2)
  refine ⟨b, f, g, x, p, q, ?_, hw⟩
  have e' : cs = #[.int .i64 b, .int .i64 f, .int .i64 g, .float .f64 x, .int .i64 p, .int .i64 q] := Array.toList_inj.1 (by rw [← e]; rfl)
  rw [e']
theorem lifted (os : Os) (started : os.Started) (H : Type) (enc : TypeId × Value → H) :
    ReturnsInHanded {} Try.checked os 3 .any (Rows.paceFormedSpec.pre6 enc Try.prog Try.f3 Rows.paceFormedRow.domain false) (Rows.paceFormedSpec.post enc Try.prog Try.f3 false true false false) := by
  refine row_true (C := Try.checked) (tb := 4) own started (by kernel_rfl) Try.func3
    (ChangeSpec.witness6 (enc := enc) (C := Try.checked) false ⟨#[], #[.agg #[.int .i64 0, .int .i64 0, .int .i64 0, .float .f64 0, .int .i64 0, .int .i64 0]], []⟩ 8 (by kernel_rfl) (by kernel_rfl) (by kernel_rfl) (by kernel_rfl))
    (by kernel_rfl) (by kernel_rfl) rfl (by kernel_rfl) Try.underlying4 ?_ ?_
  · intro ds hd
    match ds, hd with
    | [d], _ => exact ⟨rfl, rfl, rfl⟩
  · intro W base args ds ps hval hA
    have hA' : DataW.TrodAll enc Try.prog W 0 (fun _ => true) true Try.f3.params.toList args.toList ds ps := hA
    rw [Try.params3] at hA' hval
    obtain ⟨v0, vs0, d0, ds0, p0, q0, hargs, rfl, rfl, h0, r0⟩ := trodAll_cons hA'
    obtain ⟨rfl, rfl, rfl⟩ := trodAll_nil r0
    obtain rfl : args = #[v0] := by cases args; simp_all
    obtain ⟨b, f, g, x, p, q, rfl, _⟩ := cfg_of (hval 0 24 v0 rfl rfl) h0
    exact law3 b f g x p q W
theorem over : Rows.paceFormedRow.holds Try.pinned (OpenSpec.ofChange Rows.paceFormedSpec) :=
  OpenClaim.holds_of_wide 3 Try.f3 rfl rfl rfl rfl rfl rfl rfl ⟨rfl, rfl, rfl, rfl, rfl⟩ rfl rfl rfl rfl rfl (by kernel_rfl) Try.func3 (by kernel_rfl)
    (of_decide_eq_true (by kernel_rfl)) (by unfold Func.isWrapper; first | (rw [if_pos (by decide +kernel)]; kernel_rfl) | (rw [if_neg (by decide +kernel)]; exact ⟨rfl, rfl⟩))
    (fun os started H enc _ => lifted os started H enc)
end Go.Proofs.Ytkpoagdhekimpaa.Pace
namespace Go.Proofs.Ytkpoagdhekimpaa
theorem paceFormed_holds : Rows.PaceFormedSaid := Pace.over
end Go.Proofs.Ytkpoagdhekimpaa
