/- depotlaw: HeatBegins answers true for every input and turns nothing that was there. -/
import Derived.Test.YtfifgopmegbifaaVcO
import Derived.Test.YtfifgopmegbifaaBegins
set_option linter.unusedVariables false
set_option linter.unusedSimpArgs false
set_option maxRecDepth 100000
namespace Go.Proofs.Ytfifgopmegbifaa.Heat
open Go Go.Proofs.Ytfifgopmegbifaa.Vc Go.Proofs.Ytfifgopmegbifaa.T Go.ChangeShapes Go.WideShapes Go.ChangeAt Go.RowKit
theorem float_of {H : Type} {enc : TypeId × Value → H} {W : World} {base : Nat} {v : Value} {d : DataW H} {ps : List MemPlace}
    (h : DataW.Trod enc Try.prog W 0 (fun _ => true) true 22 v d ps) (hv : Value.okWide Try.prog W .any base 22 v) : ∃ n, v = .float .f64 n := by
  have hf := fits_of h 1
  unfold Fits at hf; rw [Try.underlying22] at hf
  obtain ⟨n, e, _⟩ := hf
  cases v <;> simp [Value.cells] at e
  case float k b => exact ⟨b, by rw [e.1]⟩
  case agg cs => 
    unfold Value.okWide at hv
    rw [Try.underlying22] at hv
    simp [Cell.okWide, Cell.ok, Try.underlying22] at hv
theorem heatBegins_lifted (os : Os) (started : os.Started) (H : Type) (enc : TypeId × Value → H) :
    ReturnsInHanded {} Try.checked os 3 .any (Rows.heatBeginsSpec.pre6 enc Try.prog Try.f3 Rows.heatBeginsRow.domain false) (Rows.heatBeginsSpec.post enc Try.prog Try.f3 false true false false) := by
  refine row_true (C := Try.checked) (tb := 4) (by kernel_rfl) started (by kernel_rfl) Try.func3
    (ChangeSpec.witness6 (enc := enc) (C := Try.checked) false ⟨#[], #[.int .i64 0, .float .f64 0], []⟩ 12 (by kernel_rfl) (by kernel_rfl) (by kernel_rfl) (by kernel_rfl))
    (by kernel_rfl) (by kernel_rfl) rfl (by kernel_rfl) Try.underlying4 ?_ ?_
  · intro ds hd
    match ds, hd with
    | [d0, d1], _ => exact ⟨rfl, rfl, rfl⟩
  · intro W base args ds ps hval hA
    have hA' : DataW.TrodAll enc Try.prog W 0 (fun _ => true) true Try.f3.params.toList args.toList ds ps := hA
    rw [Try.params3] at hA' hval
    obtain ⟨v0, vs0, d0, ds0, p0, q0, hargs, rfl, rfl, h0, r0⟩ := trodAll_cons hA'
    obtain ⟨v1, vs1, d1, ds1, p1, q1, rfl, rfl, rfl, h1, r1⟩ := trodAll_cons r0
    obtain ⟨rfl, rfl, rfl⟩ := trodAll_nil r1
    obtain rfl : args = #[v0, v1] := by cases args; simp_all
    have hv0 := hval 0 3 v0 rfl rfl
    have hv1 := hval 1 22 v1 rfl rfl
    obtain ⟨a0, rfl, rfl, rfl, w0⟩ := open_int Try.underlying3 hv0 h0
    obtain ⟨x1, rfl⟩ := float_of h1 hv1
    exact law3 a0 x1 W (by simpa [Lit.wf, IntKind.min, IntKind.max, IntKind.signed, IntKind.bits] using w0)
theorem heatBegins_over : Rows.heatBeginsRow.holds Try.pinned (OpenSpec.ofChange Rows.heatBeginsSpec) :=
  OpenClaim.holds_of_wide 3 Try.f3 rfl rfl rfl rfl rfl rfl rfl ⟨rfl, rfl, rfl, rfl, rfl⟩ rfl rfl rfl rfl rfl (by kernel_rfl) Try.func3 (by kernel_rfl)
    (of_decide_eq_true (by kernel_rfl)) (by unfold Func.isWrapper; first | (rw [if_pos (by decide +kernel)]; kernel_rfl) | (rw [if_neg (by decide +kernel)]; exact ⟨rfl, rfl⟩))
    (fun os started H enc _ => heatBegins_lifted os started H enc)
end Go.Proofs.Ytfifgopmegbifaa.Heat
namespace Go.Proofs.Ytfifgopmegbifaa
theorem heatBegins_holds : Rows.HeatBeginsSaid := Heat.heatBegins_over
end Go.Proofs.Ytfifgopmegbifaa
