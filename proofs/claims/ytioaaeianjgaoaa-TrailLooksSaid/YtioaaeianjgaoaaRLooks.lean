/- depotlaw: TrailLooks answers true for every input and turns nothing that was there. -/
import Derived.Test.YtioaaeianjgaoaaVcO
import Derived.Test.YtioaaeianjgaoaaOpen2
import Derived.Test.YtioaaeianjgaoaaLooks
set_option linter.unusedVariables false
set_option linter.unusedSimpArgs false
set_option maxRecDepth 100000
namespace Go.Proofs.Ytioaaeianjgaoaa.Trail
open Go Go.Proofs.Ytioaaeianjgaoaa.Vc Go.Proofs.Ytioaaeianjgaoaa.T Go.ChangeShapes Go.WideShapes Go.ChangeAt Go.RowKit
theorem trailLooks_lifted (os : Os) (started : os.Started) (H : Type) (enc : TypeId × Value → H) :
    ReturnsInHanded {} Try.checked os 6 .any (Rows.trailLooksSpec.pre6 enc Try.prog Try.f6 Rows.trailLooksRow.domain false) (Rows.trailLooksSpec.post enc Try.prog Try.f6 false true false false) := by
  refine row_true (C := Try.checked) (tb := 4) (by kernel_rfl) started (by kernel_rfl) Try.func6
    (ChangeSpec.witness6 (enc := enc) (C := Try.checked) false ⟨#[], #[.int .i64 0, .slice none 0 0, .slice none 0 0], []⟩ 12 (by kernel_rfl) (by kernel_rfl) (by kernel_rfl) (by kernel_rfl))
    (by kernel_rfl) (by kernel_rfl) rfl (by kernel_rfl) Try.underlying4 ?_ ?_
  · intro ds hd
    match ds, hd with
    | [d0, d1, d2], _ => exact ⟨rfl, rfl, rfl⟩
  · intro W base args ds ps hval hA
    have hA' : DataW.TrodAll enc Try.prog W 0 (fun _ => true) true Try.f6.params.toList args.toList ds ps := hA
    rw [Try.params6] at hA' hval
    obtain ⟨v0, vs0, d0, ds0, p0, q0, hargs, rfl, rfl, h0, r0⟩ := trodAll_cons hA'
    obtain ⟨v1, vs1, d1, ds1, p1, q1, rfl, rfl, rfl, h1, r1⟩ := trodAll_cons r0
    obtain ⟨v2, vs2, d2, ds2, p2, q2, rfl, rfl, rfl, h2, r2⟩ := trodAll_cons r1
    obtain ⟨rfl, rfl, rfl⟩ := trodAll_nil r2
    obtain rfl : args = #[v0, v1, v2] := by cases args; simp_all
    have hv0 := hval 0 3 v0 rfl rfl
    have hv1 := hval 1 35 v1 rfl rfl
    have hv2 := hval 2 26 v2 rfl rfl
    obtain ⟨a0, rfl, rfl, rfl, w0⟩ := open_int Try.underlying3 hv0 h0
    obtain ⟨sp, n, c, ops, rfl, ho⟩ := ops_of hv1 h1
    obtain ⟨p, nc, cc, xs, rfl, _, hx⟩ := ints_of hv2 h2
    exact law6 a0 sp n c ops p nc cc xs W (wf_i64 w0) ho hx
theorem trailLooks_over : Rows.trailLooksRow.holds Try.pinned (OpenSpec.ofChange Rows.trailLooksSpec) :=
  OpenClaim.holds_of_wide 6 Try.f6 rfl rfl rfl rfl rfl rfl rfl ⟨rfl, rfl, rfl, rfl, rfl⟩ rfl rfl rfl rfl rfl (by kernel_rfl) Try.func6 (by kernel_rfl)
    (of_decide_eq_true (by kernel_rfl)) (by unfold Func.isWrapper; first | (rw [if_pos (by decide +kernel)]; kernel_rfl) | (rw [if_neg (by decide +kernel)]; exact ⟨rfl, rfl⟩))
    (fun os started H enc _ => trailLooks_lifted os started H enc)
end Go.Proofs.Ytioaaeianjgaoaa.Trail
namespace Go.Proofs.Ytioaaeianjgaoaa
theorem trailLooks_holds : Rows.TrailLooksSaid := Trail.trailLooks_over
end Go.Proofs.Ytioaaeianjgaoaa
