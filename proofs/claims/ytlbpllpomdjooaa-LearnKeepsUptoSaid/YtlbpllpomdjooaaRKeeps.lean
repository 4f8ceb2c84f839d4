/- depotlaw: LearnKeeps answers true for every input of bulk at most 1048576 and turns nothing that was there. -/
import Derived.Test.YtlbpllpomdjooaaVcO
import Derived.Test.YtlbpllpomdjooaaOpenF
import Derived.Test.YtlbpllpomdjooaaLearnR
set_option linter.unusedVariables false
set_option linter.unusedSimpArgs false
set_option maxRecDepth 100000
namespace Go.Proofs.Ytlbpllpomdjooaa.Learn
open Go Go.Proofs.Ytlbpllpomdjooaa.Vc Go.Proofs.Ytlbpllpomdjooaa.T Go.ChangeShapes Go.WideShapes Go.ChangeAt Go.RowKit
theorem learnKeeps_lifted (os : Os) (started : os.Started) (H : Type) (enc : TypeId × Value → H) (F : Stop.Interp) :
    ReturnsInHanded {} Try.checked os 9 .any ((Rows.OpenSpec.upto Rows.learnKeepsSpec).pre6 enc Try.prog Try.f9 Rows.learnKeepsUptoRow.domain false) (((Rows.OpenSpec.upto Rows.learnKeepsSpec).at F).post enc Try.prog Try.f9 false true false false) := by
  refine row_upto (C := Try.checked) (tb := 4) (by kernel_rfl) started (by kernel_rfl) Try.func9
    (OpenSpec.witness (enc := enc) (C := Try.checked) (s := Rows.OpenSpec.upto Rows.learnKeepsSpec) (k := Rows.uptoSmall) rfl false ⟨#[], #[.agg #[.slice none 0 0, .slice none 0 0, .slice none 0 0, .slice none 0 0]], []⟩ 12 (by kernel_rfl) (by kernel_rfl) (by kernel_rfl)
      (x := ([.agg [.nil, .nil, .nil, .nil]], [], [])) (by kernel_rfl) (by kernel_rfl) (by first | kernel_rfl | simp [Rows.uptoSmall, Rows.uptoBulkAll, Rows.uptoBulk]))
    (by kernel_rfl) (by kernel_rfl) rfl (by kernel_rfl) Try.underlying4 ?_ ?_
  · intro ds hd
    match ds, hd with
    | [d0], _ => exact ⟨rfl, rfl, rfl⟩
  · intro W base args ds ps hval hA hB
    have hA' : DataW.TrodAll enc Try.prog W 0 (fun _ => true) true Try.f9.params.toList args.toList ds ps := hA
    rw [Try.params9] at hA' hval
    obtain ⟨v0, vs0, d0, ds0, p0, q0, hargs, rfl, rfl, h0, r0⟩ := trodAll_cons hA'
    obtain ⟨rfl, rfl, rfl⟩ := trodAll_nil r0
    obtain rfl : args = #[v0] := by cases args; simp_all
    have hv0 := hval 0 42 v0 rfl rfl
    have hb0 : Rows.uptoBulk d0 ≤ 1048576 := Nat.le_trans (bulk_mem (by simp)) hB
    obtain ⟨t, u, c, e, es, eu, xs, ys, rfl, ⟨q0, q1, q2, q3, q4⟩, ⟨u1, u2, u3⟩, ⟨c0, c1, c2⟩, d1, d2⟩ := asked_of hv0 h0 hb0
    exact law9 q2 q3 q1 q0 (fun x hx => (q4 x hx).2.2.2) u2 u1 (fun x hx => (u3 x hx).2.2.2) c2 c1 c0 d2 d1
theorem learnKeeps_over : Rows.learnKeepsUptoRow.holds Try.pinned (Rows.OpenSpec.upto Rows.learnKeepsSpec) :=
  OpenClaim.holds_of_cond 9 Try.f9 rfl rfl rfl rfl rfl rfl rfl ⟨rfl, rfl, rfl, rfl, rfl⟩ rfl rfl rfl rfl rfl (by kernel_rfl) Try.func9 (by kernel_rfl)
    (of_decide_eq_true (by kernel_rfl)) (by unfold Func.isWrapper; first | (rw [if_pos (by decide +kernel)]; kernel_rfl) | (rw [if_neg (by decide +kernel)]; exact ⟨rfl, rfl⟩))
    (fun os started H enc _ F => learnKeeps_lifted os started H enc F)
end Go.Proofs.Ytlbpllpomdjooaa.Learn
namespace Go.Proofs.Ytlbpllpomdjooaa
theorem learnKeeps_holds : Rows.LearnKeepsUptoSaid := Learn.learnKeeps_over
end Go.Proofs.Ytlbpllpomdjooaa
