/- Usual's numbers: solve.Usual and the document's answer are the same closed config. -/
import Derived.Test.YtggpabfhemfopaaVcO
import Derived.Test.YtggpabfhemfopaaTUsual
set_option linter.unusedVariables false
set_option linter.unusedSimpArgs false
namespace Go.Proofs.Ytggpabfhemfopaa.Solve
open Go Go.Proofs.Ytggpabfhemfopaa.Vc Go.Proofs.Ytggpabfhemfopaa.T

def usual : Value := .agg #[.int .i64 100, .int .i64 2000, .int .i64 300, .float .f64 4606732058837280358, .int .i64 3, .int .i64 (-1)]
theorem usual4 (w : World) : Calls Try.prog 4 #[] w fun e w' => e = .returned usual ∧ Keep None w w' := by
  refine (V4_calls w (fun v w' => v = usual ∧ Keep None w w') ?_).mono fun e w' ⟨v, he, hv, hk⟩ => ⟨by rw [he, hv], hk⟩
  unfold V4
  refine alc_of fun w1 hB hK => ?_
  simp only [add_mk, Nat.zero_add]
  have hs := Nat.le_refl w.heap.size
  refine st_of hB (by simp) rfl fun w2 hB k _ => ?_
  replace hK := hK.then1 k hs
  refine st_of hB (by simp) rfl fun w3 hB k _ => ?_
  replace hK := hK.then1 k hs
  refine st_of hB (by simp) rfl fun w4 hB k _ => ?_
  replace hK := hK.then1 k hs
  refine st_of hB (by simp) rfl fun w5 hB k _ => ?_
  replace hK := hK.then1 k hs
  refine st_of hB (by simp) rfl fun w6 hB k _ => ?_
  replace hK := hK.then1 k hs
  refine st_of hB (by simp) rfl fun w7 hB k _ => ?_
  replace hK := hK.then1 k hs
  exact ldI_of (hB.cell 0) (ldI_of (hB.cell 1) (ldI_of (hB.cell 2) (ldF_of (hB.cell 3) (ldI_of (hB.cell 4) (ldI_of (hB.cell 5) ⟨rfl, hK⟩)))))
theorem usual5 (w : World) : Calls Try.prog 5 #[] w fun e w' => e = .returned usual ∧ Keep None w w' := by
  refine (V5_calls w (fun v w' => v = usual ∧ Keep None w w') ?_).mono fun e w' ⟨v, he, hv, hk⟩ => ⟨by rw [he, hv], hk⟩
  unfold V5
  refine alc_of fun w1 hB hK => ?_
  simp only [add_mk, Nat.zero_add]
  have hs := Nat.le_refl w.heap.size
  refine st_of hB (by simp) rfl fun w2 hB k _ => ?_
  replace hK := hK.then1 k hs
  refine st_of hB (by simp) rfl fun w3 hB k _ => ?_
  replace hK := hK.then1 k hs
  refine st_of hB (by simp) rfl fun w4 hB k _ => ?_
  replace hK := hK.then1 k hs
  refine st_of hB (by simp) rfl fun w5 hB k _ => ?_
  replace hK := hK.then1 k hs
  refine st_of hB (by simp) rfl fun w6 hB k _ => ?_
  replace hK := hK.then1 k hs
  refine st_of hB (by simp) rfl fun w7 hB k _ => ?_
  replace hK := hK.then1 k hs
  exact ldI_of (hB.cell 0) (ldI_of (hB.cell 1) (ldI_of (hB.cell 2) (ldF_of (hB.cell 3) (ldI_of (hB.cell 4) (ldI_of (hB.cell 5) ⟨rfl, hK⟩)))))
theorem law3 (w : World) : Calls Try.prog 3 #[] w fun e w' => e = .returned (.bool true) ∧ RowKit.Below w.heap.size w w' := by
  refine (V3_calls w (fun v w' => v = .bool true ∧ Keep None w w') ?_).mono fun e w' ⟨v, he, hv, hk⟩ => ⟨by rw [he, hv], hk.below0⟩
  unfold V3
  refine cl_of ok4 (usual4 w) fun e w1 ⟨he, hk1⟩ => ⟨_, _, _, _, _, _, he, ?_⟩
  refine cl_of ok5 (usual5 w1) fun e w2 ⟨he, hk2⟩ => ⟨_, _, _, _, _, _, he, ?_⟩
  exact ⟨true, fun w x y => by kernel_rfl, rfl, hk1.then0 hk2⟩
end Go.Proofs.Ytggpabfhemfopaa.Solve
