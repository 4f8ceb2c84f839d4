/- A case whose list of calls is not too long. -/
import Derived.Test.YtfifgopmegbifaaVcK
import Derived.Test.YtfifgopmegbifaaOpenH
set_option linter.unusedVariables false
set_option linter.unusedSimpArgs false
set_option maxRecDepth 100000
namespace Go.Proofs.Ytfifgopmegbifaa.Heat
open Go Go.Proofs.Ytfifgopmegbifaa.Vc Go.Proofs.Ytfifgopmegbifaa.T Go.ChangeShapes Go.WideShapes Go.ChangeAt Go.RowKit
theorem case_upto {H : Type} {enc : TypeId × Value → H} {W : World} {d : DataW H} {ps : List MemPlace} {v0 : Int} {x : Nat} {sp : Option Addr} {n c : Nat}
    (h : DataW.Trod enc Try.prog W 0 (fun _ => true) true 38 (.agg #[I v0, F x, .slice sp n c]) d ps) (hB : Rows.uptoBulk d ≤ 1048576) : n ≤ 1048576 := by
  have hb := bk_of h hB 2
  unfold Bk at hb; rw [Try.underlying38] at hb
  have h1 := hb 2 _ rfl
  have h2 : Bk Try.prog W 1048576 1 36 [.slice sp n c] := by simpa [c36, Value.cells] using h1
  unfold Bk at h2; rw [Try.underlying36] at h2
  exact (h2 _ _ _ rfl).1
end Go.Proofs.Ytfifgopmegbifaa.Heat
