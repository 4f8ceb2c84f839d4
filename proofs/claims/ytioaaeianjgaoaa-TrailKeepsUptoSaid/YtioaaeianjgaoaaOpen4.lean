/- A script whose list of calls is not too long, as data. -/
import Derived.Test.YtioaaeianjgaoaaVcK
import Derived.Test.YtioaaeianjgaoaaOpen2
set_option linter.unusedVariables false
set_option linter.unusedSimpArgs false
set_option maxRecDepth 100000
namespace Go.Proofs.Ytioaaeianjgaoaa.Trail
open Go Go.Proofs.Ytioaaeianjgaoaa.Vc Go.Proofs.Ytioaaeianjgaoaa.T Go.ChangeShapes Go.WideShapes Go.ChangeAt Go.RowKit

theorem script_upto {H : Type} {enc : TypeId × Value → H} {W : World} {d : DataW H} {ps : List MemPlace} {v0 v1 : Int} {sp : Option Addr} {n c : Nat}
    (h : DataW.Trod enc Try.prog W 0 (fun _ => true) true 54 (.agg #[I v0, I v1, .slice sp n c]) d ps) (hB : Rows.uptoBulk d ≤ 1048576) : n ≤ 1048576 := by
  have hb := bk_of h hB 2
  unfold Bk at hb; rw [Try.underlying54] at hb
  have h1 := hb 1 _ rfl
  have h2 : Bk Try.prog W 1048576 1 35 [.slice sp n c] := by simpa [c52, c35, Value.cells] using h1
  unfold Bk at h2; rw [Try.underlying35] at h2
  exact (h2 _ _ _ rfl).1
theorem ints_upto {H : Type} {enc : TypeId × Value → H} {W : World} {d : DataW H} {ps : List MemPlace} {p : Option Addr} {n c : Nat}
    (h : DataW.Trod enc Try.prog W 0 (fun _ => true) true 26 (.slice p n c) d ps) (hB : Rows.uptoBulk d ≤ 1048576) : n ≤ 1048576 := by
  have hb := bk_of h hB 1
  unfold Bk at hb; rw [Try.underlying26] at hb
  exact (hb _ _ _ rfl).1
end Go.Proofs.Ytioaaeianjgaoaa.Trail
