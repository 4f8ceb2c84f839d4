/- The conditions under which the functions printed here return, as propositions over typed values; each is the machine's own, by the generator's theorem. -/
import Derived.Test.YtggpabfhemfopaaProg
import Derived.Test.YtggpabfhemfopaaVcG
set_option linter.unusedVariables false
set_option maxRecDepth 100000
namespace Go.Proofs.Ytggpabfhemfopaa.T
open Go Go.Proofs.Ytggpabfhemfopaa.Vc
/-! depot/depotlaw17.SolveUsual -/
def V3  (w : World) (R : Value → World → Prop) : Prop :=
  cl Try.prog 4 [] w fun e9 w1 => ∃ x3 : Int, ∃ x4 : Int, ∃ x5 : Int, ∃ x6 : Nat, ∃ x7 : Int, ∃ x8 : Int, e9 = Ending.returned (.agg #[.int .i64 x3, .int .i64 x4, .int .i64 x5, .float .f64 x6, .int .i64 x7, .int .i64 x8]) ∧
  cl Try.prog 5 [] w1 fun e16 w2 => ∃ x10 : Int, ∃ x11 : Int, ∃ x12 : Int, ∃ x13 : Nat, ∃ x14 : Int, ∃ x15 : Int, e16 = Ending.returned (.agg #[.int .i64 x10, .int .i64 x11, .int .i64 x12, .float .f64 x13, .int .i64 x14, .int .i64 x15]) ∧
  eqV Try.prog .eql 24 (.agg #[.int .i64 x3, .int .i64 x4, .int .i64 x5, .float .f64 x6, .int .i64 x7, .int .i64 x8]) (.agg #[.int .i64 x10, .int .i64 x11, .int .i64 x12, .float .f64 x13, .int .i64 x14, .int .i64 x15]) fun q17 =>
  R (.bool q17) w2
def An3 : An := .seq (.leaf) (.seq (.leaf) (.leaf))
theorem V3_eq  (w : World) (R : Value → World → Prop) : evF Try.prog Try.f3 An3 [] w R = V3  w R := by kernel_rfl
theorem V3_calls  (w : World) (R : Value → World → Prop) (h : V3  w R) : Calls Try.prog 3 #[] w fun e w' => ∃ v, e = .returned v ∧ R v w' :=
  calls_of_ev (args := []) Try.func3 (Nat.le_of_ble_eq_true (by kernel_rfl)) (by rw [V3_eq]; exact h)
theorem ok3 : fnOk Try.prog 3 = true := by kernel_rfl

/-! depot/solve.Usual -/
def V4  (w : World) (R : Value → World → Prop) : Prop :=
  alc w [.int .i64 0, .int .i64 0, .int .i64 0, .float .f64 0, .int .i64 0, .int .i64 0] 24 fun b2 w1 =>
  st w1 ((⟨b2, 0, none⟩ : Addr).add 0) (.int .i64 100) fun w2 =>
  st w2 ((⟨b2, 0, none⟩ : Addr).add 1) (.int .i64 2000) fun w3 =>
  st w3 ((⟨b2, 0, none⟩ : Addr).add 2) (.int .i64 300) fun w4 =>
  st w4 ((⟨b2, 0, none⟩ : Addr).add 3) (.float .f64 4606732058837280358) fun w5 =>
  st w5 ((⟨b2, 0, none⟩ : Addr).add 4) (.int .i64 3) fun w6 =>
  st w6 ((⟨b2, 0, none⟩ : Addr).add 5) (.int .i64 (-1)) fun w7 =>
  ldI .i64 w7 ((⟨b2, 0, none⟩ : Addr).add 0) fun x4 =>
  ldI .i64 w7 ((⟨b2, 0, none⟩ : Addr).add 1) fun x5 =>
  ldI .i64 w7 ((⟨b2, 0, none⟩ : Addr).add 2) fun x6 =>
  ldF .f64 w7 ((⟨b2, 0, none⟩ : Addr).add 3) fun x7 =>
  ldI .i64 w7 ((⟨b2, 0, none⟩ : Addr).add 4) fun x8 =>
  ldI .i64 w7 ((⟨b2, 0, none⟩ : Addr).add 5) fun x9 =>
  R (.agg #[.int .i64 x4, .int .i64 x5, .int .i64 x6, .float .f64 x7, .int .i64 x8, .int .i64 x9]) w7
def An4 : An := .seq (.leaf) (.seq (.leaf) (.leaf))
theorem V4_eq  (w : World) (R : Value → World → Prop) : evF Try.prog Try.f4 An4 [] w R = V4  w R := by kernel_rfl
theorem V4_calls  (w : World) (R : Value → World → Prop) (h : V4  w R) : Calls Try.prog 4 #[] w fun e w' => ∃ v, e = .returned v ∧ R v w' :=
  calls_of_ev (args := []) Try.func4 (Nat.le_of_ble_eq_true (by kernel_rfl)) (by rw [V4_eq]; exact h)
theorem ok4 : fnOk Try.prog 4 = true := by kernel_rfl

/-! depot/depotref17.Usual -/
def V5  (w : World) (R : Value → World → Prop) : Prop :=
  alc w [.int .i64 0, .int .i64 0, .int .i64 0, .float .f64 0, .int .i64 0, .int .i64 0] 24 fun b2 w1 =>
  st w1 ((⟨b2, 0, none⟩ : Addr).add 0) (.int .i64 100) fun w2 =>
  st w2 ((⟨b2, 0, none⟩ : Addr).add 1) (.int .i64 2000) fun w3 =>
  st w3 ((⟨b2, 0, none⟩ : Addr).add 2) (.int .i64 300) fun w4 =>
  st w4 ((⟨b2, 0, none⟩ : Addr).add 3) (.float .f64 4606732058837280358) fun w5 =>
  st w5 ((⟨b2, 0, none⟩ : Addr).add 4) (.int .i64 3) fun w6 =>
  st w6 ((⟨b2, 0, none⟩ : Addr).add 5) (.int .i64 (-1)) fun w7 =>
  ldI .i64 w7 ((⟨b2, 0, none⟩ : Addr).add 0) fun x4 =>
  ldI .i64 w7 ((⟨b2, 0, none⟩ : Addr).add 1) fun x5 =>
  ldI .i64 w7 ((⟨b2, 0, none⟩ : Addr).add 2) fun x6 =>
  ldF .f64 w7 ((⟨b2, 0, none⟩ : Addr).add 3) fun x7 =>
  ldI .i64 w7 ((⟨b2, 0, none⟩ : Addr).add 4) fun x8 =>
  ldI .i64 w7 ((⟨b2, 0, none⟩ : Addr).add 5) fun x9 =>
  R (.agg #[.int .i64 x4, .int .i64 x5, .int .i64 x6, .float .f64 x7, .int .i64 x8, .int .i64 x9]) w7
def An5 : An := .seq (.leaf) (.seq (.leaf) (.leaf))
theorem V5_eq  (w : World) (R : Value → World → Prop) : evF Try.prog Try.f5 An5 [] w R = V5  w R := by kernel_rfl
theorem V5_calls  (w : World) (R : Value → World → Prop) (h : V5  w R) : Calls Try.prog 5 #[] w fun e w' => ∃ v, e = .returned v ∧ R v w' :=
  calls_of_ev (args := []) Try.func5 (Nat.le_of_ble_eq_true (by kernel_rfl)) (by rw [V5_eq]; exact h)
theorem ok5 : fnOk Try.prog 5 = true := by kernel_rfl

end Go.Proofs.Ytggpabfhemfopaa.T
