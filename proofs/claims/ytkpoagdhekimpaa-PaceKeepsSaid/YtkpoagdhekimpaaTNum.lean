/- The conditions under which the functions printed here return, as propositions over typed values; each is the machine's own, by the generator's theorem. -/
import Derived.Test.YtkpoagdhekimpaaProg
import Derived.Test.YtkpoagdhekimpaaVcX
set_option linter.unusedVariables false
set_option maxRecDepth 100000
namespace Go.Proofs.Ytkpoagdhekimpaa.T
open Go Go.Proofs.Ytkpoagdhekimpaa.Vc
/-! depot/depotlaw13.PaceNumbers -/
def V8  (w : World) (R : Value → World → Prop) : Prop :=
  alc w [.int .i64 0, .int .i64 0, .int .i64 0, .float .f64 0, .int .i64 0, .int .i64 0] 24 fun b3 w1 =>
  st w1 ((⟨b3, 0, none⟩ : Addr).add 0) (.int .i64 1048576) fun w2 =>
  st w2 ((⟨b3, 0, none⟩ : Addr).add 1) (.int .i64 1048576) fun w3 =>
  st w3 ((⟨b3, 0, none⟩ : Addr).add 2) (.int .i64 1) fun w4 =>
  st w4 ((⟨b3, 0, none⟩ : Addr).add 3) (.float .f64 4602678819172646912) fun w5 =>
  st w5 ((⟨b3, 0, none⟩ : Addr).add 4) (.int .i64 3) fun w6 =>
  st w6 ((⟨b3, 0, none⟩ : Addr).add 5) (.int .i64 0) fun w7 =>
  ldI .i64 w7 ((⟨b3, 0, none⟩ : Addr).add 0) fun x5 =>
  ldI .i64 w7 ((⟨b3, 0, none⟩ : Addr).add 1) fun x6 =>
  ldI .i64 w7 ((⟨b3, 0, none⟩ : Addr).add 2) fun x7 =>
  ldF .f64 w7 ((⟨b3, 0, none⟩ : Addr).add 3) fun x8 =>
  ldI .i64 w7 ((⟨b3, 0, none⟩ : Addr).add 4) fun x9 =>
  ldI .i64 w7 ((⟨b3, 0, none⟩ : Addr).add 5) fun x10 =>
  alc w7 [.int .i64 0, .int .i64 0, .int .i64 0, .float .f64 0, .int .i64 0, .int .i64 0] 24 fun b11 w8 =>
  st w8 ((⟨b11, 0, none⟩ : Addr).add 0) (.int .i64 x5) fun w9 =>
  st w9 ((⟨b11, 0, none⟩ : Addr).add 1) (.int .i64 x6) fun w10 =>
  st w10 ((⟨b11, 0, none⟩ : Addr).add 2) (.int .i64 x7) fun w11 =>
  st w11 ((⟨b11, 0, none⟩ : Addr).add 3) (.float .f64 x8) fun w12 =>
  st w12 ((⟨b11, 0, none⟩ : Addr).add 4) (.int .i64 x9) fun w13 =>
  st w13 ((⟨b11, 0, none⟩ : Addr).add 5) (.int .i64 x10) fun w14 =>
  st w14 (((⟨b11, 0, none⟩ : Addr).add 0).add 0) (.int .i64 1048577) fun w15 =>
  ldI .i64 w15 ((⟨b11, 0, none⟩ : Addr).add 0) fun x14 =>
  ldI .i64 w15 ((⟨b11, 0, none⟩ : Addr).add 1) fun x15 =>
  ldI .i64 w15 ((⟨b11, 0, none⟩ : Addr).add 2) fun x16 =>
  ldF .f64 w15 ((⟨b11, 0, none⟩ : Addr).add 3) fun x17 =>
  ldI .i64 w15 ((⟨b11, 0, none⟩ : Addr).add 4) fun x18 =>
  ldI .i64 w15 ((⟨b11, 0, none⟩ : Addr).add 5) fun x19 =>
  cl Try.prog 18 [.agg #[.int .i64 x14, .int .i64 x15, .int .i64 x16, .float .f64 x17, .int .i64 x18, .int .i64 x19]] w15 fun e24 w16 => ∃ x20 : Value, ∃ x21 : Value, ∃ x22 : Value, ∃ x23 : Int, e24 = Ending.returned (.tuple #[.agg #[x20, x21, x22], .int .i64 x23]) ∧
  alc w16 [.nilFunc, .nilFunc, .nilFunc] 34 fun b25 w17 =>
  st w17 ((⟨b25, 0, none⟩ : Addr).add 0) (x20) fun w18 =>
  st w18 ((⟨b25, 0, none⟩ : Addr).add 1) (x21) fun w19 =>
  st w19 ((⟨b25, 0, none⟩ : Addr).add 2) (x22) fun w20 =>
  ldI .i64 w20 ((⟨b3, 0, none⟩ : Addr).add 0) fun x27 =>
  ldI .i64 w20 ((⟨b3, 0, none⟩ : Addr).add 1) fun x28 =>
  ldI .i64 w20 ((⟨b3, 0, none⟩ : Addr).add 2) fun x29 =>
  ldF .f64 w20 ((⟨b3, 0, none⟩ : Addr).add 3) fun x30 =>
  ldI .i64 w20 ((⟨b3, 0, none⟩ : Addr).add 4) fun x31 =>
  ldI .i64 w20 ((⟨b3, 0, none⟩ : Addr).add 5) fun x32 =>
  cl Try.prog 21 [.agg #[.int .i64 x27, .int .i64 x28, .int .i64 x29, .float .f64 x30, .int .i64 x31, .int .i64 x32], .int .i64 1048577] w20 fun e35 w21 => ∃ (x33 : Option Addr) (x33n x33c : Nat), ∃ x34 : Int, e35 = Ending.returned (.tuple #[.slice x33 x33n x33c, .int .i64 x34]) ∧
  ldI .i64 w21 ((⟨b3, 0, none⟩ : Addr).add 0) fun x37 =>
  ldI .i64 w21 ((⟨b3, 0, none⟩ : Addr).add 1) fun x38 =>
  ldI .i64 w21 ((⟨b3, 0, none⟩ : Addr).add 2) fun x39 =>
  ldF .f64 w21 ((⟨b3, 0, none⟩ : Addr).add 3) fun x40 =>
  ldI .i64 w21 ((⟨b3, 0, none⟩ : Addr).add 4) fun x41 =>
  ldI .i64 w21 ((⟨b3, 0, none⟩ : Addr).add 5) fun x42 =>
  cl Try.prog 21 [.agg #[.int .i64 x37, .int .i64 x38, .int .i64 x39, .float .f64 x40, .int .i64 x41, .int .i64 x42], .int .i64 (-1)] w21 fun e45 w22 => ∃ (x43 : Option Addr) (x43n x43c : Nat), ∃ x44 : Int, e45 = Ending.returned (.tuple #[.slice x43 x43n x43c, .int .i64 x44]) ∧
  gd (α := (Int × Int × Int × Nat × Int × Int × Unit)) (cond (cond (cond true (x23 == 1) false) (x34 == 2) false) (x44 == 2) false) (fun k47 =>
    ldI .i64 w22 ((⟨b3, 0, none⟩ : Addr).add 0) fun x48 =>
    ldI .i64 w22 ((⟨b3, 0, none⟩ : Addr).add 1) fun x49 =>
    ldI .i64 w22 ((⟨b3, 0, none⟩ : Addr).add 2) fun x50 =>
    ldF .f64 w22 ((⟨b3, 0, none⟩ : Addr).add 3) fun x51 =>
    ldI .i64 w22 ((⟨b3, 0, none⟩ : Addr).add 4) fun x52 =>
    ldI .i64 w22 ((⟨b3, 0, none⟩ : Addr).add 5) fun x53 =>
    k47 (x48, x49, x50, x51, x52, x53, ()) w22) (0, 0, 0, 0, 0, 0, ()) w22 fun x54 w23 =>
  gd (α := Bool) (cond (cond (cond true (x23 == 1) false) (x34 == 2) false) (x44 == 2) false) (fun k55 =>
    cl Try.prog 13 [.agg #[.int .i64 x54.1, .int .i64 x54.2.1, .int .i64 x54.2.2.1, .float .f64 x54.2.2.2.1, .int .i64 x54.2.2.2.2.1, .int .i64 x54.2.2.2.2.2.1]] w23 fun e57 w24 => ∃ x56 : Bool, e57 = Ending.returned (.bool x56) ∧
    k55 x56 w24) false w23 fun x58 w25 =>
  gd (α := (Int × Int × Int × Nat × Int × Int × Unit)) (cond (cond (cond (cond true (x23 == 1) false) (x34 == 2) false) (x44 == 2) false) x58 false) (fun k59 =>
    ldI .i64 w25 ((⟨b11, 0, none⟩ : Addr).add 0) fun x60 =>
    ldI .i64 w25 ((⟨b11, 0, none⟩ : Addr).add 1) fun x61 =>
    ldI .i64 w25 ((⟨b11, 0, none⟩ : Addr).add 2) fun x62 =>
    ldF .f64 w25 ((⟨b11, 0, none⟩ : Addr).add 3) fun x63 =>
    ldI .i64 w25 ((⟨b11, 0, none⟩ : Addr).add 4) fun x64 =>
    ldI .i64 w25 ((⟨b11, 0, none⟩ : Addr).add 5) fun x65 =>
    k59 (x60, x61, x62, x63, x64, x65, ()) w25) (0, 0, 0, 0, 0, 0, ()) w25 fun x66 w26 =>
  gd (α := Bool) (cond (cond (cond (cond true (x23 == 1) false) (x34 == 2) false) (x44 == 2) false) x58 false) (fun k67 =>
    cl Try.prog 13 [.agg #[.int .i64 x66.1, .int .i64 x66.2.1, .int .i64 x66.2.2.1, .float .f64 x66.2.2.2.1, .int .i64 x66.2.2.2.2.1, .int .i64 x66.2.2.2.2.2.1]] w26 fun e69 w27 => ∃ x68 : Bool, e69 = Ending.returned (.bool x68) ∧
    k67 x68 w27) false w26 fun x70 w28 =>
  R (.bool (cond (cond (cond (cond (cond true (x23 == 1) false) (x34 == 2) false) (x44 == 2) false) x58 false) (!x70) false)) w28
def An8 : An := .seq (.leaf) (.seq (.leaf) (.seq (.leaf) (.seq (.leaf) (.seq (.leaf) (.seq (.leaf) (.seq (.leaf) (.seq (.leaf) (.leaf))))))))
theorem V8_eq  (w : World) (R : Value → World → Prop) : evF Try.prog Try.f8 An8 [] w R = V8  w R := by kernel_rfl
theorem V8_calls  (w : World) (R : Value → World → Prop) (h : V8  w R) : Calls Try.prog 8 #[] w fun e w' => ∃ v, e = .returned v ∧ R v w' :=
  calls_of_ev (args := []) Try.func8 (Nat.le_of_ble_eq_true (by kernel_rfl)) (by rw [V8_eq]; exact h)
theorem ok8 : fnOk Try.prog 8 = true := by kernel_rfl

end Go.Proofs.Ytkpoagdhekimpaa.T
