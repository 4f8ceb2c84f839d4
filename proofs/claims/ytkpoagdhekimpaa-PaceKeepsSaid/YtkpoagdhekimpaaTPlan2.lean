/- The conditions under which the functions printed here return, as propositions over typed values; each is the machine's own, by the generator's theorem. -/
import Derived.Test.YtkpoagdhekimpaaProg
import Derived.Test.YtkpoagdhekimpaaVcG
set_option linter.unusedVariables false
set_option maxRecDepth 100000
namespace Go.Proofs.Ytkpoagdhekimpaa.T
open Go Go.Proofs.Ytkpoagdhekimpaa.Vc
/-! depot/depotref13.Plan -/
def V22 (a0_0 : Int) (a0_1 : Int) (a0_2 : Int) (a0_3 : Nat) (a0_4 : Int) (a0_5 : Int) (a1 : Int) (w : World) (R : Value → World → Prop) : Prop :=
  alc w [.int .i64 a0_0, .int .i64 a0_1, .int .i64 a0_2, .float .f64 a0_3, .int .i64 a0_4, .int .i64 a0_5] 24 fun b2 w1 =>
  ldI .i64 w1 ((⟨b2, 0, none⟩ : Addr).add 0) fun x4 =>
  ldI .i64 w1 ((⟨b2, 0, none⟩ : Addr).add 1) fun x5 =>
  ldI .i64 w1 ((⟨b2, 0, none⟩ : Addr).add 2) fun x6 =>
  ldF .f64 w1 ((⟨b2, 0, none⟩ : Addr).add 3) fun x7 =>
  ldI .i64 w1 ((⟨b2, 0, none⟩ : Addr).add 4) fun x8 =>
  ldI .i64 w1 ((⟨b2, 0, none⟩ : Addr).add 5) fun x9 =>
  cl Try.prog 19 [.agg #[.int .i64 x4, .int .i64 x5, .int .i64 x6, .float .f64 x7, .int .i64 x8, .int .i64 x9]] w1 fun e12 w2 => ∃ x10 : Option Addr, ∃ x11 : Int, e12 = Ending.returned (.tuple #[.pointer x10, .int .i64 x11]) ∧
  pif (x11 != 0) (
    R (.tuple #[.slice none 0 0, .int .i64 x11]) w2) (
    pif (cond (decide (a1 < 0)) true (decide (a1 > 1048576))) (
      R (.tuple #[.slice none 0 0, .int .i64 2]) w2) (
      lp (σ := (Option Addr × Nat × Nat) × Int × Unit) (fun s22 w3 k21 => match s22 with
        | ((v19, v19n, v19c), v20, _) =>
        pif (decide (v20 ≤ a1)) (
          jn (σ := (Option Addr × Nat × Nat) × Unit) (fun k25 =>
            cl Try.prog 31 [.pointer x10] w3 fun e28 w5 => e28 = Ending.returned (.tuple #[]) ∧
            cl Try.prog 32 [.pointer x10] w5 fun e31 w6 => ∃ x30 : Bool, e31 = Ending.returned (.bool x30) ∧
            pif x30 (
              cl Try.prog 33 [.pointer x10] w6 fun e35 w7 => ∃ x34 : Bool, e35 = Ending.returned (.bool x34) ∧
              alc w7 [.int .i64 v20, .bool x34] 50 fun b37 w8 =>
              ∃ (x38 : Option Addr) (x38n x38c : Nat), ∃ w9 : World, (Builtin.append_ #[43, 43] 43 #[.slice v19 v19n v19c, .slice (some (⟨b37, 0, none⟩ : Addr)) 1 1]).run Try.prog w8 = .ok (.slice x38 x38n x38c) w9 ∧
              k25 ((x38, x38n, x38c), ()) w9) (
              k25 ((v19, v19n, v19c), ()) w6)) fun s26 w4 => match s26 with
          | ((v24, v24n, v24c), _) =>
          k21 ((v24, v24n, v24c), (IntKind.wrap .i64 (v20 + 1)), ()) w4) (
          R (.tuple #[.slice v19 v19n v19c, .int .i64 0]) w3)) ((none, 0, 0), 1, ()) w2))
def An22 : An := .seq (.leaf) (.seq (.leaf) (.seq (.seq (.leaf) (.cond (.seq (.leaf) (.leaf)) (.leaf))) (.seq (.seq (.leaf) (.cond (.seq (.leaf) (.leaf)) (.leaf))) (.seq (.leaf) (.seq (.seq (.leaf) (.blk (.loop [(8, .one (.slc)), (9, .one (.int .i64))] (.seq (.seq (.leaf) (.cond (.leaf) (.leaf))) (.seq (.join [(8, .one (.slc))] (.blk (.seq (.leaf) (.seq (.leaf) (.seq (.leaf) (.cond (.seq (.leaf) (.leaf)) (.leaf))))))) (.leaf)))))) (.seq (.leaf) (.leaf)))))))
theorem V22_eq (a0_0 : Int) (a0_1 : Int) (a0_2 : Int) (a0_3 : Nat) (a0_4 : Int) (a0_5 : Int) (a1 : Int) (w : World) (R : Value → World → Prop) : evF Try.prog Try.f22 An22 [.agg #[.int .i64 a0_0, .int .i64 a0_1, .int .i64 a0_2, .float .f64 a0_3, .int .i64 a0_4, .int .i64 a0_5], .int .i64 a1] w R = V22 a0_0 a0_1 a0_2 a0_3 a0_4 a0_5 a1 w R := by kernel_rfl
theorem V22_calls (a0_0 : Int) (a0_1 : Int) (a0_2 : Int) (a0_3 : Nat) (a0_4 : Int) (a0_5 : Int) (a1 : Int) (w : World) (R : Value → World → Prop) (h : V22 a0_0 a0_1 a0_2 a0_3 a0_4 a0_5 a1 w R) : Calls Try.prog 22 #[.agg #[.int .i64 a0_0, .int .i64 a0_1, .int .i64 a0_2, .float .f64 a0_3, .int .i64 a0_4, .int .i64 a0_5], .int .i64 a1] w fun e w' => ∃ v, e = .returned v ∧ R v w' :=
  calls_of_ev (args := [.agg #[.int .i64 a0_0, .int .i64 a0_1, .int .i64 a0_2, .float .f64 a0_3, .int .i64 a0_4, .int .i64 a0_5], .int .i64 a1]) Try.func22 (Nat.le_of_ble_eq_true (by kernel_rfl)) (by rw [V22_eq]; exact h)
theorem ok22 : fnOk Try.prog 22 = true := by kernel_rfl

/-! depot/depotlaw13.same -/
def V23 (a0 : Option Addr) (a0n : Nat) (a0c : Nat) (a1 : Option Addr) (a1n : Nat) (a1c : Nat) (w : World) (R : Value → World → Prop) : Prop :=
  pif ((a0n : Int) != (a1n : Int)) (
    R (.bool false) w) (
    lp (σ := Int × Unit) (fun s7 w1 k6 => match s7 with
      | (v5, _) =>
      pif (decide (v5 < (a0n : Int))) (
        ixA a0 a0n v5 2 fun p9 =>
        ldI .i64 (World.drew w1) (p9.add 0) fun x10 =>
        ldB (World.drew w1) (p9.add 1) fun x11 =>
        ixA a1 a1n v5 2 fun p12 =>
        ldI .i64 (World.drew w1) (p12.add 0) fun x13 =>
        ldB (World.drew w1) (p12.add 1) fun x14 =>
        eqV Try.prog .neq 50 (.agg #[.int .i64 x10, .bool x11]) (.agg #[.int .i64 x13, .bool x14]) fun q15 =>
        pif q15 (
          R (.bool false) (World.drew w1)) (
          k6 ((IntKind.wrap .i64 (v5 + 1)), ()) (World.drew w1))) (
        R (.bool true) w1)) (0, ()) w)
def An23 : An := .seq (.leaf) (.seq (.seq (.leaf) (.cond (.seq (.leaf) (.leaf)) (.leaf))) (.seq (.seq (.leaf) (.blk (.loop [(5, .one (.int .i64))] (.seq (.seq (.leaf) (.cond (.leaf) (.leaf))) (.seq (.blk (.seq (.draw [0, 0, 3, 7, 0, 0, 48, 112, 255]) (.cond (.seq (.leaf) (.leaf)) (.leaf)))) (.leaf)))))) (.seq (.leaf) (.leaf))))
theorem V23_eq (a0 : Option Addr) (a0n : Nat) (a0c : Nat) (a1 : Option Addr) (a1n : Nat) (a1c : Nat) (w : World) (R : Value → World → Prop) : evF Try.prog Try.f23 An23 [.slice a0 a0n a0c, .slice a1 a1n a1c] w R = V23 a0 a0n a0c a1 a1n a1c w R := by kernel_rfl
theorem V23_calls (a0 : Option Addr) (a0n : Nat) (a0c : Nat) (a1 : Option Addr) (a1n : Nat) (a1c : Nat) (w : World) (R : Value → World → Prop) (h : V23 a0 a0n a0c a1 a1n a1c w R) : Calls Try.prog 23 #[.slice a0 a0n a0c, .slice a1 a1n a1c] w fun e w' => ∃ v, e = .returned v ∧ R v w' :=
  calls_of_ev (args := [.slice a0 a0n a0c, .slice a1 a1n a1c]) Try.func23 (Nat.le_of_ble_eq_true (by kernel_rfl)) (by rw [V23_eq]; exact h)
theorem ok23 : fnOk Try.prog 23 = true := by kernel_rfl

end Go.Proofs.Ytkpoagdhekimpaa.T
