/- The conditions under which the functions printed here return, as propositions over typed values; each is the machine's own, by the generator's theorem. -/
import Derived.Test.YtkpoagdhekimpaaProg
import Derived.Test.YtkpoagdhekimpaaVcG
set_option linter.unusedVariables false
set_option maxRecDepth 100000
namespace Go.Proofs.Ytkpoagdhekimpaa.T
open Go Go.Proofs.Ytkpoagdhekimpaa.Vc
/-! depot/depotlaw13.PaceFormed -/
def V3 (a0_0 : Int) (a0_1 : Int) (a0_2 : Int) (a0_3 : Nat) (a0_4 : Int) (a0_5 : Int) (w : World) (R : Value → World → Prop) : Prop :=
  alc w [.int .i64 a0_0, .int .i64 a0_1, .int .i64 a0_2, .float .f64 a0_3, .int .i64 a0_4, .int .i64 a0_5] 24 fun b2 w1 =>
  ldI .i64 (World.drew w1) ((⟨b2, 0, none⟩ : Addr).add 0) fun x3 =>
  ldI .i64 (World.drew w1) ((⟨b2, 0, none⟩ : Addr).add 1) fun x4 =>
  ldI .i64 (World.drew w1) ((⟨b2, 0, none⟩ : Addr).add 2) fun x5 =>
  ldF .f64 (World.drew w1) ((⟨b2, 0, none⟩ : Addr).add 3) fun x6 =>
  ldI .i64 (World.drew w1) ((⟨b2, 0, none⟩ : Addr).add 4) fun x7 =>
  ldI .i64 (World.drew w1) ((⟨b2, 0, none⟩ : Addr).add 5) fun x8 =>
  ldI .i64 (World.drew w1) ((⟨b2, 0, none⟩ : Addr).add 0) fun x9 =>
  ldI .i64 (World.drew w1) ((⟨b2, 0, none⟩ : Addr).add 1) fun x10 =>
  ldI .i64 (World.drew w1) ((⟨b2, 0, none⟩ : Addr).add 2) fun x11 =>
  ldF .f64 (World.drew w1) ((⟨b2, 0, none⟩ : Addr).add 3) fun x12 =>
  ldI .i64 (World.drew w1) ((⟨b2, 0, none⟩ : Addr).add 4) fun x13 =>
  ldI .i64 (World.drew w1) ((⟨b2, 0, none⟩ : Addr).add 5) fun x14 =>
  cl Try.prog 13 [.agg #[.int .i64 x3, .int .i64 x4, .int .i64 x5, .float .f64 x6, .int .i64 x7, .int .i64 x8]] (World.drew w1) fun e16 w2 => ∃ x15 : Bool, e16 = Ending.returned (.bool x15) ∧
  (
    ldI .i64 w2 ((⟨b2, 0, none⟩ : Addr).add 0) fun x17 =>
    ldI .i64 w2 ((⟨b2, 0, none⟩ : Addr).add 1) fun x18 =>
    ldI .i64 w2 ((⟨b2, 0, none⟩ : Addr).add 2) fun x19 =>
    ldF .f64 w2 ((⟨b2, 0, none⟩ : Addr).add 3) fun x20 =>
    ldI .i64 w2 ((⟨b2, 0, none⟩ : Addr).add 4) fun x21 =>
    ldI .i64 w2 ((⟨b2, 0, none⟩ : Addr).add 5) fun x22 =>
    ((.agg #[.int .i64 x17, .int .i64 x18, .int .i64 x19, .float .f64 x20, .int .i64 x21, .int .i64 x22] : Value) = .agg #[.int .i64 x9, .int .i64 x10, .int .i64 x11, .float .f64 x12, .int .i64 x13, .int .i64 x14])) ∧
  cl Try.prog 14 [.agg #[.int .i64 x9, .int .i64 x10, .int .i64 x11, .float .f64 x12, .int .i64 x13, .int .i64 x14]] w2 fun e24 w3 => ∃ x23 : Bool, e24 = Ending.returned (.bool x23) ∧
  R (.bool (x15 == x23)) w3
def An3 : An := .seq (.leaf) (.seq (.draw [0, 1, 0, 7, 15, 31]) (.leaf))
theorem V3_eq (a0_0 : Int) (a0_1 : Int) (a0_2 : Int) (a0_3 : Nat) (a0_4 : Int) (a0_5 : Int) (w : World) (R : Value → World → Prop) : evF Try.prog Try.f3 An3 [.agg #[.int .i64 a0_0, .int .i64 a0_1, .int .i64 a0_2, .float .f64 a0_3, .int .i64 a0_4, .int .i64 a0_5]] w R = V3 a0_0 a0_1 a0_2 a0_3 a0_4 a0_5 w R := by kernel_rfl
theorem V3_calls (a0_0 : Int) (a0_1 : Int) (a0_2 : Int) (a0_3 : Nat) (a0_4 : Int) (a0_5 : Int) (w : World) (R : Value → World → Prop) (h : V3 a0_0 a0_1 a0_2 a0_3 a0_4 a0_5 w R) : Calls Try.prog 3 #[.agg #[.int .i64 a0_0, .int .i64 a0_1, .int .i64 a0_2, .float .f64 a0_3, .int .i64 a0_4, .int .i64 a0_5]] w fun e w' => ∃ v, e = .returned v ∧ R v w' :=
  calls_of_ev (args := [.agg #[.int .i64 a0_0, .int .i64 a0_1, .int .i64 a0_2, .float .f64 a0_3, .int .i64 a0_4, .int .i64 a0_5]]) Try.func3 (Nat.le_of_ble_eq_true (by kernel_rfl)) (by rw [V3_eq]; exact h)
theorem ok3 : fnOk Try.prog 3 = true := by kernel_rfl

/-! depot/pace.Formed -/
def V13 (a0_0 : Int) (a0_1 : Int) (a0_2 : Int) (a0_3 : Nat) (a0_4 : Int) (a0_5 : Int) (w : World) (R : Value → World → Prop) : Prop :=
  alc w [.int .i64 a0_0, .int .i64 a0_1, .int .i64 a0_2, .float .f64 a0_3, .int .i64 a0_4, .int .i64 a0_5] 24 fun b2 w1 =>
  ldI .i64 w1 ((⟨b2, 0, none⟩ : Addr).add 0) fun x4 =>
  ldI .i64 w1 ((⟨b2, 0, none⟩ : Addr).add 1) fun x5 =>
  ldI .i64 w1 ((⟨b2, 0, none⟩ : Addr).add 2) fun x6 =>
  lp (σ := Int × Unit) (fun s9 w2 k8 => match s9 with
    | (v7, _) =>
    pif (decide (v7 < 3)) (
      0 ≤ v7 ∧ v7 < ((3 : Nat) : Int) ∧ ∃ x12 : Int, ([.int .i64 x4, .int .i64 x5, .int .i64 x6] : List Value)[(Int.toNat v7)]? = some (.int .i64 x12) ∧
      pif (cond (decide (x12 < 1)) true (decide (x12 > 1048576))) (
        R (.bool false) w2) (
        k8 ((IntKind.wrap .i64 (v7 + 1)), ()) w2)) (
      ldF .f64 w2 ((⟨b2, 0, none⟩ : Addr).add 3) fun x17 =>
      gd (α := Nat) ((FloatKind.format .f64).order x17 4602678819172646912 == some .gt || (FloatKind.format .f64).order x17 4602678819172646912 == some .eq) (fun k18 =>
        ldF .f64 w2 ((⟨b2, 0, none⟩ : Addr).add 3) fun x19 =>
        k18 x19 w2) 0 w2 fun x20 w3 =>
      gd (α := Int) (cond ((FloatKind.format .f64).order x17 4602678819172646912 == some .gt || (FloatKind.format .f64).order x17 4602678819172646912 == some .eq) ((FloatKind.format .f64).order x20 4607182418800017408 == some .lt || (FloatKind.format .f64).order x20 4607182418800017408 == some .eq) false) (fun k21 =>
        ldI .i64 w3 ((⟨b2, 0, none⟩ : Addr).add 4) fun x22 =>
        k21 x22 w3) 0 w3 fun x23 w4 =>
      gd (α := Int) (cond (cond ((FloatKind.format .f64).order x17 4602678819172646912 == some .gt || (FloatKind.format .f64).order x17 4602678819172646912 == some .eq) ((FloatKind.format .f64).order x20 4607182418800017408 == some .lt || (FloatKind.format .f64).order x20 4607182418800017408 == some .eq) false) (decide (x23 ≥ 1)) false) (fun k24 =>
        ldI .i64 w4 ((⟨b2, 0, none⟩ : Addr).add 4) fun x25 =>
        k24 x25 w4) 0 w4 fun x26 w5 =>
      R (.bool (cond (cond (cond ((FloatKind.format .f64).order x17 4602678819172646912 == some .gt || (FloatKind.format .f64).order x17 4602678819172646912 == some .eq) ((FloatKind.format .f64).order x20 4607182418800017408 == some .lt || (FloatKind.format .f64).order x20 4607182418800017408 == some .eq) false) (decide (x23 ≥ 1)) false) (decide (x26 ≤ 3)) false)) w5)) (0, ()) w1
def An13 : An := .seq (.leaf) (.seq (.seq (.leaf) (.blk (.loop [(12, .one (.int .i64))] (.seq (.leaf) (.seq (.cond (.leaf) (.leaf)) (.seq (.blk (.seq (.leaf) (.seq (.leaf) (.cond (.seq (.leaf) (.leaf)) (.leaf))))) (.leaf))))))) (.seq (.leaf) (.leaf)))
theorem V13_eq (a0_0 : Int) (a0_1 : Int) (a0_2 : Int) (a0_3 : Nat) (a0_4 : Int) (a0_5 : Int) (w : World) (R : Value → World → Prop) : evF Try.prog Try.f13 An13 [.agg #[.int .i64 a0_0, .int .i64 a0_1, .int .i64 a0_2, .float .f64 a0_3, .int .i64 a0_4, .int .i64 a0_5]] w R = V13 a0_0 a0_1 a0_2 a0_3 a0_4 a0_5 w R := by kernel_rfl
theorem V13_calls (a0_0 : Int) (a0_1 : Int) (a0_2 : Int) (a0_3 : Nat) (a0_4 : Int) (a0_5 : Int) (w : World) (R : Value → World → Prop) (h : V13 a0_0 a0_1 a0_2 a0_3 a0_4 a0_5 w R) : Calls Try.prog 13 #[.agg #[.int .i64 a0_0, .int .i64 a0_1, .int .i64 a0_2, .float .f64 a0_3, .int .i64 a0_4, .int .i64 a0_5]] w fun e w' => ∃ v, e = .returned v ∧ R v w' :=
  calls_of_ev (args := [.agg #[.int .i64 a0_0, .int .i64 a0_1, .int .i64 a0_2, .float .f64 a0_3, .int .i64 a0_4, .int .i64 a0_5]]) Try.func13 (Nat.le_of_ble_eq_true (by kernel_rfl)) (by rw [V13_eq]; exact h)
theorem ok13 : fnOk Try.prog 13 = true := by kernel_rfl

/-! depot/depotref13.Formed -/
def V14 (a0_0 : Int) (a0_1 : Int) (a0_2 : Int) (a0_3 : Nat) (a0_4 : Int) (a0_5 : Int) (w : World) (R : Value → World → Prop) : Prop :=
  alc w [.int .i64 a0_0, .int .i64 a0_1, .int .i64 a0_2, .float .f64 a0_3, .int .i64 a0_4, .int .i64 a0_5] 24 fun b2 w1 =>
  ldI .i64 w1 ((⟨b2, 0, none⟩ : Addr).add 0) fun x4 =>
  gd (α := Int) (!(decide (x4 < 1))) (fun k5 =>
    ldI .i64 w1 ((⟨b2, 0, none⟩ : Addr).add 0) fun x6 =>
    k5 x6 w1) 0 w1 fun x7 w2 =>
  gd (α := Int) (!(cond (decide (x4 < 1)) true (decide (x7 > 1048576)))) (fun k8 =>
    ldI .i64 w2 ((⟨b2, 0, none⟩ : Addr).add 1) fun x9 =>
    k8 x9 w2) 0 w2 fun x10 w3 =>
  gd (α := Int) (!(cond (cond (decide (x4 < 1)) true (decide (x7 > 1048576))) true (decide (x10 < 1)))) (fun k11 =>
    ldI .i64 w3 ((⟨b2, 0, none⟩ : Addr).add 1) fun x12 =>
    k11 x12 w3) 0 w3 fun x13 w4 =>
  gd (α := Int) (!(cond (cond (cond (decide (x4 < 1)) true (decide (x7 > 1048576))) true (decide (x10 < 1))) true (decide (x13 > 1048576)))) (fun k14 =>
    ldI .i64 w4 ((⟨b2, 0, none⟩ : Addr).add 2) fun x15 =>
    k14 x15 w4) 0 w4 fun x16 w5 =>
  gd (α := Int) (!(cond (cond (cond (cond (decide (x4 < 1)) true (decide (x7 > 1048576))) true (decide (x10 < 1))) true (decide (x13 > 1048576))) true (decide (x16 < 1)))) (fun k17 =>
    ldI .i64 w5 ((⟨b2, 0, none⟩ : Addr).add 2) fun x18 =>
    k17 x18 w5) 0 w5 fun x19 w6 =>
  pif (cond (cond (cond (cond (cond (decide (x4 < 1)) true (decide (x7 > 1048576))) true (decide (x10 < 1))) true (decide (x13 > 1048576))) true (decide (x16 < 1))) true (decide (x19 > 1048576))) (
    R (.bool false) w6) (
    ldF .f64 w6 ((⟨b2, 0, none⟩ : Addr).add 3) fun x22 =>
    gd (α := Nat) ((FloatKind.format .f64).order x22 4602678819172646912 == some .gt || (FloatKind.format .f64).order x22 4602678819172646912 == some .eq) (fun k23 =>
      ldF .f64 w6 ((⟨b2, 0, none⟩ : Addr).add 3) fun x24 =>
      k23 x24 w6) 0 w6 fun x25 w7 =>
    pif (!(cond ((FloatKind.format .f64).order x22 4602678819172646912 == some .gt || (FloatKind.format .f64).order x22 4602678819172646912 == some .eq) ((FloatKind.format .f64).order x25 4607182418800017408 == some .lt || (FloatKind.format .f64).order x25 4607182418800017408 == some .eq) false)) (
      R (.bool false) w7) (
      ldI .i64 w7 ((⟨b2, 0, none⟩ : Addr).add 4) fun x28 =>
      gd (α := Int) (!(x28 == 1)) (fun k29 =>
        ldI .i64 w7 ((⟨b2, 0, none⟩ : Addr).add 4) fun x30 =>
        k29 x30 w7) 0 w7 fun x31 w8 =>
      gd (α := Int) (!(cond (x28 == 1) true (x31 == 2))) (fun k32 =>
        ldI .i64 w8 ((⟨b2, 0, none⟩ : Addr).add 4) fun x33 =>
        k32 x33 w8) 0 w8 fun x34 w9 =>
      R (.bool (cond (cond (x28 == 1) true (x31 == 2)) true (x34 == 3))) w9))
def An14 : An := .seq (.leaf) (.seq (.seq (.leaf) (.cond (.seq (.leaf) (.leaf)) (.leaf))) (.seq (.seq (.leaf) (.cond (.seq (.leaf) (.leaf)) (.leaf))) (.seq (.leaf) (.leaf))))
theorem V14_eq (a0_0 : Int) (a0_1 : Int) (a0_2 : Int) (a0_3 : Nat) (a0_4 : Int) (a0_5 : Int) (w : World) (R : Value → World → Prop) : evF Try.prog Try.f14 An14 [.agg #[.int .i64 a0_0, .int .i64 a0_1, .int .i64 a0_2, .float .f64 a0_3, .int .i64 a0_4, .int .i64 a0_5]] w R = V14 a0_0 a0_1 a0_2 a0_3 a0_4 a0_5 w R := by kernel_rfl
theorem V14_calls (a0_0 : Int) (a0_1 : Int) (a0_2 : Int) (a0_3 : Nat) (a0_4 : Int) (a0_5 : Int) (w : World) (R : Value → World → Prop) (h : V14 a0_0 a0_1 a0_2 a0_3 a0_4 a0_5 w R) : Calls Try.prog 14 #[.agg #[.int .i64 a0_0, .int .i64 a0_1, .int .i64 a0_2, .float .f64 a0_3, .int .i64 a0_4, .int .i64 a0_5]] w fun e w' => ∃ v, e = .returned v ∧ R v w' :=
  calls_of_ev (args := [.agg #[.int .i64 a0_0, .int .i64 a0_1, .int .i64 a0_2, .float .f64 a0_3, .int .i64 a0_4, .int .i64 a0_5]]) Try.func14 (Nat.le_of_ble_eq_true (by kernel_rfl)) (by rw [V14_eq]; exact h)
theorem ok14 : fnOk Try.prog 14 = true := by kernel_rfl

end Go.Proofs.Ytkpoagdhekimpaa.T
