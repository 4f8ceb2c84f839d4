/- The conditions under which the functions printed here return, as propositions over typed values; each is the machine's own, by the generator's theorem. -/
import Derived.Test.YtkpoagdhekimpaaProg
import Derived.Test.YtkpoagdhekimpaaVcG
set_option linter.unusedVariables false
set_option maxRecDepth 100000
namespace Go.Proofs.Ytkpoagdhekimpaa.T
open Go Go.Proofs.Ytkpoagdhekimpaa.Vc
/-! depot/depotlaw13.PaceLuby -/
def V4 (a0 : Int) (w : World) (R : Value → World → Prop) : Prop :=
  cl Try.prog 15 [.int .i64 a0] w fun e4 w1 => ∃ x3 : Int, e4 = Ending.returned (.int .i64 x3) ∧
  cl Try.prog 16 [.int .i64 a0] w1 fun e6 w2 => ∃ x5 : Int, e6 = Ending.returned (.int .i64 x5) ∧
  R (.bool (x3 == x5)) w2
def An4 : An := .seq (.leaf) (.seq (.leaf) (.leaf))
theorem V4_eq (a0 : Int) (w : World) (R : Value → World → Prop) : evF Try.prog Try.f4 An4 [.int .i64 a0] w R = V4 a0 w R := by kernel_rfl
theorem V4_calls (a0 : Int) (w : World) (R : Value → World → Prop) (h : V4 a0 w R) : Calls Try.prog 4 #[.int .i64 a0] w fun e w' => ∃ v, e = .returned v ∧ R v w' :=
  calls_of_ev (args := [.int .i64 a0]) Try.func4 (Nat.le_of_ble_eq_true (by kernel_rfl)) (by rw [V4_eq]; exact h)
theorem ok4 : fnOk Try.prog 4 = true := by kernel_rfl

/-! depot/depotlaw13.PaceDoubles -/
def V5 (a0 : Int) (w : World) (R : Value → World → Prop) : Prop :=
  cl Try.prog 15 [.int .i64 a0] w fun e4 w1 => ∃ x3 : Int, e4 = Ending.returned (.int .i64 x3) ∧
  pif (decide (a0 < 1)) (
    gd (α := Int) (x3 == 0) (fun k7 =>
      cl Try.prog 15 [.int .i64 1] w1 fun e9 w2 => ∃ x8 : Int, e9 = Ending.returned (.int .i64 x8) ∧
      k7 x8 w2) 0 w1 fun x10 w3 =>
    R (.bool (cond (x3 == 0) (x10 == 1) false)) w3) (
    pif (cond (decide (x3 < 1)) true ((bits .and .i64 x3 (IntKind.wrap .i64 (x3 - 1))) != 0)) (
      R (.bool false) w1) (
      lp (σ := Int × Unit) (fun s16 w4 k15 => match s16 with
        | (v14, _) =>
        pif (decide (v14 < 62)) (
          0 ≤ v14 ∧
          pif (cond (a0 == (IntKind.wrap .i64 ((IntKind.wrap .i64 (2 * (IntKind.wrap .i64 ((IntKind.wrap .i64 (1 * 2 ^ (min (Int.toNat v14) (IntKind.bits .i64)))) - 1)))) + 1))) (x3 != (IntKind.wrap .i64 ((IntKind.wrap .i64 ((IntKind.wrap .i64 (1 * 2 ^ (min (Int.toNat v14) (IntKind.bits .i64)))) - 1)) + 1))) false) (
            R (.bool false) w4) (
            gd (α := Int) (decide (a0 ≤ (IntKind.wrap .i64 ((IntKind.wrap .i64 (1 * 2 ^ (min (Int.toNat v14) (IntKind.bits .i64)))) - 1)))) (fun k22 =>
              cl Try.prog 15 [.int .i64 (IntKind.wrap .i64 ((IntKind.wrap .i64 ((IntKind.wrap .i64 (1 * 2 ^ (min (Int.toNat v14) (IntKind.bits .i64)))) - 1)) + a0))] w4 fun e24 w5 => ∃ x23 : Int, e24 = Ending.returned (.int .i64 x23) ∧
              k22 x23 w5) 0 w4 fun x25 w6 =>
            pif (cond (decide (a0 ≤ (IntKind.wrap .i64 ((IntKind.wrap .i64 (1 * 2 ^ (min (Int.toNat v14) (IntKind.bits .i64)))) - 1)))) (x25 != x3) false) (
              R (.bool false) w6) (
              k15 ((IntKind.wrap .i64 (v14 + 1)), ()) w6))) (
          R (.bool true) w4)) (0, ()) w1))
def An5 : An := .seq (.leaf) (.seq (.leaf) (.seq (.seq (.leaf) (.cond (.seq (.leaf) (.leaf)) (.leaf))) (.seq (.seq (.leaf) (.cond (.seq (.leaf) (.leaf)) (.leaf))) (.seq (.seq (.leaf) (.blk (.loop [(4, .one (.int .i64))] (.seq (.seq (.leaf) (.cond (.leaf) (.leaf))) (.seq (.blk (.seq (.leaf) (.seq (.seq (.leaf) (.cond (.seq (.leaf) (.leaf)) (.leaf))) (.seq (.leaf) (.cond (.seq (.leaf) (.leaf)) (.leaf)))))) (.leaf)))))) (.seq (.leaf) (.leaf))))))
theorem V5_eq (a0 : Int) (w : World) (R : Value → World → Prop) : evF Try.prog Try.f5 An5 [.int .i64 a0] w R = V5 a0 w R := by kernel_rfl
theorem V5_calls (a0 : Int) (w : World) (R : Value → World → Prop) (h : V5 a0 w R) : Calls Try.prog 5 #[.int .i64 a0] w fun e w' => ∃ v, e = .returned v ∧ R v w' :=
  calls_of_ev (args := [.int .i64 a0]) Try.func5 (Nat.le_of_ble_eq_true (by kernel_rfl)) (by rw [V5_eq]; exact h)
theorem ok5 : fnOk Try.prog 5 = true := by kernel_rfl

/-! depot/pace.Luby -/
def V15 (a0 : Int) (w : World) (R : Value → World → Prop) : Prop :=
  pif (decide (a0 < 1)) (
    R (.int .i64 0) w) (
    lp (σ := Int × Unit) (fun s7 w1 k6 => match s7 with
      | (v5, _) =>
      cl Try.prog 26 [.int .u64 v5] w1 fun e10 w2 => ∃ x9 : Int, e10 = Ending.returned (.int .i64 x9) ∧
      0 ≤ x9 ∧
      pif (v5 == (IntKind.wrap .u64 ((IntKind.wrap .u64 (1 * 2 ^ (min (Int.toNat x9) (IntKind.bits .u64)))) - 1))) (
        0 ≤ (IntKind.wrap .i64 (x9 - 1)) ∧
        R (.int .i64 (IntKind.wrap .i64 (1 * 2 ^ (min (Int.toNat (IntKind.wrap .i64 (x9 - 1))) (IntKind.bits .i64))))) w2) (
        0 ≤ (IntKind.wrap .i64 (x9 - 1)) ∧
        k6 ((IntKind.wrap .u64 (v5 - (IntKind.wrap .u64 ((IntKind.wrap .u64 (1 * 2 ^ (min (Int.toNat (IntKind.wrap .i64 (x9 - 1))) (IntKind.bits .u64)))) - 1)))), ()) w2)) ((IntKind.wrap .u64 a0), ()) w)
def An15 : An := .seq (.leaf) (.seq (.seq (.leaf) (.cond (.seq (.leaf) (.leaf)) (.leaf))) (.seq (.leaf) (.blk (.loop [(3, .one (.int .u64))] (.blk (.seq (.leaf) (.seq (.seq (.leaf) (.cond (.seq (.leaf) (.leaf)) (.leaf))) (.leaf))))))))
theorem V15_eq (a0 : Int) (w : World) (R : Value → World → Prop) : evF Try.prog Try.f15 An15 [.int .i64 a0] w R = V15 a0 w R := by kernel_rfl
theorem V15_calls (a0 : Int) (w : World) (R : Value → World → Prop) (h : V15 a0 w R) : Calls Try.prog 15 #[.int .i64 a0] w fun e w' => ∃ v, e = .returned v ∧ R v w' :=
  calls_of_ev (args := [.int .i64 a0]) Try.func15 (Nat.le_of_ble_eq_true (by kernel_rfl)) (by rw [V15_eq]; exact h)
theorem ok15 : fnOk Try.prog 15 = true := by kernel_rfl

/-! depot/depotref13.Luby -/
def V16 (a0 : Int) (w : World) (R : Value → World → Prop) : Prop :=
  pif (decide (a0 < 1)) (
    R (.int .i64 0) w) (
    lp (σ := Int × Unit) (fun s6 w1 k5 => match s6 with
      | (v4, _) =>
      lp (σ := Int × Unit) (fun s10 w2 k9 => match s10 with
        | (v8, _) =>
        pif (decide (v8 ≤ (IntKind.wrap .i64 (v4 - v8)))) (
          k9 ((IntKind.wrap .i64 (2 * v8)), ()) w2) (
          pif (v4 == (IntKind.wrap .i64 ((IntKind.wrap .i64 (v8 - 1)) + v8))) (
            R (.int .i64 v8) w2) (
            k5 ((IntKind.wrap .i64 ((IntKind.wrap .i64 (v4 - v8)) + 1)), ()) w2))) (1, ()) w1) (a0, ()) w)
def An16 : An := .seq (.leaf) (.seq (.seq (.leaf) (.cond (.seq (.leaf) (.leaf)) (.leaf))) (.blk (.loop [(0, .one (.int .i64))] (.blk (.seq (.leaf) (.seq (.blk (.loop [(3, .one (.int .i64))] (.seq (.seq (.leaf) (.cond (.leaf) (.leaf))) (.blk (.leaf))))) (.seq (.seq (.leaf) (.cond (.seq (.leaf) (.leaf)) (.leaf))) (.leaf))))))))
theorem V16_eq (a0 : Int) (w : World) (R : Value → World → Prop) : evF Try.prog Try.f16 An16 [.int .i64 a0] w R = V16 a0 w R := by kernel_rfl
theorem V16_calls (a0 : Int) (w : World) (R : Value → World → Prop) (h : V16 a0 w R) : Calls Try.prog 16 #[.int .i64 a0] w fun e w' => ∃ v, e = .returned v ∧ R v w' :=
  calls_of_ev (args := [.int .i64 a0]) Try.func16 (Nat.le_of_ble_eq_true (by kernel_rfl)) (by rw [V16_eq]; exact h)
theorem ok16 : fnOk Try.prog 16 = true := by kernel_rfl

/-! math/bits.Len64 -/
def V26 (a0 : Int) (w : World) (R : Value → World → Prop) : Prop :=
  jn (σ := Int × Int × Unit) (fun k4 =>
    pif (decide (a0 ≥ 4294967296)) (
      k4 ((Int.fdiv a0 (2 ^ (min (Int.toNat 32) (IntKind.bits .u64)))), 32, ()) w) (
      k4 (a0, 0, ()) w)) fun s5 w1 => match s5 with
  | (v2, v3, _) =>
  jn (σ := Int × Int × Unit) (fun k11 =>
    pif (decide (v2 ≥ 65536)) (
      k11 ((Int.fdiv v2 (2 ^ (min (Int.toNat 16) (IntKind.bits .u64)))), (IntKind.wrap .i64 (v3 + 16)), ()) w1) (
      k11 (v2, v3, ()) w1)) fun s12 w2 => match s12 with
  | (v9, v10, _) =>
  jn (σ := Int × Int × Unit) (fun k18 =>
    pif (decide (v9 ≥ 256)) (
      k18 ((Int.fdiv v9 (2 ^ (min (Int.toNat 8) (IntKind.bits .u64)))), (IntKind.wrap .i64 (v10 + 8)), ()) w2) (
      k18 (v9, v10, ()) w2)) fun s19 w3 => match s19 with
  | (v16, v17, _) =>
  0 ≤ (IntKind.wrap .u8 v16) ∧ (IntKind.wrap .u8 v16) < ((⟨#[0, 1, 2, 2, 3, 3, 3, 3, 4, 4, 4, 4, 4, 4, 4, 4, 5, 5, 5, 5, 5, 5, 5, 5, 5, 5, 5, 5, 5, 5, 5, 5, 6, 6, 6, 6, 6, 6, 6, 6, 6, 6, 6, 6, 6, 6, 6, 6, 6, 6, 6, 6, 6, 6, 6, 6, 6, 6, 6, 6, 6, 6, 6, 6, 7, 7, 7, 7, 7, 7, 7, 7, 7, 7, 7, 7, 7, 7, 7, 7, 7, 7, 7, 7, 7, 7, 7, 7, 7, 7, 7, 7, 7, 7, 7, 7, 7, 7, 7, 7, 7, 7, 7, 7, 7, 7, 7, 7, 7, 7, 7, 7, 7, 7, 7, 7, 7, 7, 7, 7, 7, 7, 7, 7, 7, 7, 7, 7, 8, 8, 8, 8, 8, 8, 8, 8, 8, 8, 8, 8, 8, 8, 8, 8, 8, 8, 8, 8, 8, 8, 8, 8, 8, 8, 8, 8, 8, 8, 8, 8, 8, 8, 8, 8, 8, 8, 8, 8, 8, 8, 8, 8, 8, 8, 8, 8, 8, 8, 8, 8, 8, 8, 8, 8, 8, 8, 8, 8, 8, 8, 8, 8, 8, 8, 8, 8, 8, 8, 8, 8, 8, 8, 8, 8, 8, 8, 8, 8, 8, 8, 8, 8, 8, 8, 8, 8, 8, 8, 8, 8, 8, 8, 8, 8, 8, 8, 8, 8, 8, 8, 8, 8, 8, 8, 8, 8, 8, 8, 8, 8, 8, 8, 8, 8, 8, 8, 8, 8, 8, 8, 8, 8, 8, 8, 8, 8]⟩ : ByteArray).size : Int) ∧
  R (.int .i64 (IntKind.wrap .i64 (v17 + (IntKind.wrap .i64 (byteAt (⟨#[0, 1, 2, 2, 3, 3, 3, 3, 4, 4, 4, 4, 4, 4, 4, 4, 5, 5, 5, 5, 5, 5, 5, 5, 5, 5, 5, 5, 5, 5, 5, 5, 6, 6, 6, 6, 6, 6, 6, 6, 6, 6, 6, 6, 6, 6, 6, 6, 6, 6, 6, 6, 6, 6, 6, 6, 6, 6, 6, 6, 6, 6, 6, 6, 7, 7, 7, 7, 7, 7, 7, 7, 7, 7, 7, 7, 7, 7, 7, 7, 7, 7, 7, 7, 7, 7, 7, 7, 7, 7, 7, 7, 7, 7, 7, 7, 7, 7, 7, 7, 7, 7, 7, 7, 7, 7, 7, 7, 7, 7, 7, 7, 7, 7, 7, 7, 7, 7, 7, 7, 7, 7, 7, 7, 7, 7, 7, 7, 8, 8, 8, 8, 8, 8, 8, 8, 8, 8, 8, 8, 8, 8, 8, 8, 8, 8, 8, 8, 8, 8, 8, 8, 8, 8, 8, 8, 8, 8, 8, 8, 8, 8, 8, 8, 8, 8, 8, 8, 8, 8, 8, 8, 8, 8, 8, 8, 8, 8, 8, 8, 8, 8, 8, 8, 8, 8, 8, 8, 8, 8, 8, 8, 8, 8, 8, 8, 8, 8, 8, 8, 8, 8, 8, 8, 8, 8, 8, 8, 8, 8, 8, 8, 8, 8, 8, 8, 8, 8, 8, 8, 8, 8, 8, 8, 8, 8, 8, 8, 8, 8, 8, 8, 8, 8, 8, 8, 8, 8, 8, 8, 8, 8, 8, 8, 8, 8, 8, 8, 8, 8, 8, 8, 8, 8, 8, 8]⟩ : ByteArray) (IntKind.wrap .u8 v16)))))) w3
def An26 : An := .seq (.leaf) (.seq (.join [(0, .one (.int .u64)), (2, .one (.int .i64))] (.seq (.leaf) (.cond (.seq (.leaf) (.leaf)) (.leaf)))) (.seq (.join [(0, .one (.int .u64)), (2, .one (.int .i64))] (.seq (.leaf) (.cond (.seq (.leaf) (.leaf)) (.leaf)))) (.seq (.join [(0, .one (.int .u64)), (2, .one (.int .i64))] (.seq (.leaf) (.cond (.seq (.leaf) (.leaf)) (.leaf)))) (.seq (.leaf) (.leaf)))))
theorem V26_eq (a0 : Int) (w : World) (R : Value → World → Prop) : evF Try.prog Try.f26 An26 [.int .u64 a0] w R = V26 a0 w R := by kernel_rfl
theorem V26_calls (a0 : Int) (w : World) (R : Value → World → Prop) (h : V26 a0 w R) : Calls Try.prog 26 #[.int .u64 a0] w fun e w' => ∃ v, e = .returned v ∧ R v w' :=
  calls_of_ev (args := [.int .u64 a0]) Try.func26 (Nat.le_of_ble_eq_true (by kernel_rfl)) (by rw [V26_eq]; exact h)
theorem ok26 : fnOk Try.prog 26 = true := by kernel_rfl

end Go.Proofs.Ytkpoagdhekimpaa.T
