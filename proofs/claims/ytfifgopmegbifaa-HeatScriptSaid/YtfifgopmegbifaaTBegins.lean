/- The conditions under which the functions printed here return, as propositions over typed values; each is the machine's own, by the generator's theorem. -/
import Derived.Test.YtfifgopmegbifaaProg
import Derived.Test.YtfifgopmegbifaaVcG
set_option linter.unusedVariables false
set_option maxRecDepth 100000
namespace Go.Proofs.Ytfifgopmegbifaa.T
open Go Go.Proofs.Ytfifgopmegbifaa.Vc
/-! depot/depotlaw14.HeatBegins -/
def V3 (a0 : Int) (a1 : Nat) (w : World) (R : Value → World → Prop) : Prop :=
  cl Try.prog 9 [.int .i64 2, .float .f64 4604930618986332160] w fun e5 w1 => ∃ x3 : Option Addr, ∃ x4 : Int, e5 = Ending.returned (.tuple #[.pointer x3, .int .i64 x4]) ∧
  gd (α := Bool) (!(cond (Option.isNone x3) true (x4 != 0))) (fun k7 =>
    cl Try.prog 10 [.pointer x3, .int .i64 1] w1 fun e9 w2 => ∃ x8 : Bool, e9 = Ending.returned (.bool x8) ∧
    k7 x8 w2) false w1 fun x10 w3 =>
  gd (α := Bool) (!(cond (cond (Option.isNone x3) true (x4 != 0)) true (!x10))) (fun k11 =>
    cl Try.prog 10 [.pointer x3, .int .i64 3] w3 fun e13 w4 => ∃ x12 : Bool, e13 = Ending.returned (.bool x12) ∧
    k11 x12 w4) false w3 fun x14 w5 =>
  pif (cond (cond (cond (Option.isNone x3) true (x4 != 0)) true (!x10)) true x14) (
    R (.bool false) w5) (
    cl Try.prog 9 [.int .i64 a0, .float .f64 a1] w5 fun e19 w6 => ∃ x17 : Option Addr, ∃ x18 : Int, e19 = Ending.returned (.tuple #[.pointer x17, .int .i64 x18]) ∧
    pif (cond (cond (decide (a0 < 0)) true (decide (a0 > 1048576))) true (!(cond ((FloatKind.format .f64).order a1 4602678819172646912 == some .gt || (FloatKind.format .f64).order a1 4602678819172646912 == some .eq) ((FloatKind.format .f64).order a1 4607182418800017408 == some .lt || (FloatKind.format .f64).order a1 4607182418800017408 == some .eq) false))) (
      R (.bool (cond (Option.isNone x17) (x18 == 2) false)) w6) (
      gd (α := Bool) (!(cond (Option.isNone x17) true (x18 != 0))) (fun k23 =>
        cl Try.prog 10 [.pointer x17, .int .i64 0] w6 fun e25 w7 => ∃ x24 : Bool, e25 = Ending.returned (.bool x24) ∧
        k23 x24 w7) false w6 fun x26 w8 =>
      gd (α := Bool) (!(cond (cond (Option.isNone x17) true (x18 != 0)) true x26)) (fun k27 =>
        cl Try.prog 10 [.pointer x17, .int .i64 (IntKind.wrap .i64 (a0 + 1))] w8 fun e29 w9 => ∃ x28 : Bool, e29 = Ending.returned (.bool x28) ∧
        k27 x28 w9) false w8 fun x30 w10 =>
      pif (cond (cond (cond (Option.isNone x17) true (x18 != 0)) true x26) true x30) (
        R (.bool false) w10) (
        cl Try.prog 11 [.pointer x17, .int .i64 a0] w10 fun e35 w11 => ∃ x33 : Nat, ∃ x34 : Int, e35 = Ending.returned (.tuple #[.float .f64 x33, .int .i64 x34]) ∧
        gd (α := Bool) ((!(cond (a0 == 0) (x34 == 2) false)) && (cond (cond (decide (a0 > 0)) (x34 == 0) false) ((FloatKind.format .f64).order x33 0 == some .eq) false)) (fun k37 =>
          cl Try.prog 10 [.pointer x17, .int .i64 1] w11 fun e39 w12 => ∃ x38 : Bool, e39 = Ending.returned (.bool x38) ∧
          k37 x38 w12) false w11 fun x40 w13 =>
        gd (α := Bool) ((!(cond (a0 == 0) (x34 == 2) false)) && (cond (cond (cond (decide (a0 > 0)) (x34 == 0) false) ((FloatKind.format .f64).order x33 0 == some .eq) false) x40 false)) (fun k41 =>
          cl Try.prog 10 [.pointer x17, .int .i64 a0] w13 fun e43 w14 => ∃ x42 : Bool, e43 = Ending.returned (.bool x42) ∧
          k41 x42 w14) false w13 fun x44 w15 =>
        R (.bool (cond (cond (a0 == 0) (x34 == 2) false) true (cond (cond (cond (cond (decide (a0 > 0)) (x34 == 0) false) ((FloatKind.format .f64).order x33 0 == some .eq) false) x40 false) x44 false))) w15)))
def An3 : An := .seq (.leaf) (.seq (.leaf) (.seq (.seq (.leaf) (.cond (.seq (.leaf) (.leaf)) (.leaf))) (.seq (.leaf) (.seq (.seq (.leaf) (.cond (.seq (.leaf) (.leaf)) (.leaf))) (.seq (.seq (.leaf) (.cond (.seq (.leaf) (.leaf)) (.leaf))) (.seq (.leaf) (.seq (.leaf) (.leaf))))))))
theorem V3_eq (a0 : Int) (a1 : Nat) (w : World) (R : Value → World → Prop) : evF Try.prog Try.f3 An3 [.int .i64 a0, .float .f64 a1] w R = V3 a0 a1 w R := by kernel_rfl
theorem V3_calls (a0 : Int) (a1 : Nat) (w : World) (R : Value → World → Prop) (h : V3 a0 a1 w R) : Calls Try.prog 3 #[.int .i64 a0, .float .f64 a1] w fun e w' => ∃ v, e = .returned v ∧ R v w' :=
  calls_of_ev (args := [.int .i64 a0, .float .f64 a1]) Try.func3 (Nat.le_of_ble_eq_true (by kernel_rfl)) (by rw [V3_eq]; exact h)
theorem ok3 : fnOk Try.prog 3 = true := by kernel_rfl

/-! depot/heat.New -/
def V9 (a0 : Int) (a1 : Nat) (w : World) (R : Value → World → Prop) : Prop :=
  pif (cond (cond (decide (a0 < 0)) true (decide (a0 > 1048576))) true (!(cond ((FloatKind.format .f64).order a1 4602678819172646912 == some .gt || (FloatKind.format .f64).order a1 4602678819172646912 == some .eq) ((FloatKind.format .f64).order a1 4607182418800017408 == some .lt || (FloatKind.format .f64).order a1 4607182418800017408 == some .eq) false))) (
    R (.tuple #[.pointer none, .int .i64 2]) w) (
    ∃ (x5 : Option Addr) (x5n x5c : Nat), ∃ w1 : World, (Instr.makeSlice 64 (.int .i64 a0) (.int .i64 a0)).run Try.prog w = .ok (.slice x5 x5n x5c) w1 ∧
    alc w1 [.slice x5 x5n x5c, .float .f64 4607182418800017408, .float .f64 a1, .slice none 0 0, .slice none 0 0, .nilFunc] 69 fun b6 w2 =>
    (
      ∃ (x7 : Option Addr) (x7n x7c : Nat), ∃ w3 : World, (Instr.makeSlice 33 (.int .i64 a0) (.int .i64 a0)).run Try.prog (World.drew w2) = .ok (.slice x7 x7n x7c) w3 ∧
      ∃ (x8 : Option Addr) (x8n x8c : Nat), ∃ w4 : World, (Instr.makeSlice 33 (.int .i64 a0) (.int .i64 a0)).run Try.prog w3 = .ok (.slice x8 x8n x8c) w4 ∧
      st w4 (((⟨b6, 0, none⟩ : Addr).add 3).add 0) (.slice x7 x7n x7c) fun w5 =>
      st w5 (((⟨b6, 0, none⟩ : Addr).add 3).add 1) (.slice x8 x8n x8c) fun w6 =>
      st w6 (((⟨b6, 0, none⟩ : Addr).add 3).add 2) (.func (.func 27) #[.pointer (some (⟨b6, 0, none⟩ : Addr))] #[]) fun w7 =>
      lp (σ := Int × Unit) (fun s12 w8 k11 => match s12 with
        | (v10, _) =>
        pif (decide (v10 < a0)) (
          cl Try.prog 28 [.pointer (some ((⟨b6, 0, none⟩ : Addr).add 3)), .int .i64 v10, .int .i64 (IntKind.wrap .i64 (v10 + 1))] w8 fun e16 w9 => e16 = Ending.returned (.tuple #[]) ∧
          k11 ((IntKind.wrap .i64 (v10 + 1)), ()) w9) (
          R (.tuple #[.pointer (some (⟨b6, 0, none⟩ : Addr)), .int .i64 0]) w8)) (0, ()) w7) ∧
    (
      ∃ (x19 : Option Addr) (x19n x19c : Nat), ∃ w10 : World, (Instr.makeSlice 33 (.int .i64 a0) (.int .i64 a0)).run Try.prog (World.drew w2) = .ok (.slice x19 x19n x19c) w10 ∧
      ∃ (x20 : Option Addr) (x20n x20c : Nat), ∃ w11 : World, (Instr.makeSlice 33 (.int .i64 a0) (.int .i64 a0)).run Try.prog w10 = .ok (.slice x20 x20n x20c) w11 ∧
      st w11 (((⟨b6, 0, none⟩ : Addr).add 3).add 0) (.slice x20 x20n x20c) fun w12 =>
      st w12 (((⟨b6, 0, none⟩ : Addr).add 3).add 1) (.slice x19 x19n x19c) fun w13 =>
      st w13 (((⟨b6, 0, none⟩ : Addr).add 3).add 2) (.func (.func 27) #[.pointer (some (⟨b6, 0, none⟩ : Addr))] #[]) fun w14 =>
      lp (σ := Int × Unit) (fun s24 w15 k23 => match s24 with
        | (v22, _) =>
        pif (decide (v22 < a0)) (
          cl Try.prog 28 [.pointer (some ((⟨b6, 0, none⟩ : Addr).add 3)), .int .i64 v22, .int .i64 (IntKind.wrap .i64 (v22 + 1))] w15 fun e28 w16 => e28 = Ending.returned (.tuple #[]) ∧
          k23 ((IntKind.wrap .i64 (v22 + 1)), ()) w16) (
          R (.tuple #[.pointer (some (⟨b6, 0, none⟩ : Addr)), .int .i64 0]) w15)) (0, ()) w14))
def An9 : An := .seq (.leaf) (.seq (.seq (.leaf) (.cond (.seq (.leaf) (.leaf)) (.leaf))) (.seq (.leaf) (.seq (.draw [0, 0, 2, 0, 8, 0, 32, 126, 255, 511, 1023]) (.seq (.seq (.leaf) (.blk (.loop [(39, .one (.int .i64))] (.seq (.leaf) (.seq (.cond (.leaf) (.leaf)) (.seq (.blk (.seq (.leaf) (.leaf))) (.leaf))))))) (.seq (.leaf) (.leaf))))))
theorem V9_eq (a0 : Int) (a1 : Nat) (w : World) (R : Value → World → Prop) : evF Try.prog Try.f9 An9 [.int .i64 a0, .float .f64 a1] w R = V9 a0 a1 w R := by kernel_rfl
theorem V9_calls (a0 : Int) (a1 : Nat) (w : World) (R : Value → World → Prop) (h : V9 a0 a1 w R) : Calls Try.prog 9 #[.int .i64 a0, .float .f64 a1] w fun e w' => ∃ v, e = .returned v ∧ R v w' :=
  calls_of_ev (args := [.int .i64 a0, .float .f64 a1]) Try.func9 (Nat.le_of_ble_eq_true (by kernel_rfl)) (by rw [V9_eq]; exact h)
theorem ok9 : fnOk Try.prog 9 = true := by kernel_rfl

/-! (*depot/heat.Heat).In -/
def V10 (a0 : Option Addr) (a1 : Int) (w : World) (R : Value → World → Prop) : Prop :=
  cl Try.prog 29 [.pointer a0, .int .i64 a1] w fun e4 w1 => ∃ x3 : Bool, e4 = Ending.returned (.bool x3) ∧
  gd (α := Addr) x3 (fun k5 =>
    nn a0 fun p6 =>
    k5 p6 w1) ⟨0, 0, none⟩ w1 fun x7 w2 =>
  gd (α := Bool) x3 (fun k8 =>
    cl Try.prog 30 [.pointer (some (x7.add 3)), .int .i64 a1] w2 fun e10 w3 => ∃ x9 : Bool, e10 = Ending.returned (.bool x9) ∧
    k8 x9 w3) false w2 fun x11 w4 =>
  R (.bool (cond x3 x11 false)) w4
def An10 : An := .seq (.leaf) (.seq (.leaf) (.leaf))
theorem V10_eq (a0 : Option Addr) (a1 : Int) (w : World) (R : Value → World → Prop) : evF Try.prog Try.f10 An10 [.pointer a0, .int .i64 a1] w R = V10 a0 a1 w R := by kernel_rfl
theorem V10_calls (a0 : Option Addr) (a1 : Int) (w : World) (R : Value → World → Prop) (h : V10 a0 a1 w R) : Calls Try.prog 10 #[.pointer a0, .int .i64 a1] w fun e w' => ∃ v, e = .returned v ∧ R v w' :=
  calls_of_ev (args := [.pointer a0, .int .i64 a1]) Try.func10 (Nat.le_of_ble_eq_true (by kernel_rfl)) (by rw [V10_eq]; exact h)
theorem ok10 : fnOk Try.prog 10 = true := by kernel_rfl

/-! (*depot/heat.Heat).Score -/
def V11 (a0 : Option Addr) (a1 : Int) (w : World) (R : Value → World → Prop) : Prop :=
  cl Try.prog 29 [.pointer a0, .int .i64 a1] w fun e4 w1 => ∃ x3 : Bool, e4 = Ending.returned (.bool x3) ∧
  pif (!x3) (
    R (.tuple #[.float .f64 0, .int .i64 2]) w1) (
    nn a0 fun p7 =>
    ldC w1 (p7.add 0) fun x8 x8n x8c =>
    ixA x8 x8n (IntKind.wrap .i64 (a1 - 1)) 1 fun p9 =>
    ldF .f64 w1 p9 fun x10 =>
    R (.tuple #[.float .f64 x10, .int .i64 0]) w1)
def An11 : An := .seq (.leaf) (.seq (.seq (.leaf) (.cond (.seq (.leaf) (.leaf)) (.leaf))) (.seq (.leaf) (.leaf)))
theorem V11_eq (a0 : Option Addr) (a1 : Int) (w : World) (R : Value → World → Prop) : evF Try.prog Try.f11 An11 [.pointer a0, .int .i64 a1] w R = V11 a0 a1 w R := by kernel_rfl
theorem V11_calls (a0 : Option Addr) (a1 : Int) (w : World) (R : Value → World → Prop) (h : V11 a0 a1 w R) : Calls Try.prog 11 #[.pointer a0, .int .i64 a1] w fun e w' => ∃ v, e = .returned v ∧ R v w' :=
  calls_of_ev (args := [.pointer a0, .int .i64 a1]) Try.func11 (Nat.le_of_ble_eq_true (by kernel_rfl)) (by rw [V11_eq]; exact h)
theorem ok11 : fnOk Try.prog 11 = true := by kernel_rfl

/-! (*depot/heat.heap[int]).lay -/
def V28 (a0 : Option Addr) (a1 : Int) (a2 : Int) (w : World) (R : Value → World → Prop) : Prop :=
  nn a0 fun p2 =>
  ldC w (p2.add 0) fun x3 x3n x3c =>
  ixA x3 x3n a1 1 fun p4 =>
  st w (p4.add 0) (.int .i64 a2) fun w1 =>
  nn a0 fun p6 =>
  ldC w1 (p6.add 1) fun x7 x7n x7c =>
  ixA x7 x7n (IntKind.wrap .i64 (a2 - 1)) 1 fun p8 =>
  st w1 (p8.add 0) (.int .i64 a1) fun w2 =>
  R (.tuple #[]) w2
def An28 : An := .seq (.leaf) (.leaf)
theorem V28_eq (a0 : Option Addr) (a1 : Int) (a2 : Int) (w : World) (R : Value → World → Prop) : evF Try.prog Try.f28 An28 [.pointer a0, .int .i64 a1, .int .i64 a2] w R = V28 a0 a1 a2 w R := by kernel_rfl
theorem V28_calls (a0 : Option Addr) (a1 : Int) (a2 : Int) (w : World) (R : Value → World → Prop) (h : V28 a0 a1 a2 w R) : Calls Try.prog 28 #[.pointer a0, .int .i64 a1, .int .i64 a2] w fun e w' => ∃ v, e = .returned v ∧ R v w' :=
  calls_of_ev (args := [.pointer a0, .int .i64 a1, .int .i64 a2]) Try.func28 (Nat.le_of_ble_eq_true (by kernel_rfl)) (by rw [V28_eq]; exact h)
theorem ok28 : fnOk Try.prog 28 = true := by kernel_rfl

/-! (*depot/heat.Heat).own -/
def V29 (a0 : Option Addr) (a1 : Int) (w : World) (R : Value → World → Prop) : Prop :=
  gd (α := Addr) (decide (a1 ≥ 1)) (fun k3 =>
    nn a0 fun p4 =>
    k3 p4 w) ⟨0, 0, none⟩ w fun x5 w1 =>
  gd (α := (Option Addr × Nat × Nat)) (decide (a1 ≥ 1)) (fun k6 =>
    ldC w1 (x5.add 0) fun x7 x7n x7c =>
    k6 (x7, x7n, x7c) w1) (none, 0, 0) w1 fun x8 w2 =>
  R (.bool (cond (decide (a1 ≥ 1)) (decide (a1 ≤ (x8.2.1 : Int))) false)) w2
def An29 : An := .seq (.leaf) (.seq (.leaf) (.leaf))
theorem V29_eq (a0 : Option Addr) (a1 : Int) (w : World) (R : Value → World → Prop) : evF Try.prog Try.f29 An29 [.pointer a0, .int .i64 a1] w R = V29 a0 a1 w R := by kernel_rfl
theorem V29_calls (a0 : Option Addr) (a1 : Int) (w : World) (R : Value → World → Prop) (h : V29 a0 a1 w R) : Calls Try.prog 29 #[.pointer a0, .int .i64 a1] w fun e w' => ∃ v, e = .returned v ∧ R v w' :=
  calls_of_ev (args := [.pointer a0, .int .i64 a1]) Try.func29 (Nat.le_of_ble_eq_true (by kernel_rfl)) (by rw [V29_eq]; exact h)
theorem ok29 : fnOk Try.prog 29 = true := by kernel_rfl

/-! (*depot/heat.heap[int]).has -/
def V30 (a0 : Option Addr) (a1 : Int) (w : World) (R : Value → World → Prop) : Prop :=
  nn a0 fun p3 =>
  ldC w (p3.add 1) fun x4 x4n x4c =>
  ixA x4 x4n (IntKind.wrap .i64 (a1 - 1)) 1 fun p5 =>
  ldI .i64 w p5 fun x6 =>
  R (.bool (decide (x6 ≥ 0))) w
def An30 : An := .seq (.leaf) (.seq (.leaf) (.leaf))
theorem V30_eq (a0 : Option Addr) (a1 : Int) (w : World) (R : Value → World → Prop) : evF Try.prog Try.f30 An30 [.pointer a0, .int .i64 a1] w R = V30 a0 a1 w R := by kernel_rfl
theorem V30_calls (a0 : Option Addr) (a1 : Int) (w : World) (R : Value → World → Prop) (h : V30 a0 a1 w R) : Calls Try.prog 30 #[.pointer a0, .int .i64 a1] w fun e w' => ∃ v, e = .returned v ∧ R v w' :=
  calls_of_ev (args := [.pointer a0, .int .i64 a1]) Try.func30 (Nat.le_of_ble_eq_true (by kernel_rfl)) (by rw [V30_eq]; exact h)
theorem ok30 : fnOk Try.prog 30 = true := by kernel_rfl

end Go.Proofs.Ytfifgopmegbifaa.T
