/- The conditions under which the functions printed here return, as propositions over typed values; each is the machine's own, by the generator's theorem. -/
import Derived.Test.YtlbpllpomdjooaaProg
import Derived.Test.YtlbpllpomdjooaaVcG
set_option linter.unusedVariables false
set_option maxRecDepth 100000
namespace Go.Proofs.Ytlbpllpomdjooaa.T
open Go Go.Proofs.Ytlbpllpomdjooaa.Vc
/-! depot/depotlaw15.LearnShapes -/
def V3 (a0 : Option Addr) (a0n : Nat) (a0c : Nat) (w : World) (R : Value → World → Prop) : Prop :=
  cl Try.prog 11 [.slice a0 a0n a0c] w fun e4 w1 => ∃ (x3 : Option Addr) (x3n x3c : Nat), e4 = Ending.returned (.slice x3 x3n x3c) ∧
  cl Try.prog 10 [.slice x3 x3n x3c] w1 fun e6 w2 => ∃ x5 : Bool, e6 = Ending.returned (.bool x5) ∧
  cl Try.prog 12 [.slice a0 a0n a0c] w2 fun e8 w3 => ∃ x7 : Bool, e8 = Ending.returned (.bool x7) ∧
  gd (α := Bool) (x5 == x7) (fun k9 =>
    cl Try.prog 10 [.slice none 0 0] w3 fun e11 w4 => ∃ x10 : Bool, e11 = Ending.returned (.bool x10) ∧
    k9 x10 w4) false w3 fun x12 w5 =>
  R (.bool (cond (x5 == x7) x12 false)) w5
def An3 : An := .seq (.leaf) (.seq (.leaf) (.leaf))
theorem V3_eq (a0 : Option Addr) (a0n : Nat) (a0c : Nat) (w : World) (R : Value → World → Prop) : evF Try.prog Try.f3 An3 [.slice a0 a0n a0c] w R = V3 a0 a0n a0c w R := by kernel_rfl
theorem V3_calls (a0 : Option Addr) (a0n : Nat) (a0c : Nat) (w : World) (R : Value → World → Prop) (h : V3 a0 a0n a0c w R) : Calls Try.prog 3 #[.slice a0 a0n a0c] w fun e w' => ∃ v, e = .returned v ∧ R v w' :=
  calls_of_ev (args := [.slice a0 a0n a0c]) Try.func3 (Nat.le_of_ble_eq_true (by kernel_rfl)) (by rw [V3_eq]; exact h)
theorem ok3 : fnOk Try.prog 3 = true := by kernel_rfl

/-! depot/depotlaw15.LearnLevels -/
def V4 (a0 : Option Addr) (a0n : Nat) (a0c : Nat) (a1 : Option Addr) (a1n : Nat) (a1c : Nat) (w : World) (R : Value → World → Prop) : Prop :=
  cl Try.prog 11 [.slice a0 a0n a0c] w fun e4 w1 => ∃ (x3 : Option Addr) (x3n x3c : Nat), e4 = Ending.returned (.slice x3 x3n x3c) ∧
  cl Try.prog 14 [.slice a1 a1n a1c] w1 fun e6 w2 => ∃ (x5 : Option Addr) (x5n x5c : Nat), e6 = Ending.returned (.slice x5 x5n x5c) ∧
  cl Try.prog 13 [.slice x3 x3n x3c, .slice x5 x5n x5c] w2 fun e9 w3 => ∃ x7 : Int, ∃ x8 : Int, e9 = Ending.returned (.tuple #[.int .i64 x7, .int .i64 x8]) ∧
  cl Try.prog 15 [.slice a0 a0n a0c, .slice a1 a1n a1c] w3 fun e13 w4 => ∃ x11 : Int, ∃ x12 : Int, e13 = Ending.returned (.tuple #[.int .i64 x11, .int .i64 x12]) ∧
  R (.bool (cond (x8 == x12) (x7 == x11) false)) w4
def An4 : An := .seq (.leaf) (.seq (.leaf) (.seq (.leaf) (.seq (.leaf) (.leaf))))
theorem V4_eq (a0 : Option Addr) (a0n : Nat) (a0c : Nat) (a1 : Option Addr) (a1n : Nat) (a1c : Nat) (w : World) (R : Value → World → Prop) : evF Try.prog Try.f4 An4 [.slice a0 a0n a0c, .slice a1 a1n a1c] w R = V4 a0 a0n a0c a1 a1n a1c w R := by kernel_rfl
theorem V4_calls (a0 : Option Addr) (a0n : Nat) (a0c : Nat) (a1 : Option Addr) (a1n : Nat) (a1c : Nat) (w : World) (R : Value → World → Prop) (h : V4 a0 a0n a0c a1 a1n a1c w R) : Calls Try.prog 4 #[.slice a0 a0n a0c, .slice a1 a1n a1c] w fun e w' => ∃ v, e = .returned v ∧ R v w' :=
  calls_of_ev (args := [.slice a0 a0n a0c, .slice a1 a1n a1c]) Try.func4 (Nat.le_of_ble_eq_true (by kernel_rfl)) (by rw [V4_eq]; exact h)
theorem ok4 : fnOk Try.prog 4 = true := by kernel_rfl

/-! depot/depotlaw15.LearnShrinks -/
def V5 (a0 : Option Addr) (a0n : Nat) (a0c : Nat) (a1 : Option Addr) (a1n : Nat) (a1c : Nat) (w : World) (R : Value → World → Prop) : Prop :=
  cl Try.prog 11 [.slice a0 a0n a0c] w fun e4 w1 => ∃ (x3 : Option Addr) (x3n x3c : Nat), e4 = Ending.returned (.slice x3 x3n x3c) ∧
  cl Try.prog 14 [.slice a1 a1n a1c] w1 fun e6 w2 => ∃ (x5 : Option Addr) (x5n x5c : Nat), e6 = Ending.returned (.slice x5 x5n x5c) ∧
  cl Try.prog 16 [.slice x3 x3n x3c, .slice x5 x5n x5c] w2 fun e9 w3 => ∃ (x7 : Option Addr) (x7n x7c : Nat), ∃ x8 : Int, e9 = Ending.returned (.tuple #[.slice x7 x7n x7c, .int .i64 x8]) ∧
  cl Try.prog 17 [.slice a0 a0n a0c, .slice a1 a1n a1c] w3 fun e13 w4 => ∃ (x11 : Option Addr) (x11n x11c : Nat), ∃ x12 : Int, e13 = Ending.returned (.tuple #[.slice x11 x11n x11c, .int .i64 x12]) ∧
  gd (α := Bool) (x8 == x12) (fun k15 =>
    cl Try.prog 18 [.slice x7 x7n x7c, .slice x11 x11n x11c] w4 fun e17 w5 => ∃ x16 : Bool, e17 = Ending.returned (.bool x16) ∧
    k15 x16 w5) false w4 fun x18 w6 =>
  R (.bool (cond (x8 == x12) x18 false)) w6
def An5 : An := .seq (.leaf) (.seq (.leaf) (.seq (.leaf) (.seq (.leaf) (.leaf))))
theorem V5_eq (a0 : Option Addr) (a0n : Nat) (a0c : Nat) (a1 : Option Addr) (a1n : Nat) (a1c : Nat) (w : World) (R : Value → World → Prop) : evF Try.prog Try.f5 An5 [.slice a0 a0n a0c, .slice a1 a1n a1c] w R = V5 a0 a0n a0c a1 a1n a1c w R := by kernel_rfl
theorem V5_calls (a0 : Option Addr) (a0n : Nat) (a0c : Nat) (a1 : Option Addr) (a1n : Nat) (a1c : Nat) (w : World) (R : Value → World → Prop) (h : V5 a0 a0n a0c a1 a1n a1c w R) : Calls Try.prog 5 #[.slice a0 a0n a0c, .slice a1 a1n a1c] w fun e w' => ∃ v, e = .returned v ∧ R v w' :=
  calls_of_ev (args := [.slice a0 a0n a0c, .slice a1 a1n a1c]) Try.func5 (Nat.le_of_ble_eq_true (by kernel_rfl)) (by rw [V5_eq]; exact h)
theorem ok5 : fnOk Try.prog 5 = true := by kernel_rfl

/-! depot/learn.Formed -/
def V10 (a0 : Option Addr) (a0n : Nat) (a0c : Nat) (w : World) (R : Value → World → Prop) : Prop :=
  ∃ x3 : Option Nat, ∃ w1 : World, (Instr.makeMap 52 none).run Try.prog w = .ok (.map x3) w1 ∧
  lp (σ := Int × Int × Unit) (fun s9 w2 k8 => match s9 with
    | (v6, v7, _) =>
    pif (decide (v7 < (a0n : Int))) (
      ixA a0 a0n v7 3 fun p12 =>
      ldI .i64 w2 (p12.add 0) fun x13 =>
      ldI .i64 w2 (p12.add 1) fun x14 =>
      ldC w2 (p12.add 2) fun x15 x15n x15c =>
      alc w2 [.int .i64 0, .int .i64 0, .slice none 0 0] 54 fun b16 w3 =>
      st w3 ((⟨b16, 0, none⟩ : Addr).add 0) (.int .i64 x13) fun w4 =>
      st w4 ((⟨b16, 0, none⟩ : Addr).add 1) (.int .i64 x14) fun w5 =>
      st w5 ((⟨b16, 0, none⟩ : Addr).add 2) (.slice x15 x15n x15c) fun w6 =>
      gd (α := Int) (v7 == 0) (fun k18 =>
        ldI .i64 w6 ((⟨b16, 0, none⟩ : Addr).add 1) fun x19 =>
        k18 x19 w6) 0 w6 fun x20 w7 =>
      gd (α := Int) ((!(cond (v7 == 0) (x20 == 1) false)) && (decide (v7 > 0))) (fun k21 =>
        ldI .i64 w7 ((⟨b16, 0, none⟩ : Addr).add 1) fun x22 =>
        k21 x22 w7) 0 w7 fun x23 w8 =>
      gd (α := Int) (!(cond (cond (v7 == 0) (x20 == 1) false) true (cond (decide (v7 > 0)) (x23 == (IntKind.wrap .i64 (v6 + 1))) false))) (fun k25 =>
        ldI .i64 w8 ((⟨b16, 0, none⟩ : Addr).add 1) fun x26 =>
        k25 x26 w8) 0 w8 fun x27 w9 =>
      gd (α := Int) (!(cond (!(cond (cond (v7 == 0) (x20 == 1) false) true (cond (decide (v7 > 0)) (x23 == (IntKind.wrap .i64 (v6 + 1))) false))) (x27 != v6) false)) (fun k28 =>
        ldI .i64 w9 ((⟨b16, 0, none⟩ : Addr).add 0) fun x29 =>
        k28 x29 w9) 0 w9 fun x30 w10 =>
      gd (α := Int) (!(cond (!(cond (cond (v7 == 0) (x20 == 1) false) true (cond (decide (v7 > 0)) (x23 == (IntKind.wrap .i64 (v6 + 1))) false))) (x27 != v6) false)) (fun k31 =>
        ∃ x32 : Int, ∃ w11 : World, (Instr.lookup 52 (.map x3) (.int .i64 x30) false).run Try.prog w10 = .ok (.int .i64 x32) w11 ∧
        k31 x32 w11) 0 w10 fun x33 w12 =>
      gd (α := Int) (!(cond (cond (!(cond (cond (v7 == 0) (x20 == 1) false) true (cond (decide (v7 > 0)) (x23 == (IntKind.wrap .i64 (v6 + 1))) false))) (x27 != v6) false) true (decide (x33 > 0)))) (fun k34 =>
        ldI .i64 w12 ((⟨b16, 0, none⟩ : Addr).add 0) fun x35 =>
        k34 x35 w12) 0 w12 fun x36 w13 =>
      gd (α := Int) (!(cond (cond (!(cond (cond (v7 == 0) (x20 == 1) false) true (cond (decide (v7 > 0)) (x23 == (IntKind.wrap .i64 (v6 + 1))) false))) (x27 != v6) false) true (decide (x33 > 0)))) (fun k37 =>
        ∃ x38 : Int, ∃ w14 : World, (Instr.lookup 52 (.map x3) (.int .i64 (IntKind.wrap .i64 (0 - x36))) false).run Try.prog w13 = .ok (.int .i64 x38) w14 ∧
        k37 x38 w14) 0 w13 fun x39 w15 =>
      gd (α := Int) (!(cond (cond (cond (!(cond (cond (v7 == 0) (x20 == 1) false) true (cond (decide (v7 > 0)) (x23 == (IntKind.wrap .i64 (v6 + 1))) false))) (x27 != v6) false) true (decide (x33 > 0))) true (decide (x39 > 0)))) (fun k40 =>
        ldI .i64 w15 ((⟨b16, 0, none⟩ : Addr).add 0) fun x41 =>
        k40 x41 w15) 0 w15 fun x42 w16 =>
      gd (α := Bool) (!(cond (cond (cond (!(cond (cond (v7 == 0) (x20 == 1) false) true (cond (decide (v7 > 0)) (x23 == (IntKind.wrap .i64 (v6 + 1))) false))) (x27 != v6) false) true (decide (x33 > 0))) true (decide (x39 > 0)))) (fun k43 =>
        cl Try.prog 33 [.int .i64 x42] w16 fun e45 w17 => ∃ x44 : Bool, e45 = Ending.returned (.bool x44) ∧
        k43 x44 w17) false w16 fun x46 w18 =>
      pif (cond (cond (cond (cond (!(cond (cond (v7 == 0) (x20 == 1) false) true (cond (decide (v7 > 0)) (x23 == (IntKind.wrap .i64 (v6 + 1))) false))) (x27 != v6) false) true (decide (x33 > 0))) true (decide (x39 > 0))) true (!x46)) (
        R (.bool false) w18) (
        ldI .i64 w18 ((⟨b16, 0, none⟩ : Addr).add 1) fun x49 =>
        gd (α := (Option Addr × Nat × Nat)) (decide (x49 > 0)) (fun k51 =>
          ldC w18 ((⟨b16, 0, none⟩ : Addr).add 2) fun x52 x52n x52c =>
          k51 (x52, x52n, x52c) w18) (none, 0, 0) w18 fun x53 w19 =>
        gd (α := (Option Addr × Nat × Nat)) (!(cond (decide (x49 > 0)) (!((cond (cond (v7 == 0) (x20 == 1) false) true (cond (decide (v7 > 0)) (x23 == (IntKind.wrap .i64 (v6 + 1))) false)) == ((x53.2.1 : Int) == 0))) false)) (fun k54 =>
          ldC w19 ((⟨b16, 0, none⟩ : Addr).add 2) fun x55 x55n x55c =>
          k54 (x55, x55n, x55c) w19) (none, 0, 0) w19 fun x56 w20 =>
        gd (α := (Int × Int × (Option Addr × Nat × Nat) × Unit)) ((!(cond (decide (x49 > 0)) (!((cond (cond (v7 == 0) (x20 == 1) false) true (cond (decide (v7 > 0)) (x23 == (IntKind.wrap .i64 (v6 + 1))) false)) == ((x53.2.1 : Int) == 0))) false)) && (decide ((x56.2.1 : Int) > 0))) (fun k57 =>
          ldI .i64 w20 ((⟨b16, 0, none⟩ : Addr).add 0) fun x58 =>
          ldI .i64 w20 ((⟨b16, 0, none⟩ : Addr).add 1) fun x59 =>
          ldC w20 ((⟨b16, 0, none⟩ : Addr).add 2) fun x60 x60n x60c =>
          k57 (x58, x59, (x60, x60n, x60c), ()) w20) (0, 0, (none, 0, 0), ()) w20 fun x61 w21 =>
        gd (α := Bool) ((!(cond (decide (x49 > 0)) (!((cond (cond (v7 == 0) (x20 == 1) false) true (cond (decide (v7 > 0)) (x23 == (IntKind.wrap .i64 (v6 + 1))) false)) == ((x53.2.1 : Int) == 0))) false)) && (decide ((x56.2.1 : Int) > 0))) (fun k62 =>
          cl Try.prog 34 [.agg #[.int .i64 x61.1, .int .i64 x61.2.1, .slice x61.2.2.1.1 x61.2.2.1.2.1 x61.2.2.1.2.2], .map x3] w21 fun e64 w22 => ∃ x63 : Bool, e64 = Ending.returned (.bool x63) ∧
          k62 x63 w22) false w21 fun x65 w23 =>
        pif (cond (cond (decide (x49 > 0)) (!((cond (cond (v7 == 0) (x20 == 1) false) true (cond (decide (v7 > 0)) (x23 == (IntKind.wrap .i64 (v6 + 1))) false)) == ((x53.2.1 : Int) == 0))) false) true (cond (decide ((x56.2.1 : Int) > 0)) (!x65) false)) (
          R (.bool false) w23) (
          ldI .i64 w23 ((⟨b16, 0, none⟩ : Addr).add 0) fun x68 =>
          ∃ x69 : Int, ∃ w24 : World, (Instr.lookup 52 (.map x3) (.int .i64 x68) false).run Try.prog w23 = .ok (.int .i64 x69) w24 ∧
          ∃ w25 : World, (Instr.mapUpdate 52 (.map x3) (.int .i64 x68) (.int .i64 (IntKind.wrap .i64 (x69 + 1)))).run Try.prog w24 = .ok () w25 ∧
          k8 (x49, (IntKind.wrap .i64 (v7 + 1)), ()) w25))) (
      R (.bool true) w2)) (0, 0, ()) w1
def An10 : An := .seq (.leaf) (.seq (.leaf) (.seq (.leaf) (.seq (.seq (.leaf) (.blk (.loop [(4, .one (.int .i64)), (11, .one (.int .i64))] (.seq (.leaf) (.seq (.cond (.leaf) (.leaf)) (.seq (.blk (.seq (.leaf) (.seq (.leaf) (.seq (.seq (.leaf) (.cond (.seq (.leaf) (.leaf)) (.leaf))) (.seq (.leaf) (.seq (.seq (.leaf) (.cond (.seq (.leaf) (.leaf)) (.leaf))) (.leaf))))))) (.leaf))))))) (.seq (.leaf) (.leaf)))))
theorem V10_eq (a0 : Option Addr) (a0n : Nat) (a0c : Nat) (w : World) (R : Value → World → Prop) : evF Try.prog Try.f10 An10 [.slice a0 a0n a0c] w R = V10 a0 a0n a0c w R := by kernel_rfl
theorem V10_calls (a0 : Option Addr) (a0n : Nat) (a0c : Nat) (w : World) (R : Value → World → Prop) (h : V10 a0 a0n a0c w R) : Calls Try.prog 10 #[.slice a0 a0n a0c] w fun e w' => ∃ v, e = .returned v ∧ R v w' :=
  calls_of_ev (args := [.slice a0 a0n a0c]) Try.func10 (Nat.le_of_ble_eq_true (by kernel_rfl)) (by rw [V10_eq]; exact h)
theorem ok10 : fnOk Try.prog 10 = true := by kernel_rfl

/-! depot/depotref00.CopyEntries -/
def V11 (a0 : Option Addr) (a0n : Nat) (a0c : Nat) (w : World) (R : Value → World → Prop) : Prop :=
  lp (σ := (Option Addr × Nat × Nat) × Int × Unit) (fun s7 w1 k6 => match s7 with
    | ((v4, v4n, v4c), v5, _) =>
    pif (decide (v5 < (a0n : Int))) (
      ixA a0 a0n v5 3 fun p10 =>
      ldC w1 (p10.add 2) fun x11 x11n x11c =>
      cl Try.prog 14 [.slice x11 x11n x11c] w1 fun e13 w2 => ∃ (x12 : Option Addr) (x12n x12c : Nat), e13 = Ending.returned (.slice x12 x12n x12c) ∧
      ixA a0 a0n v5 3 fun p14 =>
      ldI .i64 (World.drew w2) (p14.add 0) fun x15 =>
      ixA a0 a0n v5 3 fun p16 =>
      ldI .i64 (World.drew w2) (p16.add 1) fun x17 =>
      alc (World.drew w2) [.int .i64 x15, .int .i64 x17, .slice x12 x12n x12c] 54 fun b18 w3 =>
      ∃ (x19 : Option Addr) (x19n x19c : Nat), ∃ w4 : World, (Builtin.append_ #[22, 22] 22 #[.slice v4 v4n v4c, .slice (some (⟨b18, 0, none⟩ : Addr)) 1 1]).run Try.prog w3 = .ok (.slice x19 x19n x19c) w4 ∧
      k6 ((x19, x19n, x19c), (IntKind.wrap .i64 (v5 + 1)), ()) w4) (
      R (.slice v4 v4n v4c) w1)) ((none, 0, 0), 0, ()) w
def An11 : An := .seq (.leaf) (.seq (.leaf) (.seq (.seq (.leaf) (.blk (.loop [(3, .one (.slc)), (4, .one (.int .i64))] (.seq (.seq (.leaf) (.cond (.leaf) (.leaf))) (.seq (.blk (.seq (.leaf) (.draw [0, 0, 0, 6, 14, 30, 0, 0, 192, 448, 960, 0, 4094, 8190, 16383, 32767]))) (.leaf)))))) (.seq (.leaf) (.leaf))))
theorem V11_eq (a0 : Option Addr) (a0n : Nat) (a0c : Nat) (w : World) (R : Value → World → Prop) : evF Try.prog Try.f11 An11 [.slice a0 a0n a0c] w R = V11 a0 a0n a0c w R := by kernel_rfl
theorem V11_calls (a0 : Option Addr) (a0n : Nat) (a0c : Nat) (w : World) (R : Value → World → Prop) (h : V11 a0 a0n a0c w R) : Calls Try.prog 11 #[.slice a0 a0n a0c] w fun e w' => ∃ v, e = .returned v ∧ R v w' :=
  calls_of_ev (args := [.slice a0 a0n a0c]) Try.func11 (Nat.le_of_ble_eq_true (by kernel_rfl)) (by rw [V11_eq]; exact h)
theorem ok11 : fnOk Try.prog 11 = true := by kernel_rfl

/-! depot/depotref15.Formed -/
def V12 (a0 : Option Addr) (a0n : Nat) (a0c : Nat) (w : World) (R : Value → World → Prop) : Prop :=
  lp (σ := Int × Unit) (fun s5 w1 k4 => match s5 with
    | (v3, _) =>
    pif (decide (v3 < (a0n : Int))) (
      ixA a0 a0n v3 3 fun p8 =>
      ldI .i64 w1 (p8.add 0) fun x9 =>
      cl Try.prog 35 [.int .i64 x9] w1 fun e12 w2 => ∃ x11 : Bool, e12 = Ending.returned (.bool x11) ∧
      gd (α := (Option Addr × Nat × Nat)) (!(!x11)) (fun k13 =>
        0 ≤ v3 ∧ v3 ≤ (a0c : Int) ∧
        k13 ((slA a0 a0c 0 3), ((Int.toNat v3) - 0), (a0c - 0)) w2) (none, 0, 0) w2 fun x14 w3 =>
      gd (α := Int) (!(!x11)) (fun k15 =>
        cl Try.prog 36 [.slice x14.1 x14.2.1 x14.2.2, .int .i64 x9] w3 fun e17 w4 => ∃ x16 : Int, e17 = Ending.returned (.int .i64 x16) ∧
        k15 x16 w4) 0 w3 fun x18 w5 =>
      gd (α := (Option Addr × Nat × Nat)) (!(cond (!x11) true (decide (x18 ≥ 0)))) (fun k19 =>
        0 ≤ v3 ∧ v3 ≤ (a0c : Int) ∧
        k19 ((slA a0 a0c 0 3), ((Int.toNat v3) - 0), (a0c - 0)) w5) (none, 0, 0) w5 fun x20 w6 =>
      gd (α := Int) (!(cond (!x11) true (decide (x18 ≥ 0)))) (fun k21 =>
        cl Try.prog 36 [.slice x20.1 x20.2.1 x20.2.2, .int .i64 (IntKind.wrap .i64 (0 - x9))] w6 fun e23 w7 => ∃ x22 : Int, e23 = Ending.returned (.int .i64 x22) ∧
        k21 x22 w7) 0 w6 fun x24 w8 =>
      gd (α := Bool) (!(cond (cond (!x11) true (decide (x18 ≥ 0))) true (decide (x24 ≥ 0)))) (fun k25 =>
        cl Try.prog 37 [.slice a0 a0n a0c, .int .i64 v3] w8 fun e27 w9 => ∃ x26 : Bool, e27 = Ending.returned (.bool x26) ∧
        k25 x26 w9) false w8 fun x28 w10 =>
      pif (cond (cond (cond (!x11) true (decide (x18 ≥ 0))) true (decide (x24 ≥ 0))) true (!x28)) (
        R (.bool false) w10) (
        ixA a0 a0n v3 3 fun p31 =>
        ldC w10 (p31.add 2) fun x32 x32n x32c =>
        gd (α := Bool) (decide ((x32n : Int) > 0)) (fun k33 =>
          cl Try.prog 38 [.slice a0 a0n a0c, .int .i64 v3] w10 fun e35 w11 => ∃ x34 : Bool, e35 = Ending.returned (.bool x34) ∧
          k33 x34 w11) false w10 fun x36 w12 =>
        pif (cond (decide ((x32n : Int) > 0)) (!x36) false) (
          R (.bool false) w12) (
          k4 ((IntKind.wrap .i64 (v3 + 1)), ()) w12))) (
      R (.bool true) w1)) (0, ()) w
def An12 : An := .seq (.leaf) (.seq (.seq (.leaf) (.blk (.loop [(3, .one (.int .i64))] (.seq (.seq (.leaf) (.cond (.leaf) (.leaf))) (.seq (.blk (.seq (.leaf) (.seq (.seq (.leaf) (.cond (.seq (.leaf) (.leaf)) (.leaf))) (.seq (.leaf) (.cond (.seq (.leaf) (.leaf)) (.leaf)))))) (.leaf)))))) (.seq (.leaf) (.leaf)))
theorem V12_eq (a0 : Option Addr) (a0n : Nat) (a0c : Nat) (w : World) (R : Value → World → Prop) : evF Try.prog Try.f12 An12 [.slice a0 a0n a0c] w R = V12 a0 a0n a0c w R := by kernel_rfl
theorem V12_calls (a0 : Option Addr) (a0n : Nat) (a0c : Nat) (w : World) (R : Value → World → Prop) (h : V12 a0 a0n a0c w R) : Calls Try.prog 12 #[.slice a0 a0n a0c] w fun e w' => ∃ v, e = .returned v ∧ R v w' :=
  calls_of_ev (args := [.slice a0 a0n a0c]) Try.func12 (Nat.le_of_ble_eq_true (by kernel_rfl)) (by rw [V12_eq]; exact h)
theorem ok12 : fnOk Try.prog 12 = true := by kernel_rfl

/-! depot/learn.Levels -/
def V13 (a0 : Option Addr) (a0n : Nat) (a0c : Nat) (a1 : Option Addr) (a1n : Nat) (a1c : Nat) (w : World) (R : Value → World → Prop) : Prop :=
  cl Try.prog 10 [.slice a0 a0n a0c] w fun e4 w1 => ∃ x3 : Bool, e4 = Ending.returned (.bool x3) ∧
  gd (α := Bool) (!(!x3)) (fun k5 =>
    cl Try.prog 39 [.slice a1 a1n a1c] w1 fun e7 w2 => ∃ x6 : Bool, e7 = Ending.returned (.bool x6) ∧
    k5 x6 w2) false w1 fun x8 w3 =>
  pif (cond (!x3) true (!x8)) (
    R (.tuple #[.int .i64 0, .int .i64 1]) w3) (
    cl Try.prog 40 [.slice a0 a0n a0c] w3 fun e12 w4 => ∃ x11 : Option Nat, e12 = Ending.returned (.map x11) ∧
    ∃ x14 : Option Nat, ∃ w5 : World, (Instr.makeMap 52 none).run Try.prog w4 = .ok (.map x14) w5 ∧
    lp (σ := Int × Unit) (fun s18 w6 k17 => match s18 with
      | (v16, _) =>
      pif (decide (v16 < (a1n : Int))) (
        ixA a1 a1n v16 1 fun p21 =>
        ldI .i64 w6 p21 fun x22 =>
        ∃ x24 : Int, ∃ w7 : World, (Instr.lookup 52 (.map x11) (.int .i64 x22) false).run Try.prog w6 = .ok (.int .i64 x24) w7 ∧
        ∃ x25 : Int, ∃ w8 : World, (Instr.lookup 52 (.map x11) (.int .i64 (IntKind.wrap .i64 (0 - x22))) false).run Try.prog w7 = .ok (.int .i64 x25) w8 ∧
        pif ((if x25 > x24 then x25 else x24) == 0) (
          R (.tuple #[.int .i64 0, .int .i64 2]) w8) (
          ixA a0 a0n (IntKind.wrap .i64 ((if x25 > x24 then x25 else x24) - 1)) 3 fun p29 =>
          ldI .i64 w8 (p29.add 1) fun x30 =>
          ∃ x31 : Int, ∃ w9 : World, (Instr.lookup 52 (.map x14) (.int .i64 x30) false).run Try.prog w8 = .ok (.int .i64 x31) w9 ∧
          ∃ w10 : World, (Instr.mapUpdate 52 (.map x14) (.int .i64 x30) (.int .i64 (IntKind.wrap .i64 (x31 + 1)))).run Try.prog w9 = .ok () w10 ∧
          k17 ((IntKind.wrap .i64 (v16 + 1)), ()) w10)) (
        ∃ x34 : Int, ∃ w11 : World, (Builtin.len_ #[52] 3 #[.map x14]).run Try.prog w6 = .ok (.int .i64 x34) w11 ∧
        R (.tuple #[.int .i64 x34, .int .i64 0]) w11)) (0, ()) w5)
def An13 : An := .seq (.leaf) (.seq (.seq (.leaf) (.cond (.seq (.leaf) (.leaf)) (.leaf))) (.seq (.leaf) (.seq (.leaf) (.seq (.seq (.leaf) (.blk (.loop [(24, .one (.int .i64))] (.seq (.leaf) (.seq (.cond (.leaf) (.leaf)) (.seq (.blk (.seq (.leaf) (.seq (.leaf) (.seq (.seq (.leaf) (.cond (.seq (.leaf) (.leaf)) (.leaf))) (.leaf))))) (.leaf))))))) (.seq (.leaf) (.leaf))))))
theorem V13_eq (a0 : Option Addr) (a0n : Nat) (a0c : Nat) (a1 : Option Addr) (a1n : Nat) (a1c : Nat) (w : World) (R : Value → World → Prop) : evF Try.prog Try.f13 An13 [.slice a0 a0n a0c, .slice a1 a1n a1c] w R = V13 a0 a0n a0c a1 a1n a1c w R := by kernel_rfl
theorem V13_calls (a0 : Option Addr) (a0n : Nat) (a0c : Nat) (a1 : Option Addr) (a1n : Nat) (a1c : Nat) (w : World) (R : Value → World → Prop) (h : V13 a0 a0n a0c a1 a1n a1c w R) : Calls Try.prog 13 #[.slice a0 a0n a0c, .slice a1 a1n a1c] w fun e w' => ∃ v, e = .returned v ∧ R v w' :=
  calls_of_ev (args := [.slice a0 a0n a0c, .slice a1 a1n a1c]) Try.func13 (Nat.le_of_ble_eq_true (by kernel_rfl)) (by rw [V13_eq]; exact h)
theorem ok13 : fnOk Try.prog 13 = true := by kernel_rfl

/-! depot/depotref00.CopyInts -/
def V14 (a0 : Option Addr) (a0n : Nat) (a0c : Nat) (w : World) (R : Value → World → Prop) : Prop :=
  lp (σ := (Option Addr × Nat × Nat) × Int × Unit) (fun s7 w1 k6 => match s7 with
    | ((v4, v4n, v4c), v5, _) =>
    pif (decide (v5 < (a0n : Int))) (
      ixA a0 a0n v5 1 fun p10 =>
      ldI .i64 w1 p10 fun x11 =>
      alc w1 [.int .i64 x11] 3 fun b12 w2 =>
      ∃ (x13 : Option Addr) (x13n x13c : Nat), ∃ w3 : World, (Builtin.append_ #[25, 25] 25 #[.slice v4 v4n v4c, .slice (some (⟨b12, 0, none⟩ : Addr)) 1 1]).run Try.prog w2 = .ok (.slice x13 x13n x13c) w3 ∧
      k6 ((x13, x13n, x13c), (IntKind.wrap .i64 (v5 + 1)), ()) w3) (
      R (.slice v4 v4n v4c) w1)) ((none, 0, 0), 0, ()) w
def An14 : An := .seq (.leaf) (.seq (.leaf) (.seq (.seq (.leaf) (.blk (.loop [(3, .one (.slc)), (4, .one (.int .i64))] (.seq (.seq (.leaf) (.cond (.leaf) (.leaf))) (.seq (.blk (.leaf)) (.leaf)))))) (.seq (.leaf) (.leaf))))
theorem V14_eq (a0 : Option Addr) (a0n : Nat) (a0c : Nat) (w : World) (R : Value → World → Prop) : evF Try.prog Try.f14 An14 [.slice a0 a0n a0c] w R = V14 a0 a0n a0c w R := by kernel_rfl
theorem V14_calls (a0 : Option Addr) (a0n : Nat) (a0c : Nat) (w : World) (R : Value → World → Prop) (h : V14 a0 a0n a0c w R) : Calls Try.prog 14 #[.slice a0 a0n a0c] w fun e w' => ∃ v, e = .returned v ∧ R v w' :=
  calls_of_ev (args := [.slice a0 a0n a0c]) Try.func14 (Nat.le_of_ble_eq_true (by kernel_rfl)) (by rw [V14_eq]; exact h)
theorem ok14 : fnOk Try.prog 14 = true := by kernel_rfl

/-! depot/depotref15.Levels -/
def V15 (a0 : Option Addr) (a0n : Nat) (a0c : Nat) (a1 : Option Addr) (a1n : Nat) (a1c : Nat) (w : World) (R : Value → World → Prop) : Prop :=
  cl Try.prog 12 [.slice a0 a0n a0c] w fun e4 w1 => ∃ x3 : Bool, e4 = Ending.returned (.bool x3) ∧
  gd (α := Bool) (!(!x3)) (fun k5 =>
    cl Try.prog 41 [.slice a1 a1n a1c] w1 fun e7 w2 => ∃ x6 : Bool, e7 = Ending.returned (.bool x6) ∧
    k5 x6 w2) false w1 fun x8 w3 =>
  pif (cond (!x3) true (!x8)) (
    R (.tuple #[.int .i64 0, .int .i64 1]) w3) (
    lp (σ := (Option Addr × Nat × Nat) × Int × Unit) (fun s15 w4 k14 => match s15 with
      | ((v12, v12n, v12c), v13, _) =>
      pif (decide (v13 < (a1n : Int))) (
        jn (σ := (Option Addr × Nat × Nat) × Unit) (fun k18 =>
          ixA a1 a1n v13 1 fun p21 =>
          ldI .i64 w4 p21 fun x22 =>
          cl Try.prog 36 [.slice a0 a0n a0c, .int .i64 x22] w4 fun e24 w6 => ∃ x23 : Int, e24 = Ending.returned (.int .i64 x23) ∧
          jn (σ := Int × Unit) (fun k26 =>
            pif (decide (x23 < 0)) (
              ixA a1 a1n v13 1 fun p30 =>
              ldI .i64 w6 p30 fun x31 =>
              cl Try.prog 36 [.slice a0 a0n a0c, .int .i64 (IntKind.wrap .i64 (0 - x31))] w6 fun e33 w8 => ∃ x32 : Int, e33 = Ending.returned (.int .i64 x32) ∧
              k26 (x32, ()) w8) (
              k26 (x23, ()) w6)) fun s27 w7 => match s27 with
          | (v25, _) =>
          pif (decide (v25 < 0)) (
            R (.tuple #[.int .i64 0, .int .i64 2]) w7) (
            ixA a0 a0n v25 3 fun p37 =>
            ldI .i64 w7 (p37.add 1) fun x38 =>
            cl Try.prog 42 [.slice v12 v12n v12c, .int .i64 x38] w7 fun e40 w9 => ∃ x39 : Bool, e40 = Ending.returned (.bool x39) ∧
            pif (!x39) (
              ixA a0 a0n v25 3 fun p42 =>
              ldI .i64 w9 (p42.add 1) fun x43 =>
              alc w9 [.int .i64 x43] 3 fun b44 w10 =>
              ∃ (x45 : Option Addr) (x45n x45c : Nat), ∃ w11 : World, (Builtin.append_ #[25, 25] 25 #[.slice v12 v12n v12c, .slice (some (⟨b44, 0, none⟩ : Addr)) 1 1]).run Try.prog w10 = .ok (.slice x45 x45n x45c) w11 ∧
              k18 ((x45, x45n, x45c), ()) w11) (
              k18 ((v12, v12n, v12c), ()) w9))) fun s19 w5 => match s19 with
        | ((v17, v17n, v17c), _) =>
        k14 ((v17, v17n, v17c), (IntKind.wrap .i64 (v13 + 1)), ()) w5) (
        R (.tuple #[.int .i64 (v12n : Int), .int .i64 0]) w4)) ((none, 0, 0), 0, ()) w3)
def An15 : An := .seq (.leaf) (.seq (.seq (.leaf) (.cond (.seq (.leaf) (.leaf)) (.leaf))) (.seq (.leaf) (.seq (.seq (.leaf) (.blk (.loop [(6, .one (.slc)), (7, .one (.int .i64))] (.seq (.seq (.leaf) (.cond (.leaf) (.leaf))) (.seq (.join [(6, .one (.slc))] (.blk (.seq (.leaf) (.seq (.join [(8, .one (.int .i64))] (.seq (.leaf) (.cond (.leaf) (.leaf)))) (.seq (.seq (.leaf) (.cond (.seq (.leaf) (.leaf)) (.leaf))) (.seq (.leaf) (.cond (.leaf) (.leaf)))))))) (.leaf)))))) (.seq (.leaf) (.leaf)))))
theorem V15_eq (a0 : Option Addr) (a0n : Nat) (a0c : Nat) (a1 : Option Addr) (a1n : Nat) (a1c : Nat) (w : World) (R : Value → World → Prop) : evF Try.prog Try.f15 An15 [.slice a0 a0n a0c, .slice a1 a1n a1c] w R = V15 a0 a0n a0c a1 a1n a1c w R := by kernel_rfl
theorem V15_calls (a0 : Option Addr) (a0n : Nat) (a0c : Nat) (a1 : Option Addr) (a1n : Nat) (a1c : Nat) (w : World) (R : Value → World → Prop) (h : V15 a0 a0n a0c a1 a1n a1c w R) : Calls Try.prog 15 #[.slice a0 a0n a0c, .slice a1 a1n a1c] w fun e w' => ∃ v, e = .returned v ∧ R v w' :=
  calls_of_ev (args := [.slice a0 a0n a0c, .slice a1 a1n a1c]) Try.func15 (Nat.le_of_ble_eq_true (by kernel_rfl)) (by rw [V15_eq]; exact h)
theorem ok15 : fnOk Try.prog 15 = true := by kernel_rfl

/-! depot/learn.Shrink -/
def V16 (a0 : Option Addr) (a0n : Nat) (a0c : Nat) (a1 : Option Addr) (a1n : Nat) (a1c : Nat) (w : World) (R : Value → World → Prop) : Prop :=
  alc w [.slice a0 a0n a0c] 22 fun b2 w1 =>
  ldC w1 (⟨b2, 0, none⟩ : Addr) fun x4 x4n x4c =>
  cl Try.prog 40 [.slice x4 x4n x4c] w1 fun e6 w2 => ∃ x5 : Option Nat, e6 = Ending.returned (.map x5) ∧
  alc w2 [.map none] 52 fun b7 w3 =>
  st w3 ((⟨b7, 0, none⟩ : Addr).add 0) (.map x5) fun w4 =>
  ldC w4 (⟨b2, 0, none⟩ : Addr) fun x9 x9n x9c =>
  ldM w4 (⟨b7, 0, none⟩ : Addr) fun x10 =>
  cl Try.prog 43 [.slice x9 x9n x9c, .slice a1 a1n a1c, .map x10] w4 fun e12 w5 => ∃ x11 : Int, e12 = Ending.returned (.int .i64 x11) ∧
  pif (x11 != 0) (
    R (.tuple #[.slice none 0 0, .int .i64 x11]) w5) (
    ∃ x16 : Option Nat, ∃ w6 : World, (Instr.makeMap 52 none).run Try.prog w5 = .ok (.map x16) w6 ∧
    alc w6 [.map none] 52 fun b17 w7 =>
    st w7 ((⟨b17, 0, none⟩ : Addr).add 0) (.map x16) fun w8 =>
    lp (σ := Int × Unit) (fun s21 w9 k20 => match s21 with
      | (v19, _) =>
      pif (decide (v19 < (a1n : Int))) (
        ixA a1 a1n v19 1 fun p24 =>
        ldI .i64 w9 p24 fun x25 =>
        ldM w9 (⟨b17, 0, none⟩ : Addr) fun x27 =>
        ∃ w10 : World, (Instr.mapUpdate 52 (.map x27) (.int .i64 x25) (.int .i64 1)).run Try.prog w9 = .ok () w10 ∧
        k20 ((IntKind.wrap .i64 (v19 + 1)), ()) w10) (
        ∃ x30 : Option Nat, ∃ w11 : World, (Instr.makeMap 52 none).run Try.prog w9 = .ok (.map x30) w11 ∧
        alc w11 [.map none] 52 fun b31 w12 =>
        st w12 ((⟨b31, 0, none⟩ : Addr).add 0) (.map x30) fun w13 =>
        alc w13 [.nilFunc] 55 fun b33 w14 =>
        st w14 ((⟨b33, 0, none⟩ : Addr).add 0) (.func (.func 44) #[] #[.pointer (some (⟨b31, 0, none⟩ : Addr)), .pointer (some (⟨b2, 0, none⟩ : Addr)), .pointer (some (⟨b7, 0, none⟩ : Addr)), .pointer (some (⟨b17, 0, none⟩ : Addr)), .pointer (some (⟨b33, 0, none⟩ : Addr))]) fun w15 =>
        lp (σ := (Option Addr × Nat × Nat) × Int × Unit) (fun s40 w16 k39 => match s40 with
          | ((v37, v37n, v37c), v38, _) =>
          pif (decide (v38 < (a1n : Int))) (
            jn (σ := (Option Addr × Nat × Nat) × Unit) (fun k43 =>
              ixA a1 a1n v38 1 fun p46 =>
              ldI .i64 w16 p46 fun x47 =>
              ldM w16 (⟨b17, 0, none⟩ : Addr) fun x49 =>
              ∃ x50 : Int, ∃ w18 : World, (Instr.lookup 52 (.map x49) (.int .i64 x47) false).run Try.prog w16 = .ok (.int .i64 x50) w18 ∧
              pif (x50 == 2) (
                k43 ((v37, v37n, v37c), ()) w18) (
                jn (σ := (Option Addr × Nat × Nat) × Unit) (fun k52 =>
                  gd (α := (Option Addr × Nat × Nat)) (!(v38 == 0)) (fun k55 =>
                    ldC w18 (⟨b2, 0, none⟩ : Addr) fun x56 x56n x56c =>
                    k55 (x56, x56n, x56c) w18) (none, 0, 0) w18 fun x57 w20 =>
                  gd (α := (Option Nat)) (!(v38 == 0)) (fun k58 =>
                    ldM w20 (⟨b7, 0, none⟩ : Addr) fun x59 =>
                    k58 x59 w20) none w20 fun x60 w21 =>
                  gd (α := Int) (!(v38 == 0)) (fun k61 =>
                    ∃ x62 : Int, ∃ w22 : World, (Instr.lookup 52 (.map x60) (.int .i64 x47) false).run Try.prog w21 = .ok (.int .i64 x62) w22 ∧
                    k61 x62 w22) 0 w21 fun x63 w23 =>
                  gd (α := Addr) (!(v38 == 0)) (fun k64 =>
                    ixA x57.1 x57.2.1 (IntKind.wrap .i64 (x63 - 1)) 3 fun p65 =>
                    k64 p65 w23) ⟨0, 0, none⟩ w23 fun x66 w24 =>
                  gd (α := Int) (!(v38 == 0)) (fun k67 =>
                    ldI .i64 w24 (x66.add 1) fun x68 =>
                    k67 x68 w24) 0 w24 fun x69 w25 =>
                  gd (α := Value) ((!(v38 == 0)) && (decide (x69 > 0))) (fun k70 =>
                    ldV w25 (⟨b33, 0, none⟩ : Addr) fun x71 =>
                    k70 x71 w25) undef w25 fun x72 w26 =>
                  gd (α := Bool) ((!(v38 == 0)) && (decide (x69 > 0))) (fun k73 =>
                    clF Try.prog (x72) [.int .i64 x47] w26 fun e75 w27 => ∃ x74 : Bool, e75 = Ending.returned (.bool x74) ∧
                    k73 x74 w27) false w26 fun x76 w28 =>
                  pif (cond (v38 == 0) true (cond (decide (x69 > 0)) (!x76) false)) (
                    alc w28 [.int .i64 x47] 3 fun b78 w29 =>
                    ∃ (x79 : Option Addr) (x79n x79c : Nat), ∃ w30 : World, (Builtin.append_ #[25, 25] 25 #[.slice v37 v37n v37c, .slice (some (⟨b78, 0, none⟩ : Addr)) 1 1]).run Try.prog w29 = .ok (.slice x79 x79n x79c) w30 ∧
                    k52 ((x79, x79n, x79c), ()) w30) (
                    k52 ((v37, v37n, v37c), ()) w28)) fun s53 w19 => match s53 with
                | ((v51, v51n, v51c), _) =>
                ldM w19 (⟨b17, 0, none⟩ : Addr) fun x81 =>
                ∃ w31 : World, (Instr.mapUpdate 52 (.map x81) (.int .i64 x47) (.int .i64 2)).run Try.prog w19 = .ok () w31 ∧
                k43 ((v51, v51n, v51c), ()) w31)) fun s44 w17 => match s44 with
            | ((v42, v42n, v42c), _) =>
            k39 ((v42, v42n, v42c), (IntKind.wrap .i64 (v38 + 1)), ()) w17) (
            R (.tuple #[.slice v37 v37n v37c, .int .i64 0]) w16)) ((none, 0, 0), 0, ()) w15)) (0, ()) w8)
def An16 : An := .seq (.leaf) (.seq (.leaf) (.seq (.seq (.leaf) (.seq (.leaf) (.cond (.seq (.leaf) (.leaf)) (.leaf)))) (.seq (.leaf) (.seq (.seq (.leaf) (.blk (.loop [(28, .one (.int .i64))] (.seq (.leaf) (.seq (.cond (.leaf) (.leaf)) (.seq (.blk (.seq (.leaf) (.leaf))) (.leaf))))))) (.seq (.leaf) (.seq (.leaf) (.seq (.leaf) (.seq (.leaf) (.seq (.seq (.leaf) (.blk (.loop [(13, .one (.slc)), (39, .one (.int .i64))] (.seq (.leaf) (.seq (.cond (.leaf) (.leaf)) (.seq (.join [(13, .one (.slc))] (.blk (.seq (.leaf) (.seq (.seq (.leaf) (.cond (.leaf) (.leaf))) (.seq (.join [(13, .one (.slc))] (.seq (.leaf) (.cond (.leaf) (.leaf)))) (.leaf)))))) (.leaf))))))) (.seq (.leaf) (.leaf)))))))))))
theorem V16_eq (a0 : Option Addr) (a0n : Nat) (a0c : Nat) (a1 : Option Addr) (a1n : Nat) (a1c : Nat) (w : World) (R : Value → World → Prop) : evF Try.prog Try.f16 An16 [.slice a0 a0n a0c, .slice a1 a1n a1c] w R = V16 a0 a0n a0c a1 a1n a1c w R := by kernel_rfl
theorem V16_calls (a0 : Option Addr) (a0n : Nat) (a0c : Nat) (a1 : Option Addr) (a1n : Nat) (a1c : Nat) (w : World) (R : Value → World → Prop) (h : V16 a0 a0n a0c a1 a1n a1c w R) : Calls Try.prog 16 #[.slice a0 a0n a0c, .slice a1 a1n a1c] w fun e w' => ∃ v, e = .returned v ∧ R v w' :=
  calls_of_ev (args := [.slice a0 a0n a0c, .slice a1 a1n a1c]) Try.func16 (Nat.le_of_ble_eq_true (by kernel_rfl)) (by rw [V16_eq]; exact h)
theorem ok16 : fnOk Try.prog 16 = true := by kernel_rfl

/-! depot/depotref15.Shrink -/
def V17 (a0 : Option Addr) (a0n : Nat) (a0c : Nat) (a1 : Option Addr) (a1n : Nat) (a1c : Nat) (w : World) (R : Value → World → Prop) : Prop :=
  cl Try.prog 45 [.slice a0 a0n a0c, .slice a1 a1n a1c] w fun e4 w1 => ∃ x3 : Int, e4 = Ending.returned (.int .i64 x3) ∧
  pif (x3 != 0) (
    R (.tuple #[.slice none 0 0, .int .i64 x3]) w1) (
    cl Try.prog 46 [.slice a0 a0n a0c, .slice a1 a1n a1c] w1 fun e9 w2 => ∃ (x8 : Option Addr) (x8n x8c : Nat), e9 = Ending.returned (.slice x8 x8n x8c) ∧
    lp (σ := (Option Addr × Nat × Nat) × Int × Unit) (fun s15 w3 k14 => match s15 with
      | ((v12, v12n, v12c), v13, _) =>
      pif (decide (v13 < (a1n : Int))) (
        jn (σ := (Option Addr × Nat × Nat) × Unit) (fun k18 =>
          ixA a1 a1n v13 1 fun p21 =>
          ldI .i64 w3 p21 fun x22 =>
          cl Try.prog 36 [.slice a0 a0n a0c, .int .i64 x22] w3 fun e24 w5 => ∃ x23 : Int, e24 = Ending.returned (.int .i64 x23) ∧
          0 ≤ v13 ∧ v13 ≤ (a1c : Int) ∧
          ixA a1 a1n v13 1 fun p25 =>
          ldI .i64 (World.drew w5) p25 fun x26 =>
          cl Try.prog 42 [.slice (slA a1 a1c 0 1) ((Int.toNat v13) - 0) (a1c - 0), .int .i64 x26] (World.drew w5) fun e28 w6 => ∃ x27 : Bool, e28 = Ending.returned (.bool x27) ∧
          pif x27 (
            k18 ((v12, v12n, v12c), ()) w6) (
            gd (α := Addr) (!(v13 == 0)) (fun k30 =>
              ixA a0 a0n x23 3 fun p31 =>
              k30 p31 w6) ⟨0, 0, none⟩ w6 fun x32 w7 =>
            gd (α := Int) (!(v13 == 0)) (fun k33 =>
              ldI .i64 w7 (x32.add 1) fun x34 =>
              k33 x34 w7) 0 w7 fun x35 w8 =>
            gd (α := Addr) ((!(v13 == 0)) && (decide (x35 > 0))) (fun k36 =>
              ixA x8 x8n x23 1 fun p37 =>
              k36 p37 w8) ⟨0, 0, none⟩ w8 fun x38 w9 =>
            gd (α := Bool) ((!(v13 == 0)) && (decide (x35 > 0))) (fun k39 =>
              ldB w9 x38 fun x40 =>
              k39 x40 w9) false w9 fun x41 w10 =>
            pif (cond (v13 == 0) true (cond (decide (x35 > 0)) (!x41) false)) (
              ixA a1 a1n v13 1 fun p43 =>
              ldI .i64 w10 p43 fun x44 =>
              alc w10 [.int .i64 x44] 3 fun b45 w11 =>
              ∃ (x46 : Option Addr) (x46n x46c : Nat), ∃ w12 : World, (Builtin.append_ #[25, 25] 25 #[.slice v12 v12n v12c, .slice (some (⟨b45, 0, none⟩ : Addr)) 1 1]).run Try.prog w11 = .ok (.slice x46 x46n x46c) w12 ∧
              k18 ((x46, x46n, x46c), ()) w12) (
              k18 ((v12, v12n, v12c), ()) w10))) fun s19 w4 => match s19 with
        | ((v17, v17n, v17c), _) =>
        k14 ((v17, v17n, v17c), (IntKind.wrap .i64 (v13 + 1)), ()) w4) (
        R (.tuple #[.slice v12 v12n v12c, .int .i64 0]) w3)) ((none, 0, 0), 0, ()) w2)
def An17 : An := .seq (.leaf) (.seq (.seq (.leaf) (.seq (.leaf) (.cond (.seq (.leaf) (.leaf)) (.leaf)))) (.seq (.leaf) (.seq (.leaf) (.seq (.seq (.leaf) (.blk (.loop [(8, .one (.slc)), (9, .one (.int .i64))] (.seq (.seq (.leaf) (.cond (.leaf) (.leaf))) (.seq (.join [(8, .one (.slc))] (.blk (.seq (.leaf) (.seq (.seq (.draw [0, 0, 3, 0, 0, 24, 56, 127]) (.cond (.leaf) (.leaf))) (.seq (.leaf) (.cond (.leaf) (.leaf))))))) (.leaf)))))) (.seq (.leaf) (.leaf))))))
theorem V17_eq (a0 : Option Addr) (a0n : Nat) (a0c : Nat) (a1 : Option Addr) (a1n : Nat) (a1c : Nat) (w : World) (R : Value → World → Prop) : evF Try.prog Try.f17 An17 [.slice a0 a0n a0c, .slice a1 a1n a1c] w R = V17 a0 a0n a0c a1 a1n a1c w R := by kernel_rfl
theorem V17_calls (a0 : Option Addr) (a0n : Nat) (a0c : Nat) (a1 : Option Addr) (a1n : Nat) (a1c : Nat) (w : World) (R : Value → World → Prop) (h : V17 a0 a0n a0c a1 a1n a1c w R) : Calls Try.prog 17 #[.slice a0 a0n a0c, .slice a1 a1n a1c] w fun e w' => ∃ v, e = .returned v ∧ R v w' :=
  calls_of_ev (args := [.slice a0 a0n a0c, .slice a1 a1n a1c]) Try.func17 (Nat.le_of_ble_eq_true (by kernel_rfl)) (by rw [V17_eq]; exact h)
theorem ok17 : fnOk Try.prog 17 = true := by kernel_rfl

/-! depot/depotref00.SameInts -/
def V18 (a0 : Option Addr) (a0n : Nat) (a0c : Nat) (a1 : Option Addr) (a1n : Nat) (a1c : Nat) (w : World) (R : Value → World → Prop) : Prop :=
  pif ((a0n : Int) != (a1n : Int)) (
    R (.bool false) w) (
    lp (σ := Int × Unit) (fun s7 w1 k6 => match s7 with
      | (v5, _) =>
      pif (decide (v5 < (a0n : Int))) (
        ixA a0 a0n v5 1 fun p9 =>
        ldI .i64 (World.drew w1) p9 fun x10 =>
        ixA a1 a1n v5 1 fun p11 =>
        ldI .i64 (World.drew w1) p11 fun x12 =>
        pif (x10 != x12) (
          R (.bool false) (World.drew w1)) (
          k6 ((IntKind.wrap .i64 (v5 + 1)), ()) (World.drew w1))) (
        R (.bool true) w1)) (0, ()) w)
def An18 : An := .seq (.leaf) (.seq (.seq (.leaf) (.cond (.seq (.leaf) (.leaf)) (.leaf))) (.seq (.seq (.leaf) (.blk (.loop [(5, .one (.int .i64))] (.seq (.seq (.leaf) (.cond (.leaf) (.leaf))) (.seq (.blk (.seq (.draw [0, 0, 3, 7, 0, 0, 48, 112, 255]) (.cond (.seq (.leaf) (.leaf)) (.leaf)))) (.leaf)))))) (.seq (.leaf) (.leaf))))
theorem V18_eq (a0 : Option Addr) (a0n : Nat) (a0c : Nat) (a1 : Option Addr) (a1n : Nat) (a1c : Nat) (w : World) (R : Value → World → Prop) : evF Try.prog Try.f18 An18 [.slice a0 a0n a0c, .slice a1 a1n a1c] w R = V18 a0 a0n a0c a1 a1n a1c w R := by kernel_rfl
theorem V18_calls (a0 : Option Addr) (a0n : Nat) (a0c : Nat) (a1 : Option Addr) (a1n : Nat) (a1c : Nat) (w : World) (R : Value → World → Prop) (h : V18 a0 a0n a0c a1 a1n a1c w R) : Calls Try.prog 18 #[.slice a0 a0n a0c, .slice a1 a1n a1c] w fun e w' => ∃ v, e = .returned v ∧ R v w' :=
  calls_of_ev (args := [.slice a0 a0n a0c, .slice a1 a1n a1c]) Try.func18 (Nat.le_of_ble_eq_true (by kernel_rfl)) (by rw [V18_eq]; exact h)
theorem ok18 : fnOk Try.prog 18 = true := by kernel_rfl

/-! depot/depotref15.False -/
def V23 (a0 : Option Addr) (a0n : Nat) (a0c : Nat) (a1 : Option Addr) (a1n : Nat) (a1c : Nat) (w : World) (R : Value → World → Prop) : Prop :=
  lp (σ := Int × Unit) (fun s5 w1 k4 => match s5 with
    | (v3, _) =>
    pif (decide (v3 < (a1n : Int))) (
      ixA a1 a1n v3 1 fun p8 =>
      ldI .i64 w1 p8 fun x9 =>
      cl Try.prog 36 [.slice a0 a0n a0c, .int .i64 x9] w1 fun e11 w2 => ∃ x10 : Int, e11 = Ending.returned (.int .i64 x10) ∧
      pif (decide (x10 < 0)) (
        R (.bool false) w2) (
        k4 ((IntKind.wrap .i64 (v3 + 1)), ()) w2)) (
      R (.bool true) w1)) (0, ()) w
def An23 : An := .seq (.leaf) (.seq (.seq (.leaf) (.blk (.loop [(5, .one (.int .i64))] (.seq (.seq (.leaf) (.cond (.leaf) (.leaf))) (.seq (.blk (.seq (.leaf) (.cond (.seq (.leaf) (.leaf)) (.leaf)))) (.leaf)))))) (.seq (.leaf) (.leaf)))
theorem V23_eq (a0 : Option Addr) (a0n : Nat) (a0c : Nat) (a1 : Option Addr) (a1n : Nat) (a1c : Nat) (w : World) (R : Value → World → Prop) : evF Try.prog Try.f23 An23 [.slice a0 a0n a0c, .slice a1 a1n a1c] w R = V23 a0 a0n a0c a1 a1n a1c w R := by kernel_rfl
theorem V23_calls (a0 : Option Addr) (a0n : Nat) (a0c : Nat) (a1 : Option Addr) (a1n : Nat) (a1c : Nat) (w : World) (R : Value → World → Prop) (h : V23 a0 a0n a0c a1 a1n a1c w R) : Calls Try.prog 23 #[.slice a0 a0n a0c, .slice a1 a1n a1c] w fun e w' => ∃ v, e = .returned v ∧ R v w' :=
  calls_of_ev (args := [.slice a0 a0n a0c, .slice a1 a1n a1c]) Try.func23 (Nat.le_of_ble_eq_true (by kernel_rfl)) (by rw [V23_eq]; exact h)
theorem ok23 : fnOk Try.prog 23 = true := by kernel_rfl

/-! depot/depotkit.ApartInts -/
def V32 (a0 : Option Addr) (a0n : Nat) (a0c : Nat) (w : World) (R : Value → World → Prop) : Prop :=
  lp (σ := Int × Unit) (fun s5 w1 k4 => match s5 with
    | (v3, _) =>
    pif (decide (v3 < (a0n : Int))) (
      lp (σ := Int × Unit) (fun s10 w2 k9 => match s10 with
        | (v8, _) =>
        ixA a0 a0n v3 1 fun p12 =>
        ldC w2 p12 fun x13 x13n x13c =>
        pif (decide (v8 < (x13n : Int))) (
          ixA a0 a0n v3 1 fun p14 =>
          ldC (World.drew w2) p14 fun x15 x15n x15c =>
          cl Try.prog 54 [.int .i64 v3, .int .i64 v8] (World.drew w2) fun e17 w3 => ∃ x16 : Int, e17 = Ending.returned (.int .i64 x16) ∧
          (
            ldC w3 p14 fun x18 x18n x18c =>
            ((.slice x18 x18n x18c : Value) = .slice x15 x15n x15c)) ∧
          ixA x15 x15n v8 1 fun p19 =>
          st w3 (p19.add 0) (.int .i64 x16) fun w4 =>
          k9 ((IntKind.wrap .i64 (v8 + 1)), ()) w4) (
          k4 ((IntKind.wrap .i64 (v3 + 1)), ()) w2)) (0, ()) w1) (
      lp (σ := (Option Addr × Nat × Nat) × Int × Unit) (fun s27 w5 k26 => match s27 with
        | ((v24, v24n, v24c), v25, _) =>
        pif (decide (v25 < (a0n : Int))) (
          ixA a0 a0n v25 1 fun p30 =>
          ldC w5 p30 fun x31 x31n x31c =>
          lp (σ := (Option Addr × Nat × Nat) × Int × Unit) (fun s36 w6 k35 => match s36 with
            | ((v33, v33n, v33c), v34, _) =>
            pif (decide (v34 < 64)) (
              ixA a0 a0n v25 1 fun p39 =>
              ldC w6 p39 fun x40 x40n x40c =>
              cl Try.prog 54 [.int .i64 v25, .int .i64 (IntKind.wrap .i64 ((x40n : Int) + v34))] w6 fun e42 w7 => ∃ x41 : Int, e42 = Ending.returned (.int .i64 x41) ∧
              alc w7 [.int .i64 x41] 3 fun b43 w8 =>
              ∃ (x44 : Option Addr) (x44n x44c : Nat), ∃ w9 : World, (Builtin.append_ #[25, 25] 25 #[.slice v33 v33n v33c, .slice (some (⟨b43, 0, none⟩ : Addr)) 1 1]).run Try.prog w8 = .ok (.slice x44 x44n x44c) w9 ∧
              k35 ((x44, x44n, x44c), (IntKind.wrap .i64 (v34 + 1)), ()) w9) (
              alc w6 [.slice v33 v33n v33c] 25 fun b47 w10 =>
              ∃ (x48 : Option Addr) (x48n x48c : Nat), ∃ w11 : World, (Builtin.append_ #[43, 43] 43 #[.slice v24 v24n v24c, .slice (some (⟨b47, 0, none⟩ : Addr)) 1 1]).run Try.prog w10 = .ok (.slice x48 x48n x48c) w11 ∧
              k26 ((x48, x48n, x48c), (IntKind.wrap .i64 (v25 + 1)), ()) w11)) ((x31, x31n, x31c), 0, ()) w5) (
          lp (σ := Int × Unit) (fun s53 w12 k52 => match s53 with
            | (v51, _) =>
            pif (decide (v51 < (a0n : Int))) (
              lp (σ := Int × Unit) (fun s58 w13 k57 => match s58 with
                | (v56, _) =>
                ixA v24 v24n v51 1 fun p60 =>
                ldC w13 p60 fun x61 x61n x61c =>
                pif (decide (v56 < (x61n : Int))) (
                  ixA v24 v24n v51 1 fun p62 =>
                  ldC (World.drew w13) p62 fun x63 x63n x63c =>
                  ixA x63 x63n v56 1 fun p64 =>
                  ldI .i64 (World.drew w13) p64 fun x65 =>
                  cl Try.prog 54 [.int .i64 v51, .int .i64 v56] (World.drew w13) fun e67 w14 => ∃ x66 : Int, e67 = Ending.returned (.int .i64 x66) ∧
                  (
                    ldI .i64 w14 p64 fun x68 =>
                    ((.int .i64 x68 : Value) = .int .i64 x65)) ∧
                  (
                    ldC w14 p62 fun x69 x69n x69c =>
                    ((.slice x69 x69n x69c : Value) = .slice x63 x63n x63c)) ∧
                  gd (α := Addr) (!(!(x65 == x66))) (fun k70 =>
                    ixA a0 a0n v51 1 fun p71 =>
                    k70 p71 w14) ⟨0, 0, none⟩ w14 fun x72 _ =>
                  gd (α := (Option Addr × Nat × Nat)) (!(!(x65 == x66))) (fun k73 =>
                    ldC w14 x72 fun x74 x74n x74c =>
                    k73 (x74, x74n, x74c) w14) (none, 0, 0) w14 fun x75 _ =>
                  gd (α := Addr) ((!(!(x65 == x66))) && (decide (v56 < (x75.2.1 : Int)))) (fun k76 =>
                    ixA a0 a0n v51 1 fun p77 =>
                    k76 p77 w14) ⟨0, 0, none⟩ w14 fun x78 _ =>
                  gd (α := (Option Addr × Nat × Nat)) ((!(!(x65 == x66))) && (decide (v56 < (x75.2.1 : Int)))) (fun k79 =>
                    ldC w14 x78 fun x80 x80n x80c =>
                    k79 (x80, x80n, x80c) w14) (none, 0, 0) w14 fun x81 _ =>
                  gd (α := Addr) ((!(!(x65 == x66))) && (decide (v56 < (x75.2.1 : Int)))) (fun k82 =>
                    ixA x81.1 x81.2.1 v56 1 fun p83 =>
                    k82 p83 w14) ⟨0, 0, none⟩ w14 fun x84 _ =>
                  gd (α := Int) ((!(!(x65 == x66))) && (decide (v56 < (x75.2.1 : Int)))) (fun k85 =>
                    ldI .i64 w14 x84 fun x86 =>
                    k85 x86 w14) 0 w14 fun x87 _ =>
                  gd (α := Int) ((!(!(x65 == x66))) && (decide (v56 < (x75.2.1 : Int)))) (fun k88 =>
                    cl Try.prog 54 [.int .i64 v51, .int .i64 v56] w14 fun e90 w15 => ∃ x89 : Int, e90 = Ending.returned (.int .i64 x89) ∧
                    k88 x89 w15) 0 w14 fun x91 w16 =>
                  (((!(!(x65 == x66))) && (decide (v56 < (x75.2.1 : Int)))) = true →
                    ldI .i64 w16 x84 fun x92 =>
                    ((.int .i64 x92 : Value) = .int .i64 x87)) ∧
                  (((!(!(x65 == x66))) && (decide (v56 < (x75.2.1 : Int)))) = true →
                    ldC w16 x78 fun x93 x93n x93c =>
                    ((.slice x93 x93n x93c : Value) = .slice x81.1 x81.2.1 x81.2.2)) ∧
                  pif (cond (!(x65 == x66)) true (cond (decide (v56 < (x75.2.1 : Int))) (!(x87 == x91)) false)) (
                    R (.bool false) w16) (
                    k57 ((IntKind.wrap .i64 (v56 + 1)), ()) w16)) (
                  k52 ((IntKind.wrap .i64 (v51 + 1)), ()) w13)) (0, ()) w12) (
              lp (σ := Int × Unit) (fun s100 w17 k99 => match s100 with
                | (v98, _) =>
                pif (decide (v98 < (a0n : Int))) (
                  lp (σ := (Option Addr × Nat × Nat) × Int × Unit) (fun s107 w18 k106 => match s107 with
                    | ((v104, v104n, v104c), v105, _) =>
                    pif (decide (v105 < 64)) (
                      cl Try.prog 54 [.int .i64 (IntKind.wrap .i64 (v98 + (a0n : Int))), .int .i64 v105] w18 fun e111 w19 => ∃ x110 : Int, e111 = Ending.returned (.int .i64 x110) ∧
                      alc w19 [.int .i64 x110] 3 fun b112 w20 =>
                      ∃ (x113 : Option Addr) (x113n x113c : Nat), ∃ w21 : World, (Builtin.append_ #[25, 25] 25 #[.slice v104 v104n v104c, .slice (some (⟨b112, 0, none⟩ : Addr)) 1 1]).run Try.prog w20 = .ok (.slice x113 x113n x113c) w21 ∧
                      k106 ((x113, x113n, x113c), (IntKind.wrap .i64 (v105 + 1)), ()) w21) (
                      ixA a0 a0n v98 1 fun p116 =>
                      ldC w18 p116 fun x117 x117n x117c =>
                      ∃ (x118 : Option Addr) (x118n x118c : Nat), ∃ w22 : World, (Builtin.append_ #[25, 25] 25 #[.slice x117 x117n x117c, .slice v104 v104n v104c]).run Try.prog w18 = .ok (.slice x118 x118n x118c) w22 ∧
                      ixA v24 v24n v98 1 fun p119 =>
                      st w22 (p119.add 0) (.slice x118 x118n x118c) fun w23 =>
                      k99 ((IntKind.wrap .i64 (v98 + 1)), ()) w23)) ((none, 0, 0), 0, ()) w17) (
                  lp (σ := Int × Unit) (fun s124 w24 k123 => match s124 with
                    | (v122, _) =>
                    pif (decide (v122 < (a0n : Int))) (
                      lp (σ := Int × Unit) (fun s129 w25 k128 => match s129 with
                        | (v127, _) =>
                        ixA a0 a0n v122 1 fun p131 =>
                        ldC w25 p131 fun x132 x132n x132c =>
                        pif (decide (v127 < (x132n : Int))) (
                          ixA a0 a0n v122 1 fun p133 =>
                          ldC (World.drew w25) p133 fun x134 x134n x134c =>
                          ixA x134 x134n v127 1 fun p135 =>
                          ldI .i64 (World.drew w25) p135 fun x136 =>
                          cl Try.prog 54 [.int .i64 v122, .int .i64 v127] (World.drew w25) fun e138 w26 => ∃ x137 : Int, e138 = Ending.returned (.int .i64 x137) ∧
                          (
                            ldI .i64 w26 p135 fun x139 =>
                            ((.int .i64 x139 : Value) = .int .i64 x136)) ∧
                          (
                            ldC w26 p133 fun x140 x140n x140c =>
                            ((.slice x140 x140n x140c : Value) = .slice x134 x134n x134c)) ∧
                          gd (α := Addr) (!(!(x136 == x137))) (fun k141 =>
                            ixA v24 v24n v122 1 fun p142 =>
                            k141 p142 w26) ⟨0, 0, none⟩ w26 fun x143 _ =>
                          gd (α := (Option Addr × Nat × Nat)) (!(!(x136 == x137))) (fun k144 =>
                            ldC w26 x143 fun x145 x145n x145c =>
                            k144 (x145, x145n, x145c) w26) (none, 0, 0) w26 fun x146 _ =>
                          gd (α := Addr) (!(!(x136 == x137))) (fun k147 =>
                            ixA x146.1 x146.2.1 v127 1 fun p148 =>
                            k147 p148 w26) ⟨0, 0, none⟩ w26 fun x149 _ =>
                          gd (α := Int) (!(!(x136 == x137))) (fun k150 =>
                            ldI .i64 w26 x149 fun x151 =>
                            k150 x151 w26) 0 w26 fun x152 _ =>
                          gd (α := Int) (!(!(x136 == x137))) (fun k153 =>
                            cl Try.prog 54 [.int .i64 v122, .int .i64 v127] w26 fun e155 w27 => ∃ x154 : Int, e155 = Ending.returned (.int .i64 x154) ∧
                            k153 x154 w27) 0 w26 fun x156 w28 =>
                          ((!(!(x136 == x137))) = true →
                            ldI .i64 w28 x149 fun x157 =>
                            ((.int .i64 x157 : Value) = .int .i64 x152)) ∧
                          ((!(!(x136 == x137))) = true →
                            ldC w28 x143 fun x158 x158n x158c =>
                            ((.slice x158 x158n x158c : Value) = .slice x146.1 x146.2.1 x146.2.2)) ∧
                          pif (cond (!(x136 == x137)) true (!(x152 == x156))) (
                            R (.bool false) w28) (
                            k128 ((IntKind.wrap .i64 (v127 + 1)), ()) w28)) (
                          k123 ((IntKind.wrap .i64 (v122 + 1)), ()) w25)) (0, ()) w24) (
                      R (.bool true) w24)) (0, ()) w17)) (0, ()) w12)) (0, ()) w5)) ((none, 0, 0), 0, ()) w1)) (0, ()) w
def An32 : An := .seq (.leaf) (.seq (.seq (.leaf) (.blk (.loop [(3, .one (.int .i64))] (.seq (.seq (.leaf) (.cond (.leaf) (.leaf))) (.seq (.blk (.seq (.leaf) (.blk (.loop [(4, .one (.int .i64))] (.seq (.seq (.leaf) (.cond (.leaf) (.leaf))) (.seq (.blk (.draw [0, 0, 3, 7, 0, 0, 0, 96, 255, 511])) (.leaf))))))) (.leaf)))))) (.seq (.leaf) (.seq (.seq (.leaf) (.blk (.loop [(5, .one (.slc)), (6, .one (.int .i64))] (.seq (.seq (.leaf) (.cond (.leaf) (.leaf))) (.seq (.blk (.seq (.leaf) (.seq (.seq (.leaf) (.blk (.loop [(7, .one (.slc)), (8, .one (.int .i64))] (.seq (.seq (.leaf) (.cond (.leaf) (.leaf))) (.seq (.blk (.leaf)) (.leaf)))))) (.leaf)))) (.leaf)))))) (.seq (.seq (.leaf) (.blk (.loop [(9, .one (.int .i64))] (.seq (.seq (.leaf) (.cond (.leaf) (.leaf))) (.seq (.blk (.seq (.leaf) (.blk (.loop [(10, .one (.int .i64))] (.seq (.seq (.leaf) (.cond (.leaf) (.leaf))) (.seq (.blk (.seq (.draw [0, 0, 3, 7, 0, 31, 63, 0, 0, 384, 1023, 2047, 4095, 8191, 8191, 8191, 57343, 122879, 253951, 524287, 1048575, 2097151, 2097151, 8388607, 16777215, 2097151, 67108863, 134217727, 2097151, 2097151, 807403519, 2147483647, 4294967295, 8589934591, 17179869183]) (.cond (.seq (.leaf) (.leaf)) (.leaf)))) (.leaf))))))) (.leaf)))))) (.seq (.seq (.leaf) (.blk (.loop [(11, .one (.int .i64))] (.seq (.seq (.leaf) (.cond (.leaf) (.leaf))) (.seq (.blk (.seq (.leaf) (.seq (.seq (.leaf) (.blk (.loop [(12, .one (.slc)), (13, .one (.int .i64))] (.seq (.seq (.leaf) (.cond (.leaf) (.leaf))) (.seq (.blk (.leaf)) (.leaf)))))) (.leaf)))) (.leaf)))))) (.seq (.seq (.leaf) (.blk (.loop [(14, .one (.int .i64))] (.seq (.seq (.leaf) (.cond (.leaf) (.leaf))) (.seq (.blk (.seq (.leaf) (.blk (.loop [(15, .one (.int .i64))] (.seq (.seq (.leaf) (.cond (.leaf) (.leaf))) (.seq (.blk (.seq (.draw [0, 0, 3, 7, 0, 31, 63, 0, 0, 384, 1023, 2047, 4095, 8191, 8191, 32767, 65535, 8191, 262143, 524287, 8191, 8191, 3153919, 8388607, 16777215, 33554431]) (.cond (.seq (.leaf) (.leaf)) (.leaf)))) (.leaf))))))) (.leaf)))))) (.seq (.leaf) (.leaf))))))))
theorem V32_eq (a0 : Option Addr) (a0n : Nat) (a0c : Nat) (w : World) (R : Value → World → Prop) : evF Try.prog Try.f32 An32 [.slice a0 a0n a0c] w R = V32 a0 a0n a0c w R := by kernel_rfl
theorem V32_calls (a0 : Option Addr) (a0n : Nat) (a0c : Nat) (w : World) (R : Value → World → Prop) (h : V32 a0 a0n a0c w R) : Calls Try.prog 32 #[.slice a0 a0n a0c] w fun e w' => ∃ v, e = .returned v ∧ R v w' :=
  calls_of_ev (args := [.slice a0 a0n a0c]) Try.func32 (Nat.le_of_ble_eq_true (by kernel_rfl)) (by rw [V32_eq]; exact h)
theorem ok32 : fnOk Try.prog 32 = true := by kernel_rfl

/-! depot/lits.Formed -/
def V33 (a0 : Int) (w : World) (R : Value → World → Prop) : Prop :=
  R (.bool (cond (cond (a0 != 0) (decide (a0 ≥ (-1048576))) false) (decide (a0 ≤ 1048576)) false)) w
def An33 : An := .seq (.leaf) (.seq (.leaf) (.leaf))
theorem V33_eq (a0 : Int) (w : World) (R : Value → World → Prop) : evF Try.prog Try.f33 An33 [.int .i64 a0] w R = V33 a0 w R := by kernel_rfl
theorem V33_calls (a0 : Int) (w : World) (R : Value → World → Prop) (h : V33 a0 w R) : Calls Try.prog 33 #[.int .i64 a0] w fun e w' => ∃ v, e = .returned v ∧ R v w' :=
  calls_of_ev (args := [.int .i64 a0]) Try.func33 (Nat.le_of_ble_eq_true (by kernel_rfl)) (by rw [V33_eq]; exact h)
theorem ok33 : fnOk Try.prog 33 = true := by kernel_rfl

/-! depot/learn.reason -/
def V34 (a0_0 : Int) (a0_1 : Int) (a0_2 : Option Addr) (a0_2n : Nat) (a0_2c : Nat) (a1 : Option Nat) (w : World) (R : Value → World → Prop) : Prop :=
  alc w [.int .i64 a0_0, .int .i64 a0_1, .slice a0_2 a0_2n a0_2c] 54 fun b2 w1 =>
  ldC w1 ((⟨b2, 0, none⟩ : Addr).add 2) fun x4 x4n x4c =>
  ldI .i64 w1 ((⟨b2, 0, none⟩ : Addr).add 0) fun x5 =>
  cl Try.prog 55 [.slice x4 x4n x4c, .int .i64 x5] w1 fun e7 w2 => ∃ x6 : Bool, e7 = Ending.returned (.bool x6) ∧
  gd (α := (Option Addr × Nat × Nat)) (!(!x6)) (fun k8 =>
    ldC w2 ((⟨b2, 0, none⟩ : Addr).add 2) fun x9 x9n x9c =>
    k8 (x9, x9n, x9c) w2) (none, 0, 0) w2 fun x10 w3 =>
  gd (α := Bool) (!(!x6)) (fun k11 =>
    cl Try.prog 39 [.slice x10.1 x10.2.1 x10.2.2] w3 fun e13 w4 => ∃ x12 : Bool, e13 = Ending.returned (.bool x12) ∧
    k11 x12 w4) false w3 fun x14 w5 =>
  pif (cond (!x6) true (!x14)) (
    R (.bool false) w5) (
    ldC w5 ((⟨b2, 0, none⟩ : Addr).add 2) fun x17 x17n x17c =>
    lp (σ := Int × Unit) (fun s20 w6 k19 => match s20 with
      | (v18, _) =>
      pif (decide (v18 < (x17n : Int))) (
        ixA x17 x17n v18 1 fun p23 =>
        ldI .i64 w6 p23 fun x24 =>
        ldI .i64 w6 ((⟨b2, 0, none⟩ : Addr).add 0) fun x26 =>
        gd (α := Int) (x24 != x26) (fun k27 =>
          ∃ x28 : Int, ∃ w7 : World, (Instr.lookup 52 (.map a1) (.int .i64 (IntKind.wrap .i64 (0 - x24))) false).run Try.prog w6 = .ok (.int .i64 x28) w7 ∧
          k27 x28 w7) 0 w6 fun x29 w8 =>
        pif (cond (x24 != x26) (x29 == 0) false) (
          R (.bool false) w8) (
          k19 ((IntKind.wrap .i64 (v18 + 1)), ()) w8)) (
        R (.bool true) w6)) (0, ()) w5)
def An34 : An := .seq (.leaf) (.seq (.seq (.leaf) (.cond (.seq (.leaf) (.leaf)) (.leaf))) (.seq (.seq (.leaf) (.blk (.loop [(22, .one (.int .i64))] (.seq (.leaf) (.seq (.cond (.leaf) (.leaf)) (.seq (.blk (.seq (.leaf) (.seq (.leaf) (.cond (.seq (.leaf) (.leaf)) (.leaf))))) (.leaf))))))) (.seq (.leaf) (.leaf))))
theorem V34_eq (a0_0 : Int) (a0_1 : Int) (a0_2 : Option Addr) (a0_2n : Nat) (a0_2c : Nat) (a1 : Option Nat) (w : World) (R : Value → World → Prop) : evF Try.prog Try.f34 An34 [.agg #[.int .i64 a0_0, .int .i64 a0_1, .slice a0_2 a0_2n a0_2c], .map a1] w R = V34 a0_0 a0_1 a0_2 a0_2n a0_2c a1 w R := by kernel_rfl
theorem V34_calls (a0_0 : Int) (a0_1 : Int) (a0_2 : Option Addr) (a0_2n : Nat) (a0_2c : Nat) (a1 : Option Nat) (w : World) (R : Value → World → Prop) (h : V34 a0_0 a0_1 a0_2 a0_2n a0_2c a1 w R) : Calls Try.prog 34 #[.agg #[.int .i64 a0_0, .int .i64 a0_1, .slice a0_2 a0_2n a0_2c], .map a1] w fun e w' => ∃ v, e = .returned v ∧ R v w' :=
  calls_of_ev (args := [.agg #[.int .i64 a0_0, .int .i64 a0_1, .slice a0_2 a0_2n a0_2c], .map a1]) Try.func34 (Nat.le_of_ble_eq_true (by kernel_rfl)) (by rw [V34_eq]; exact h)
theorem ok34 : fnOk Try.prog 34 = true := by kernel_rfl

/-! depot/depotref01.Formed -/
def V35 (a0 : Int) (w : World) (R : Value → World → Prop) : Prop :=
  R (.bool (cond (cond (decide (a0 ≥ 1)) (decide (a0 ≤ 1048576)) false) true (cond (decide (a0 ≥ (-1048576))) (decide (a0 ≤ (-1))) false))) w
def An35 : An := .seq (.leaf) (.seq (.leaf) (.leaf))
theorem V35_eq (a0 : Int) (w : World) (R : Value → World → Prop) : evF Try.prog Try.f35 An35 [.int .i64 a0] w R = V35 a0 w R := by kernel_rfl
theorem V35_calls (a0 : Int) (w : World) (R : Value → World → Prop) (h : V35 a0 w R) : Calls Try.prog 35 #[.int .i64 a0] w fun e w' => ∃ v, e = .returned v ∧ R v w' :=
  calls_of_ev (args := [.int .i64 a0]) Try.func35 (Nat.le_of_ble_eq_true (by kernel_rfl)) (by rw [V35_eq]; exact h)
theorem ok35 : fnOk Try.prog 35 = true := by kernel_rfl

/-! depot/depotref15.Place -/
def V36 (a0 : Option Addr) (a0n : Nat) (a0c : Nat) (a1 : Int) (w : World) (R : Value → World → Prop) : Prop :=
  lp (σ := Int × Unit) (fun s5 w1 k4 => match s5 with
    | (v3, _) =>
    pif (decide (v3 < (a0n : Int))) (
      ixA a0 a0n v3 3 fun p8 =>
      ldI .i64 w1 (p8.add 0) fun x9 =>
      pif (x9 == (IntKind.wrap .i64 (0 - a1))) (
        R (.int .i64 v3) w1) (
        k4 ((IntKind.wrap .i64 (v3 + 1)), ()) w1)) (
      R (.int .i64 (-1)) w1)) (0, ()) w
def An36 : An := .seq (.leaf) (.seq (.seq (.leaf) (.blk (.loop [(5, .one (.int .i64))] (.seq (.seq (.leaf) (.cond (.leaf) (.leaf))) (.seq (.blk (.seq (.leaf) (.cond (.seq (.leaf) (.leaf)) (.leaf)))) (.leaf)))))) (.seq (.leaf) (.leaf)))
theorem V36_eq (a0 : Option Addr) (a0n : Nat) (a0c : Nat) (a1 : Int) (w : World) (R : Value → World → Prop) : evF Try.prog Try.f36 An36 [.slice a0 a0n a0c, .int .i64 a1] w R = V36 a0 a0n a0c a1 w R := by kernel_rfl
theorem V36_calls (a0 : Option Addr) (a0n : Nat) (a0c : Nat) (a1 : Int) (w : World) (R : Value → World → Prop) (h : V36 a0 a0n a0c a1 w R) : Calls Try.prog 36 #[.slice a0 a0n a0c, .int .i64 a1] w fun e w' => ∃ v, e = .returned v ∧ R v w' :=
  calls_of_ev (args := [.slice a0 a0n a0c, .int .i64 a1]) Try.func36 (Nat.le_of_ble_eq_true (by kernel_rfl)) (by rw [V36_eq]; exact h)
theorem ok36 : fnOk Try.prog 36 = true := by kernel_rfl

/-! depot/depotref15.leveled -/
def V37 (a0 : Option Addr) (a0n : Nat) (a0c : Nat) (a1 : Int) (w : World) (R : Value → World → Prop) : Prop :=
  jn (σ := Int × Unit) (fun k4 =>
    pif (decide (a1 > 0)) (
      ixA a0 a0n (IntKind.wrap .i64 (a1 - 1)) 3 fun p8 =>
      ldI .i64 w (p8.add 1) fun x9 =>
      k4 (x9, ()) w) (
      k4 (0, ()) w)) fun s5 w1 => match s5 with
  | (v3, _) =>
  ixA a0 a0n a1 3 fun p11 =>
  ldI .i64 w1 (p11.add 1) fun x12 =>
  pif (cond (x12 != v3) (x12 != (IntKind.wrap .i64 (v3 + 1))) false) (
    R (.bool false) w1) (
    pif (x12 == 0) (
      R (.bool true) w1) (
      ixA a0 a0n a1 3 fun p18 =>
      ldC w1 (p18.add 2) fun x19 x19n x19c =>
      R (.bool ((x12 != v3) == ((x19n : Int) == 0))) w1))
def An37 : An := .seq (.leaf) (.seq (.leaf) (.seq (.join [(5, .one (.int .i64))] (.seq (.leaf) (.cond (.leaf) (.leaf)))) (.seq (.leaf) (.seq (.seq (.leaf) (.cond (.seq (.leaf) (.leaf)) (.leaf))) (.seq (.seq (.leaf) (.cond (.seq (.leaf) (.leaf)) (.leaf))) (.seq (.leaf) (.leaf)))))))
theorem V37_eq (a0 : Option Addr) (a0n : Nat) (a0c : Nat) (a1 : Int) (w : World) (R : Value → World → Prop) : evF Try.prog Try.f37 An37 [.slice a0 a0n a0c, .int .i64 a1] w R = V37 a0 a0n a0c a1 w R := by kernel_rfl
theorem V37_calls (a0 : Option Addr) (a0n : Nat) (a0c : Nat) (a1 : Int) (w : World) (R : Value → World → Prop) (h : V37 a0 a0n a0c a1 w R) : Calls Try.prog 37 #[.slice a0 a0n a0c, .int .i64 a1] w fun e w' => ∃ v, e = .returned v ∧ R v w' :=
  calls_of_ev (args := [.slice a0 a0n a0c, .int .i64 a1]) Try.func37 (Nat.le_of_ble_eq_true (by kernel_rfl)) (by rw [V37_eq]; exact h)
theorem ok37 : fnOk Try.prog 37 = true := by kernel_rfl

/-! depot/depotref15.reasoned -/
def V38 (a0 : Option Addr) (a0n : Nat) (a0c : Nat) (a1 : Int) (w : World) (R : Value → World → Prop) : Prop :=
  ixA a0 a0n a1 3 fun p3 =>
  ldC w (p3.add 2) fun x4 x4n x4c =>
  cl Try.prog 41 [.slice x4 x4n x4c] w fun e7 w1 => ∃ x6 : Bool, e7 = Ending.returned (.bool x6) ∧
  gd (α := Addr) (!(!x6)) (fun k8 =>
    ixA a0 a0n a1 3 fun p9 =>
    k8 p9 w1) ⟨0, 0, none⟩ w1 fun x10 w2 =>
  gd (α := Int) (!(!x6)) (fun k11 =>
    ldI .i64 w2 (x10.add 0) fun x12 =>
    k11 x12 w2) 0 w2 fun x13 w3 =>
  gd (α := Bool) (!(!x6)) (fun k14 =>
    cl Try.prog 42 [.slice x4 x4n x4c, .int .i64 x13] w3 fun e16 w4 => ∃ x15 : Bool, e16 = Ending.returned (.bool x15) ∧
    k14 x15 w4) false w3 fun x17 w5 =>
  pif (cond (!x6) true (!x17)) (
    R (.bool false) w5) (
    lp (σ := Int × Unit) (fun s22 w6 k21 => match s22 with
      | (v20, _) =>
      pif (decide (v20 < (x4n : Int))) (
        ixA x4 x4n v20 1 fun p24 =>
        ldI .i64 (World.drew w6) p24 fun x25 =>
        ixA a0 a0n a1 3 fun p26 =>
        ldI .i64 (World.drew w6) (p26.add 0) fun x27 =>
        gd (α := (Option Addr × Nat × Nat)) (x25 != x27) (fun k28 =>
          0 ≤ a1 ∧ a1 ≤ (a0c : Int) ∧
          k28 ((slA a0 a0c 0 3), ((Int.toNat a1) - 0), (a0c - 0)) (World.drew w6)) (none, 0, 0) (World.drew w6) fun x29 _ =>
        gd (α := Addr) (x25 != x27) (fun k30 =>
          ixA x4 x4n v20 1 fun p31 =>
          k30 p31 (World.drew w6)) ⟨0, 0, none⟩ (World.drew w6) fun x32 _ =>
        gd (α := Int) (x25 != x27) (fun k33 =>
          ldI .i64 (World.drew w6) x32 fun x34 =>
          k33 x34 (World.drew w6)) 0 (World.drew w6) fun x35 _ =>
        gd (α := Int) (x25 != x27) (fun k36 =>
          cl Try.prog 36 [.slice x29.1 x29.2.1 x29.2.2, .int .i64 x35] (World.drew w6) fun e38 w7 => ∃ x37 : Int, e38 = Ending.returned (.int .i64 x37) ∧
          k36 x37 w7) 0 (World.drew w6) fun x39 w8 =>
        pif (cond (x25 != x27) (decide (x39 < 0)) false) (
          R (.bool false) w8) (
          k21 ((IntKind.wrap .i64 (v20 + 1)), ()) w8)) (
        R (.bool true) w6)) (0, ()) w5)
def An38 : An := .seq (.leaf) (.seq (.leaf) (.seq (.seq (.leaf) (.cond (.seq (.leaf) (.leaf)) (.leaf))) (.seq (.seq (.leaf) (.blk (.loop [(6, .one (.int .i64))] (.seq (.seq (.leaf) (.cond (.leaf) (.leaf))) (.seq (.blk (.seq (.draw [0, 0, 3, 7, 0, 0, 48, 112, 240, 511, 1023, 2047, 2047, 8191, 2047, 2047, 51199, 116735, 262143, 524287, 1048575]) (.cond (.seq (.leaf) (.leaf)) (.leaf)))) (.leaf)))))) (.seq (.leaf) (.leaf)))))
theorem V38_eq (a0 : Option Addr) (a0n : Nat) (a0c : Nat) (a1 : Int) (w : World) (R : Value → World → Prop) : evF Try.prog Try.f38 An38 [.slice a0 a0n a0c, .int .i64 a1] w R = V38 a0 a0n a0c a1 w R := by kernel_rfl
theorem V38_calls (a0 : Option Addr) (a0n : Nat) (a0c : Nat) (a1 : Int) (w : World) (R : Value → World → Prop) (h : V38 a0 a0n a0c a1 w R) : Calls Try.prog 38 #[.slice a0 a0n a0c, .int .i64 a1] w fun e w' => ∃ v, e = .returned v ∧ R v w' :=
  calls_of_ev (args := [.slice a0 a0n a0c, .int .i64 a1]) Try.func38 (Nat.le_of_ble_eq_true (by kernel_rfl)) (by rw [V38_eq]; exact h)
theorem ok38 : fnOk Try.prog 38 = true := by kernel_rfl

/-! depot/lits.Sound -/
def V39 (a0 : Option Addr) (a0n : Nat) (a0c : Nat) (w : World) (R : Value → World → Prop) : Prop :=
  lp (σ := Int × Unit) (fun s5 w1 k4 => match s5 with
    | (v3, _) =>
    pif (decide (v3 < (a0n : Int))) (
      ixA a0 a0n v3 1 fun p8 =>
      ldI .i64 w1 p8 fun x9 =>
      cl Try.prog 33 [.int .i64 x9] w1 fun e12 w2 => ∃ x11 : Bool, e12 = Ending.returned (.bool x11) ∧
      pif (!x11) (
        R (.bool false) w2) (
        k4 ((IntKind.wrap .i64 (v3 + 1)), ()) w2)) (
      R (.bool true) w1)) (0, ()) w
def An39 : An := .seq (.leaf) (.seq (.seq (.leaf) (.blk (.loop [(7, .one (.int .i64))] (.seq (.leaf) (.seq (.cond (.leaf) (.leaf)) (.seq (.blk (.seq (.leaf) (.seq (.leaf) (.cond (.seq (.leaf) (.leaf)) (.leaf))))) (.leaf))))))) (.seq (.leaf) (.leaf)))
theorem V39_eq (a0 : Option Addr) (a0n : Nat) (a0c : Nat) (w : World) (R : Value → World → Prop) : evF Try.prog Try.f39 An39 [.slice a0 a0n a0c] w R = V39 a0 a0n a0c w R := by kernel_rfl
theorem V39_calls (a0 : Option Addr) (a0n : Nat) (a0c : Nat) (w : World) (R : Value → World → Prop) (h : V39 a0 a0n a0c w R) : Calls Try.prog 39 #[.slice a0 a0n a0c] w fun e w' => ∃ v, e = .returned v ∧ R v w' :=
  calls_of_ev (args := [.slice a0 a0n a0c]) Try.func39 (Nat.le_of_ble_eq_true (by kernel_rfl)) (by rw [V39_eq]; exact h)
theorem ok39 : fnOk Try.prog 39 = true := by kernel_rfl

/-! depot/learn.places -/
def V40 (a0 : Option Addr) (a0n : Nat) (a0c : Nat) (w : World) (R : Value → World → Prop) : Prop :=
  ∃ x3 : Option Nat, ∃ w1 : World, (Instr.makeMap 52 none).run Try.prog w = .ok (.map x3) w1 ∧
  lp (σ := Int × Unit) (fun s7 w2 k6 => match s7 with
    | (v5, _) =>
    pif (decide (v5 < (a0n : Int))) (
      ixA a0 a0n v5 3 fun p10 =>
      ldI .i64 w2 (p10.add 0) fun x11 =>
      ldI .i64 w2 (p10.add 1) fun x12 =>
      ldC w2 (p10.add 2) fun x13 x13n x13c =>
      alc w2 [.int .i64 0, .int .i64 0, .slice none 0 0] 54 fun b14 w3 =>
      st w3 ((⟨b14, 0, none⟩ : Addr).add 0) (.int .i64 x11) fun w4 =>
      st w4 ((⟨b14, 0, none⟩ : Addr).add 1) (.int .i64 x12) fun w5 =>
      st w5 ((⟨b14, 0, none⟩ : Addr).add 2) (.slice x13 x13n x13c) fun w6 =>
      ldI .i64 w6 ((⟨b14, 0, none⟩ : Addr).add 0) fun x16 =>
      ∃ w7 : World, (Instr.mapUpdate 52 (.map x3) (.int .i64 (IntKind.wrap .i64 (0 - x16))) (.int .i64 (IntKind.wrap .i64 (v5 + 1)))).run Try.prog w6 = .ok () w7 ∧
      k6 ((IntKind.wrap .i64 (v5 + 1)), ()) w7) (
      R (.map x3) w2)) (0, ()) w1
def An40 : An := .seq (.leaf) (.seq (.leaf) (.seq (.seq (.leaf) (.blk (.loop [(9, .one (.int .i64))] (.seq (.leaf) (.seq (.cond (.leaf) (.leaf)) (.seq (.blk (.seq (.leaf) (.leaf))) (.leaf))))))) (.seq (.leaf) (.leaf))))
theorem V40_eq (a0 : Option Addr) (a0n : Nat) (a0c : Nat) (w : World) (R : Value → World → Prop) : evF Try.prog Try.f40 An40 [.slice a0 a0n a0c] w R = V40 a0 a0n a0c w R := by kernel_rfl
theorem V40_calls (a0 : Option Addr) (a0n : Nat) (a0c : Nat) (w : World) (R : Value → World → Prop) (h : V40 a0 a0n a0c w R) : Calls Try.prog 40 #[.slice a0 a0n a0c] w fun e w' => ∃ v, e = .returned v ∧ R v w' :=
  calls_of_ev (args := [.slice a0 a0n a0c]) Try.func40 (Nat.le_of_ble_eq_true (by kernel_rfl)) (by rw [V40_eq]; exact h)
theorem ok40 : fnOk Try.prog 40 = true := by kernel_rfl

/-! depot/depotref01.Sound -/
def V41 (a0 : Option Addr) (a0n : Nat) (a0c : Nat) (w : World) (R : Value → World → Prop) : Prop :=
  lp (σ := Int × Unit) (fun s5 w1 k4 => match s5 with
    | (v3, _) =>
    pif (decide (v3 < (a0n : Int))) (
      ixA a0 a0n v3 1 fun p8 =>
      ldI .i64 w1 p8 fun x9 =>
      cl Try.prog 35 [.int .i64 x9] w1 fun e11 w2 => ∃ x10 : Bool, e11 = Ending.returned (.bool x10) ∧
      pif (!x10) (
        R (.bool false) w2) (
        k4 ((IntKind.wrap .i64 (v3 + 1)), ()) w2)) (
      R (.bool true) w1)) (0, ()) w
def An41 : An := .seq (.leaf) (.seq (.seq (.leaf) (.blk (.loop [(3, .one (.int .i64))] (.seq (.seq (.leaf) (.cond (.leaf) (.leaf))) (.seq (.blk (.seq (.leaf) (.cond (.seq (.leaf) (.leaf)) (.leaf)))) (.leaf)))))) (.seq (.leaf) (.leaf)))
theorem V41_eq (a0 : Option Addr) (a0n : Nat) (a0c : Nat) (w : World) (R : Value → World → Prop) : evF Try.prog Try.f41 An41 [.slice a0 a0n a0c] w R = V41 a0 a0n a0c w R := by kernel_rfl
theorem V41_calls (a0 : Option Addr) (a0n : Nat) (a0c : Nat) (w : World) (R : Value → World → Prop) (h : V41 a0 a0n a0c w R) : Calls Try.prog 41 #[.slice a0 a0n a0c] w fun e w' => ∃ v, e = .returned v ∧ R v w' :=
  calls_of_ev (args := [.slice a0 a0n a0c]) Try.func41 (Nat.le_of_ble_eq_true (by kernel_rfl)) (by rw [V41_eq]; exact h)
theorem ok41 : fnOk Try.prog 41 = true := by kernel_rfl

/-! depot/depotref00.HasInt -/
def V42 (a0 : Option Addr) (a0n : Nat) (a0c : Nat) (a1 : Int) (w : World) (R : Value → World → Prop) : Prop :=
  lp (σ := Int × Unit) (fun s5 w1 k4 => match s5 with
    | (v3, _) =>
    pif (decide (v3 < (a0n : Int))) (
      ixA a0 a0n v3 1 fun p8 =>
      ldI .i64 w1 p8 fun x9 =>
      pif (x9 == a1) (
        R (.bool true) w1) (
        k4 ((IntKind.wrap .i64 (v3 + 1)), ()) w1)) (
      R (.bool false) w1)) (0, ()) w
def An42 : An := .seq (.leaf) (.seq (.seq (.leaf) (.blk (.loop [(5, .one (.int .i64))] (.seq (.seq (.leaf) (.cond (.leaf) (.leaf))) (.seq (.blk (.seq (.leaf) (.cond (.seq (.leaf) (.leaf)) (.leaf)))) (.leaf)))))) (.seq (.leaf) (.leaf)))
theorem V42_eq (a0 : Option Addr) (a0n : Nat) (a0c : Nat) (a1 : Int) (w : World) (R : Value → World → Prop) : evF Try.prog Try.f42 An42 [.slice a0 a0n a0c, .int .i64 a1] w R = V42 a0 a0n a0c a1 w R := by kernel_rfl
theorem V42_calls (a0 : Option Addr) (a0n : Nat) (a0c : Nat) (a1 : Int) (w : World) (R : Value → World → Prop) (h : V42 a0 a0n a0c a1 w R) : Calls Try.prog 42 #[.slice a0 a0n a0c, .int .i64 a1] w fun e w' => ∃ v, e = .returned v ∧ R v w' :=
  calls_of_ev (args := [.slice a0 a0n a0c, .int .i64 a1]) Try.func42 (Nat.le_of_ble_eq_true (by kernel_rfl)) (by rw [V42_eq]; exact h)
theorem ok42 : fnOk Try.prog 42 = true := by kernel_rfl

/-! depot/learn.asked -/
def V43 (a0 : Option Addr) (a0n : Nat) (a0c : Nat) (a1 : Option Addr) (a1n : Nat) (a1c : Nat) (a2 : Option Nat) (w : World) (R : Value → World → Prop) : Prop :=
  cl Try.prog 10 [.slice a0 a0n a0c] w fun e4 w1 => ∃ x3 : Bool, e4 = Ending.returned (.bool x3) ∧
  gd (α := Bool) (!(!x3)) (fun k5 =>
    cl Try.prog 39 [.slice a1 a1n a1c] w1 fun e7 w2 => ∃ x6 : Bool, e7 = Ending.returned (.bool x6) ∧
    k5 x6 w2) false w1 fun x8 w3 =>
  pif (cond (!x3) true (!x8)) (
    R (.int .i64 1) w3) (
    lp (σ := Int × Unit) (fun s13 w4 k12 => match s13 with
      | (v11, _) =>
      pif (decide (v11 < (a1n : Int))) (
        ixA a1 a1n v11 1 fun p16 =>
        ldI .i64 w4 p16 fun x17 =>
        ∃ x19 : Int, ∃ w5 : World, (Instr.lookup 52 (.map a2) (.int .i64 x17) false).run Try.prog w4 = .ok (.int .i64 x19) w5 ∧
        pif (x19 == 0) (
          R (.int .i64 2) w5) (
          k12 ((IntKind.wrap .i64 (v11 + 1)), ()) w5)) (
        R (.int .i64 0) w4)) (0, ()) w3)
def An43 : An := .seq (.leaf) (.seq (.seq (.leaf) (.cond (.seq (.leaf) (.leaf)) (.leaf))) (.seq (.seq (.leaf) (.blk (.loop [(19, .one (.int .i64))] (.seq (.leaf) (.seq (.cond (.leaf) (.leaf)) (.seq (.blk (.seq (.leaf) (.seq (.leaf) (.cond (.seq (.leaf) (.leaf)) (.leaf))))) (.leaf))))))) (.seq (.leaf) (.leaf))))
theorem V43_eq (a0 : Option Addr) (a0n : Nat) (a0c : Nat) (a1 : Option Addr) (a1n : Nat) (a1c : Nat) (a2 : Option Nat) (w : World) (R : Value → World → Prop) : evF Try.prog Try.f43 An43 [.slice a0 a0n a0c, .slice a1 a1n a1c, .map a2] w R = V43 a0 a0n a0c a1 a1n a1c a2 w R := by kernel_rfl
theorem V43_calls (a0 : Option Addr) (a0n : Nat) (a0c : Nat) (a1 : Option Addr) (a1n : Nat) (a1c : Nat) (a2 : Option Nat) (w : World) (R : Value → World → Prop) (h : V43 a0 a0n a0c a1 a1n a1c a2 w R) : Calls Try.prog 43 #[.slice a0 a0n a0c, .slice a1 a1n a1c, .map a2] w fun e w' => ∃ v, e = .returned v ∧ R v w' :=
  calls_of_ev (args := [.slice a0 a0n a0c, .slice a1 a1n a1c, .map a2]) Try.func43 (Nat.le_of_ble_eq_true (by kernel_rfl)) (by rw [V43_eq]; exact h)
theorem ok43 : fnOk Try.prog 43 = true := by kernel_rfl

/-! depot/learn.Shrink$1 -/
def V44 (a0 : Int) (c0 : Addr) (c1 : Addr) (c2 : Addr) (c3 : Addr) (c4 : Addr) (w : World) (R : Value → World → Prop) : Prop :=
  jn (σ := Unit) (fun k2 =>
    ldM w c0 fun x5 =>
    ∃ x6 : Int, ∃ w2 : World, (Instr.lookup 52 (.map x5) (.int .i64 a0) false).run Try.prog w = .ok (.int .i64 x6) w2 ∧
    pif (x6 == 0) (
      ldM w2 c0 fun x8 =>
      ∃ w3 : World, (Instr.mapUpdate 52 (.map x8) (.int .i64 a0) (.int .i64 1)).run Try.prog w2 = .ok () w3 ∧
      ldC w3 c1 fun x10 x10n x10c =>
      ldM w3 c2 fun x11 =>
      ∃ x12 : Int, ∃ w4 : World, (Instr.lookup 52 (.map x11) (.int .i64 a0) false).run Try.prog w3 = .ok (.int .i64 x12) w4 ∧
      ixA x10 x10n (IntKind.wrap .i64 (x12 - 1)) 3 fun p13 =>
      ldI .i64 w4 (p13.add 0) fun x14 =>
      ldI .i64 w4 (p13.add 1) fun x15 =>
      ldC w4 (p13.add 2) fun x16 x16n x16c =>
      alc w4 [.int .i64 0, .int .i64 0, .slice none 0 0] 54 fun b17 w5 =>
      st w5 ((⟨b17, 0, none⟩ : Addr).add 0) (.int .i64 x14) fun w6 =>
      st w6 ((⟨b17, 0, none⟩ : Addr).add 1) (.int .i64 x15) fun w7 =>
      st w7 ((⟨b17, 0, none⟩ : Addr).add 2) (.slice x16 x16n x16c) fun w8 =>
      jn (σ := Unit) (fun k18 =>
        ldC w8 ((⟨b17, 0, none⟩ : Addr).add 2) fun x21 x21n x21c =>
        pif ((x21n : Int) == 0) (
          ldM w8 c0 fun x23 =>
          ∃ w10 : World, (Instr.mapUpdate 52 (.map x23) (.int .i64 a0) (.int .i64 2)).run Try.prog w8 = .ok () w10 ∧
          k18 (()) w10) (
          k18 (()) w8)) fun s19 w9 => match s19 with
      | (_) =>
      ldC w9 ((⟨b17, 0, none⟩ : Addr).add 2) fun x25 x25n x25c =>
      lp (σ := Int × Unit) (fun s28 w11 k27 => match s28 with
        | (v26, _) =>
        pif (decide (v26 < (x25n : Int))) (
          ixA x25 x25n v26 1 fun p31 =>
          ldI .i64 w11 p31 fun x32 =>
          ldI .i64 w11 ((⟨b17, 0, none⟩ : Addr).add 0) fun x34 =>
          gd (α := (Option Addr × Nat × Nat)) (x32 != x34) (fun k35 =>
            ldC w11 c1 fun x36 x36n x36c =>
            k35 (x36, x36n, x36c) w11) (none, 0, 0) w11 fun x37 w12 =>
          gd (α := (Option Nat)) (x32 != x34) (fun k38 =>
            ldM w12 c2 fun x39 =>
            k38 x39 w12) none w12 fun x40 w13 =>
          gd (α := Int) (x32 != x34) (fun k41 =>
            ∃ x42 : Int, ∃ w14 : World, (Instr.lookup 52 (.map x40) (.int .i64 x32) false).run Try.prog w13 = .ok (.int .i64 x42) w14 ∧
            k41 x42 w14) 0 w13 fun x43 w15 =>
          gd (α := Addr) (x32 != x34) (fun k44 =>
            ixA x37.1 x37.2.1 (IntKind.wrap .i64 (x43 - 1)) 3 fun p45 =>
            k44 p45 w15) ⟨0, 0, none⟩ w15 fun x46 w16 =>
          gd (α := Int) (x32 != x34) (fun k47 =>
            ldI .i64 w16 (x46.add 1) fun x48 =>
            k47 x48 w16) 0 w16 fun x49 w17 =>
          gd (α := (Option Nat)) (cond (x32 != x34) (decide (x49 > 0)) false) (fun k50 =>
            ldM w17 c3 fun x51 =>
            k50 x51 w17) none w17 fun x52 w18 =>
          gd (α := Int) (cond (x32 != x34) (decide (x49 > 0)) false) (fun k53 =>
            ∃ x54 : Int, ∃ w19 : World, (Instr.lookup 52 (.map x52) (.int .i64 x32) false).run Try.prog w18 = .ok (.int .i64 x54) w19 ∧
            k53 x54 w19) 0 w18 fun x55 w20 =>
          gd (α := Value) (cond (cond (x32 != x34) (decide (x49 > 0)) false) (x55 == 0) false) (fun k56 =>
            ldV w20 c4 fun x57 =>
            k56 x57 w20) undef w20 fun x58 w21 =>
          gd (α := Bool) (cond (cond (x32 != x34) (decide (x49 > 0)) false) (x55 == 0) false) (fun k59 =>
            clF Try.prog (x58) [.int .i64 x32] w21 fun e61 w22 => ∃ x60 : Bool, e61 = Ending.returned (.bool x60) ∧
            k59 x60 w22) false w21 fun x62 w23 =>
          pif (cond (cond (cond (x32 != x34) (decide (x49 > 0)) false) (x55 == 0) false) (!x62) false) (
            ldM w23 c0 fun x64 =>
            ∃ w24 : World, (Instr.mapUpdate 52 (.map x64) (.int .i64 a0) (.int .i64 2)).run Try.prog w23 = .ok () w24 ∧
            k2 (()) w24) (
            k27 ((IntKind.wrap .i64 (v26 + 1)), ()) w23)) (
          k2 (()) w11)) (0, ()) w9) (
      k2 (()) w2)) fun s3 w1 => match s3 with
  | (_) =>
  ldM w1 c0 fun x67 =>
  ∃ x68 : Int, ∃ w25 : World, (Instr.lookup 52 (.map x67) (.int .i64 a0) false).run Try.prog w1 = .ok (.int .i64 x68) w25 ∧
  R (.bool (x68 == 1)) w25
def An44 : An := .seq (.leaf) (.seq (.join [] (.seq (.leaf) (.cond (.seq (.leaf) (.seq (.leaf) (.seq (.join [] (.seq (.leaf) (.cond (.leaf) (.leaf)))) (.seq (.leaf) (.blk (.loop [(33, .one (.int .i64))] (.seq (.leaf) (.seq (.cond (.leaf) (.leaf)) (.seq (.blk (.seq (.leaf) (.seq (.leaf) (.cond (.seq (.leaf) (.leaf)) (.leaf))))) (.leaf)))))))))) (.leaf)))) (.seq (.leaf) (.leaf)))
theorem V44_eq (a0 : Int) (c0 : Addr) (c1 : Addr) (c2 : Addr) (c3 : Addr) (c4 : Addr) (w : World) (R : Value → World → Prop) : evF Try.prog Try.f44 An44 [.int .i64 a0, .pointer (some c0), .pointer (some c1), .pointer (some c2), .pointer (some c3), .pointer (some c4)] w R = V44 a0 c0 c1 c2 c3 c4 w R := by kernel_rfl
theorem V44_calls (a0 : Int) (c0 : Addr) (c1 : Addr) (c2 : Addr) (c3 : Addr) (c4 : Addr) (w : World) (R : Value → World → Prop) (h : V44 a0 c0 c1 c2 c3 c4 w R) : Calls Try.prog 44 #[.int .i64 a0, .pointer (some c0), .pointer (some c1), .pointer (some c2), .pointer (some c3), .pointer (some c4)] w fun e w' => ∃ v, e = .returned v ∧ R v w' :=
  calls_of_ev (args := [.int .i64 a0, .pointer (some c0), .pointer (some c1), .pointer (some c2), .pointer (some c3), .pointer (some c4)]) Try.func44 (Nat.le_of_ble_eq_true (by kernel_rfl)) (by rw [V44_eq]; exact h)
theorem ok44 : fnOk Try.prog 44 = true := by kernel_rfl

/-! depot/depotref15.asked -/
def V45 (a0 : Option Addr) (a0n : Nat) (a0c : Nat) (a1 : Option Addr) (a1n : Nat) (a1c : Nat) (w : World) (R : Value → World → Prop) : Prop :=
  cl Try.prog 12 [.slice a0 a0n a0c] w fun e4 w1 => ∃ x3 : Bool, e4 = Ending.returned (.bool x3) ∧
  gd (α := Bool) (!(!x3)) (fun k5 =>
    cl Try.prog 41 [.slice a1 a1n a1c] w1 fun e7 w2 => ∃ x6 : Bool, e7 = Ending.returned (.bool x6) ∧
    k5 x6 w2) false w1 fun x8 w3 =>
  pif (cond (!x3) true (!x8)) (
    R (.int .i64 1) w3) (
    cl Try.prog 23 [.slice a0 a0n a0c, .slice a1 a1n a1c] w3 fun e12 w4 => ∃ x11 : Bool, e12 = Ending.returned (.bool x11) ∧
    pif (!x11) (
      R (.int .i64 2) w4) (
      R (.int .i64 0) w4))
def An45 : An := .seq (.leaf) (.seq (.seq (.leaf) (.cond (.seq (.leaf) (.leaf)) (.leaf))) (.seq (.seq (.leaf) (.cond (.seq (.leaf) (.leaf)) (.leaf))) (.seq (.leaf) (.leaf))))
theorem V45_eq (a0 : Option Addr) (a0n : Nat) (a0c : Nat) (a1 : Option Addr) (a1n : Nat) (a1c : Nat) (w : World) (R : Value → World → Prop) : evF Try.prog Try.f45 An45 [.slice a0 a0n a0c, .slice a1 a1n a1c] w R = V45 a0 a0n a0c a1 a1n a1c w R := by kernel_rfl
theorem V45_calls (a0 : Option Addr) (a0n : Nat) (a0c : Nat) (a1 : Option Addr) (a1n : Nat) (a1c : Nat) (w : World) (R : Value → World → Prop) (h : V45 a0 a0n a0c a1 a1n a1c w R) : Calls Try.prog 45 #[.slice a0 a0n a0c, .slice a1 a1n a1c] w fun e w' => ∃ v, e = .returned v ∧ R v w' :=
  calls_of_ev (args := [.slice a0 a0n a0c, .slice a1 a1n a1c]) Try.func45 (Nat.le_of_ble_eq_true (by kernel_rfl)) (by rw [V45_eq]; exact h)
theorem ok45 : fnOk Try.prog 45 = true := by kernel_rfl

/-! depot/depotref15.Covered -/
def V46 (a0 : Option Addr) (a0n : Nat) (a0c : Nat) (a1 : Option Addr) (a1n : Nat) (a1c : Nat) (w : World) (R : Value → World → Prop) : Prop :=
  lp (σ := (Option Addr × Nat × Nat) × Int × Unit) (fun s7 w1 k6 => match s7 with
    | ((v4, v4n, v4c), v5, _) =>
    pif (decide (v5 < (a0n : Int))) (
      ixA a0 a0n v5 3 fun p10 =>
      ldC w1 (p10.add 2) fun x11 x11n x11c =>
      lp (σ := Bool × Int × Unit) (fun s16 w2 k15 => match s16 with
        | (v13, v14, _) =>
        ixA a0 a0n v5 3 fun p18 =>
        ldC w2 (p18.add 2) fun x19 x19n x19c =>
        pif (decide (v14 < (x19n : Int))) (
          jn (σ := Bool × Unit) (fun k21 =>
            ixA a0 a0n v5 3 fun p24 =>
            ldC w2 (p24.add 2) fun x25 x25n x25c =>
            ixA x25 x25n v14 1 fun p26 =>
            ldI .i64 w2 p26 fun x27 =>
            cl Try.prog 36 [.slice a0 a0n a0c, .int .i64 x27] w2 fun e30 w4 => ∃ x29 : Int, e30 = Ending.returned (.int .i64 x29) ∧
            ixA a0 a0n v5 3 fun p32 =>
            ldI .i64 w4 (p32.add 0) fun x33 =>
            pif (cond (cond (x27 == x33) true (decide (x29 < 0))) true (decide (x29 ≥ (v4n : Int)))) (
              k21 (v13, ()) w4) (
              ixA a0 a0n x29 3 fun p35 =>
              ldI .i64 w4 (p35.add 1) fun x36 =>
              gd (α := Bool) (decide (x36 > 0)) (fun k37 =>
                cl Try.prog 42 [.slice a1 a1n a1c, .int .i64 x27] w4 fun e39 w5 => ∃ x38 : Bool, e39 = Ending.returned (.bool x38) ∧
                k37 x38 w5) false w4 fun x40 w6 =>
              gd (α := Addr) (cond (decide (x36 > 0)) (!x40) false) (fun k41 =>
                ixA v4 v4n x29 1 fun p42 =>
                k41 p42 w6) ⟨0, 0, none⟩ w6 fun x43 w7 =>
              gd (α := Bool) (cond (decide (x36 > 0)) (!x40) false) (fun k44 =>
                ldB w7 x43 fun x45 =>
                k44 x45 w7) false w7 fun x46 w8 =>
              pif (cond (cond (decide (x36 > 0)) (!x40) false) (!x46) false) (
                k21 (false, ()) w8) (
                k21 (v13, ()) w8))) fun s22 w3 => match s22 with
          | (v20, _) =>
          k15 (v20, (IntKind.wrap .i64 (v14 + 1)), ()) w3) (
          alc w2 [.bool v13] 4 fun b50 w9 =>
          ∃ (x51 : Option Addr) (x51n x51c : Nat), ∃ w10 : World, (Builtin.append_ #[63, 63] 63 #[.slice v4 v4n v4c, .slice (some (⟨b50, 0, none⟩ : Addr)) 1 1]).run Try.prog w9 = .ok (.slice x51 x51n x51c) w10 ∧
          k6 ((x51, x51n, x51c), (IntKind.wrap .i64 (v5 + 1)), ()) w10)) ((decide ((x11n : Int) > 0)), 0, ()) w1) (
      R (.slice v4 v4n v4c) w1)) ((none, 0, 0), 0, ()) w
def An46 : An := .seq (.leaf) (.seq (.leaf) (.seq (.seq (.leaf) (.blk (.loop [(5, .one (.slc)), (6, .one (.int .i64))] (.seq (.seq (.leaf) (.cond (.leaf) (.leaf))) (.seq (.blk (.seq (.leaf) (.seq (.seq (.leaf) (.blk (.loop [(7, .one (.bool)), (8, .one (.int .i64))] (.seq (.seq (.leaf) (.cond (.leaf) (.leaf))) (.seq (.join [(7, .one (.bool))] (.blk (.seq (.leaf) (.seq (.leaf) (.seq (.seq (.leaf) (.cond (.leaf) (.leaf))) (.seq (.leaf) (.cond (.leaf) (.leaf)))))))) (.leaf)))))) (.leaf)))) (.leaf)))))) (.seq (.leaf) (.leaf))))
theorem V46_eq (a0 : Option Addr) (a0n : Nat) (a0c : Nat) (a1 : Option Addr) (a1n : Nat) (a1c : Nat) (w : World) (R : Value → World → Prop) : evF Try.prog Try.f46 An46 [.slice a0 a0n a0c, .slice a1 a1n a1c] w R = V46 a0 a0n a0c a1 a1n a1c w R := by kernel_rfl
theorem V46_calls (a0 : Option Addr) (a0n : Nat) (a0c : Nat) (a1 : Option Addr) (a1n : Nat) (a1c : Nat) (w : World) (R : Value → World → Prop) (h : V46 a0 a0n a0c a1 a1n a1c w R) : Calls Try.prog 46 #[.slice a0 a0n a0c, .slice a1 a1n a1c] w fun e w' => ∃ v, e = .returned v ∧ R v w' :=
  calls_of_ev (args := [.slice a0 a0n a0c, .slice a1 a1n a1c]) Try.func46 (Nat.le_of_ble_eq_true (by kernel_rfl)) (by rw [V46_eq]; exact h)
theorem ok46 : fnOk Try.prog 46 = true := by kernel_rfl

/-! depot/depotref15.Level -/
def V50 (a0 : Option Addr) (a0n : Nat) (a0c : Nat) (a1 : Int) (w : World) (R : Value → World → Prop) : Prop :=
  cl Try.prog 36 [.slice a0 a0n a0c, .int .i64 a1] w fun e4 w1 => ∃ x3 : Int, e4 = Ending.returned (.int .i64 x3) ∧
  pif (decide (x3 < 0)) (
    R (.int .i64 0) w1) (
    ixA a0 a0n x3 3 fun p8 =>
    ldI .i64 w1 (p8.add 1) fun x9 =>
    R (.int .i64 x9) w1)
def An50 : An := .seq (.leaf) (.seq (.leaf) (.seq (.seq (.leaf) (.cond (.seq (.leaf) (.leaf)) (.leaf))) (.seq (.leaf) (.leaf))))
theorem V50_eq (a0 : Option Addr) (a0n : Nat) (a0c : Nat) (a1 : Int) (w : World) (R : Value → World → Prop) : evF Try.prog Try.f50 An50 [.slice a0 a0n a0c, .int .i64 a1] w R = V50 a0 a0n a0c a1 w R := by kernel_rfl
theorem V50_calls (a0 : Option Addr) (a0n : Nat) (a0c : Nat) (a1 : Int) (w : World) (R : Value → World → Prop) (h : V50 a0 a0n a0c a1 w R) : Calls Try.prog 50 #[.slice a0 a0n a0c, .int .i64 a1] w fun e w' => ∃ v, e = .returned v ∧ R v w' :=
  calls_of_ev (args := [.slice a0 a0n a0c, .int .i64 a1]) Try.func50 (Nat.le_of_ble_eq_true (by kernel_rfl)) (by rw [V50_eq]; exact h)
theorem ok50 : fnOk Try.prog 50 = true := by kernel_rfl

/-! depot/depotkit.mark -/
def V54 (a0 : Int) (a1 : Int) (w : World) (R : Value → World → Prop) : Prop :=
  R (.int .i64 (IntKind.wrap .i64 ((IntKind.wrap .i64 (1000003 * (IntKind.wrap .i64 (a0 + 7)))) + a1))) w
def An54 : An := .seq (.leaf) (.seq (.leaf) (.leaf))
theorem V54_eq (a0 : Int) (a1 : Int) (w : World) (R : Value → World → Prop) : evF Try.prog Try.f54 An54 [.int .i64 a0, .int .i64 a1] w R = V54 a0 a1 w R := by kernel_rfl
theorem V54_calls (a0 : Int) (a1 : Int) (w : World) (R : Value → World → Prop) (h : V54 a0 a1 w R) : Calls Try.prog 54 #[.int .i64 a0, .int .i64 a1] w fun e w' => ∃ v, e = .returned v ∧ R v w' :=
  calls_of_ev (args := [.int .i64 a0, .int .i64 a1]) Try.func54 (Nat.le_of_ble_eq_true (by kernel_rfl)) (by rw [V54_eq]; exact h)
theorem ok54 : fnOk Try.prog 54 = true := by kernel_rfl

/-! depot/lits.Has -/
def V55 (a0 : Option Addr) (a0n : Nat) (a0c : Nat) (a1 : Int) (w : World) (R : Value → World → Prop) : Prop :=
  cl Try.prog 33 [.int .i64 a1] w fun e4 w1 => ∃ x3 : Bool, e4 = Ending.returned (.bool x3) ∧
  gd (α := Bool) x3 (fun k5 =>
    cl Try.prog 60 [.slice a0 a0n a0c, .int .i64 a1] w1 fun e7 w2 => ∃ x6 : Bool, e7 = Ending.returned (.bool x6) ∧
    k5 x6 w2) false w1 fun x8 w3 =>
  R (.bool (cond x3 x8 false)) w3
def An55 : An := .seq (.leaf) (.seq (.leaf) (.leaf))
theorem V55_eq (a0 : Option Addr) (a0n : Nat) (a0c : Nat) (a1 : Int) (w : World) (R : Value → World → Prop) : evF Try.prog Try.f55 An55 [.slice a0 a0n a0c, .int .i64 a1] w R = V55 a0 a0n a0c a1 w R := by kernel_rfl
theorem V55_calls (a0 : Option Addr) (a0n : Nat) (a0c : Nat) (a1 : Int) (w : World) (R : Value → World → Prop) (h : V55 a0 a0n a0c a1 w R) : Calls Try.prog 55 #[.slice a0 a0n a0c, .int .i64 a1] w fun e w' => ∃ v, e = .returned v ∧ R v w' :=
  calls_of_ev (args := [.slice a0 a0n a0c, .int .i64 a1]) Try.func55 (Nat.le_of_ble_eq_true (by kernel_rfl)) (by rw [V55_eq]; exact h)
theorem ok55 : fnOk Try.prog 55 = true := by kernel_rfl

/-! slices.Contains[[]int,int] -/
def V60 (a0 : Option Addr) (a0n : Nat) (a0c : Nat) (a1 : Int) (w : World) (R : Value → World → Prop) : Prop :=
  cl Try.prog 65 [.slice a0 a0n a0c, .int .i64 a1] w fun e4 w1 => ∃ x3 : Int, e4 = Ending.returned (.int .i64 x3) ∧
  R (.bool (decide (x3 ≥ 0))) w1
def An60 : An := .seq (.leaf) (.seq (.leaf) (.leaf))
theorem V60_eq (a0 : Option Addr) (a0n : Nat) (a0c : Nat) (a1 : Int) (w : World) (R : Value → World → Prop) : evF Try.prog Try.f60 An60 [.slice a0 a0n a0c, .int .i64 a1] w R = V60 a0 a0n a0c a1 w R := by kernel_rfl
theorem V60_calls (a0 : Option Addr) (a0n : Nat) (a0c : Nat) (a1 : Int) (w : World) (R : Value → World → Prop) (h : V60 a0 a0n a0c a1 w R) : Calls Try.prog 60 #[.slice a0 a0n a0c, .int .i64 a1] w fun e w' => ∃ v, e = .returned v ∧ R v w' :=
  calls_of_ev (args := [.slice a0 a0n a0c, .int .i64 a1]) Try.func60 (Nat.le_of_ble_eq_true (by kernel_rfl)) (by rw [V60_eq]; exact h)
theorem ok60 : fnOk Try.prog 60 = true := by kernel_rfl

/-! slices.Index[[]int,int] -/
def V65 (a0 : Option Addr) (a0n : Nat) (a0c : Nat) (a1 : Int) (w : World) (R : Value → World → Prop) : Prop :=
  lp (σ := Int × Unit) (fun s5 w1 k4 => match s5 with
    | (v3, _) =>
    pif (decide (v3 < (a0n : Int))) (
      ixA a0 a0n v3 1 fun p9 =>
      ldI .i64 w1 p9 fun x10 =>
      pif (a1 == x10) (
        R (.int .i64 v3) w1) (
        k4 ((IntKind.wrap .i64 (v3 + 1)), ()) w1)) (
      R (.int .i64 (-1)) w1)) (0, ()) w
def An65 : An := .seq (.leaf) (.seq (.seq (.leaf) (.blk (.loop [(8, .one (.int .i64))] (.seq (.leaf) (.seq (.cond (.leaf) (.leaf)) (.seq (.blk (.seq (.leaf) (.seq (.leaf) (.cond (.seq (.leaf) (.leaf)) (.leaf))))) (.leaf))))))) (.seq (.leaf) (.leaf)))
theorem V65_eq (a0 : Option Addr) (a0n : Nat) (a0c : Nat) (a1 : Int) (w : World) (R : Value → World → Prop) : evF Try.prog Try.f65 An65 [.slice a0 a0n a0c, .int .i64 a1] w R = V65 a0 a0n a0c a1 w R := by kernel_rfl
theorem V65_calls (a0 : Option Addr) (a0n : Nat) (a0c : Nat) (a1 : Int) (w : World) (R : Value → World → Prop) (h : V65 a0 a0n a0c a1 w R) : Calls Try.prog 65 #[.slice a0 a0n a0c, .int .i64 a1] w fun e w' => ∃ v, e = .returned v ∧ R v w' :=
  calls_of_ev (args := [.slice a0 a0n a0c, .int .i64 a1]) Try.func65 (Nat.le_of_ble_eq_true (by kernel_rfl)) (by rw [V65_eq]; exact h)
theorem ok65 : fnOk Try.prog 65 = true := by kernel_rfl

end Go.Proofs.Ytlbpllpomdjooaa.T
